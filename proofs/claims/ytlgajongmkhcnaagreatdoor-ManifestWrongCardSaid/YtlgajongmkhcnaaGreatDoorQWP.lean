import Derived.Test.YtlgajongmkhcnaaGreatDoorQWK
import Derived.Test.YtlgajongmkhcnaaGreatDoorQWC
import Derived.Test.YtlgajongmkhcnaaGreatDoorQWF
import Derived.Test.YtlgajongmkhcnaaGreatDoorQWO
import Derived.Test.YtlgajongmkhcnaaGreatDoorQWN
import Derived.Test.YtlgajongmkhcnaaGreatDoorQWM
import Derived.Test.YtlgajongmkhcnaaGreatDoorQWV
set_option maxRecDepth 100000
set_option linter.unusedVariables false
set_option linter.unusedSimpArgs false
set_option maxHeartbeats 32000000
namespace Go.Proofs.YtlgajongmkhcnaaGreatDoor
section
open Go.RowKit
theorem Zb0 (B : Bits) (least cents : List UInt8) : ∀ l ∈ Z1c B least cents, 0 <= l.cents /\ l.cents <= 255 := by
 have hb : ∀ k, 0 <= ((cents.getD k 0).toNat : Int) /\ ((cents.getD k 0).toNat : Int) <= 255 := fun k => Zbt _
 have hA : ∀ (acc : List Lev) (lv : Lev), (∀ l ∈ acc, 0 <= l.cents /\ l.cents <= 255) -> ∀ l ∈ Zap least cents acc lv, 0 <= l.cents /\ l.cents <= 255 := fun acc lv h l hl => by
  unfold Zap at hl
  rcases ZG.1 hl with hl | hl
  ·exact h l hl
  ·obtain rfl := ZI.1 hl
   exact hb _
 have h1 : ∀ l ∈ mk1 B least cents, 0 <= l.cents /\ l.cents <= 255 := by
  unfold mk1
  split
  ·exact hA _ _ (fun l hl => by cases hl)
  ·exact fun l hl => by cases hl
 have h2 : ∀ l ∈ mk2 B least cents, 0 <= l.cents /\ l.cents <= 255 := by
  unfold mk2
  split
  ·exact hA _ _ h1
  ·exact h1
 have h3 : ∀ l ∈ mk3 B least cents, 0 <= l.cents /\ l.cents <= 255 := by
  unfold mk3
  split
  ·exact hA _ _ h2
  ·exact h2
 intro l hl
 unfold Z1c at hl
 rcases ZG.1 hl with hl | hl
 ·exact h3 l hl
 ·obtain rfl := ZI.1 hl
  exact hb _
theorem ZhG (n : Nat) (ps : List UInt8) : 0 < (Z3P n ps).rates.length := by
 have := Z4p n
 simp only [Z3P, Z7, Kay]; omega
theorem ZiK (n : Nat) (ps : List UInt8) : (Z3P n ps).rates[0]'(ZhG n ps) = Z2i ps n 0 := by simp [Z3P]
theorem Z6A (l : List UInt16) : ∀ p ∈ (Z05 l).ps, 1 <= p.grams /\ p.grams <= 20 := by
 intro p hp
 unfold Z05 ZbV at hp
 obtain ⟨i, _, rfl⟩ := Kae.1 hp
 have := Kcj ((l.getD i 0).toNat / 4) (show 0 < 20 by decide)
 unfold p24
 dsimp only
 omega
end
section
open Go.RowKit Go.Sort
structure Mk27 (n : Nat) (ps : List UInt8) (ls : List Lev) (l : List UInt16) : Prop where
 hp : HasPlan ls (Z05 l)
 ct : ∀ x ∈ ls, 0 <= x.cents /\ x.cents <= 255
section
variable {n : Nat} {ps : List UInt8} {ls : List Lev} {l : List UInt16}
theorem Mk27.cz (h : Mk27 n ps ls l) : ∀ p ∈ (Z05 l).ps, p.code.size <= maxLen := fun p hp => by have := Z0i ((Z1w h.hp.mail).2 p hp); unfold maxLen; omega
theorem Mk27.fits (h : Mk27 n ps ls l) : ∀ x ∈ ls, Z0x x := Z1t h.hp.right
theorem ZiJ (n : Nat) (ps : List UInt8) (l : List UInt16) : ((Z3P n ps).rates[0]'(ZhG n ps)).cls = (Z05 l).cls := by rw [ZiK]; rfl
theorem Z7Y {K : Nat} {zs : List Int} (h : Z1K K zs = true) : ∀ x ∈ zs, 0 <= x /\ x < (K : Int) := fun x hx => by
 obtain ⟨i, hi, rfl⟩ := List.getElem_of_mem hx
 exact Z6D h i hi
end
def ZjB (n : Nat) (ps : List UInt8) (args : Array Value) (w : World) : Prop :=
 ∀ W, Below w.1.size w W -> Calls Tryz.prog 9 args W fun e w' => ∃ ar cr az cz, e = .returned (.agg #[.slice ar (Z3P n ps).rates.length cr, .slice az (Z3P n ps).zones.length cz]) /\ Below W.1.size W w' /\ RdTar w' (.slice ar (Z3P n ps).rates.length cr) (.slice az (Z3P n ps).zones.length cz) (Z3P n ps)
theorem Zjg {n : Nat} {ps : List UInt8} {vp : Value} {w : World} (hn : n < 4294967296) (hr : RdBytes w vp ps) (hl : ps.length <= maxLen) : ZjB n ps #[.int .u32 (n : Nat), vp] w := by
 intro W hW
 refine (Zdb n ps vp W hn (hr.below hW) hl).mono ?_
 rintro e w' ⟨a, ca, b, cb, rfl, hb, hT⟩
 have e1 : (Z3P n ps).rates.length = Z3d n := by simp [Z3P]
 have e2 : (Z3P n ps).zones.length = (Z0v n 9).length := rfl
 rw [e1, e2]
 exact ⟨a, ca, b, cb, rfl, hb, hT⟩
end
end Go.Proofs.YtlgajongmkhcnaaGreatDoor
