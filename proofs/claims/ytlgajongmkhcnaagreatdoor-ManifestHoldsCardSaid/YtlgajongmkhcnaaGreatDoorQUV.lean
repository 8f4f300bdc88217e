import Derived.Test.YtlgajongmkhcnaaGreatDoorQUK
import Derived.Test.YtlgajongmkhcnaaGreatDoorQUL
set_option maxRecDepth 100000
set_option linter.unusedVariables false
set_option linter.unusedSimpArgs false
set_option maxHeartbeats 32000000
namespace Go.Proofs.YtlgajongmkhcnaaGreatDoor
open Go.RowKit Go.Sort
theorem Zet {ls : List Lev} {X : Man} {vl v : Value} (w : World) (hr : RdLevs w vl ls) (hf : ∀ l ∈ ls, Z0K l) (pN : ls.length <= 100000) (hx : ∃ a n c, v = .slice a n c /\ (n = X.lines.length)) (pF : Z0g ls = false \/ X.lines.length ≠ ls.length) :
 Calls Tryz.prog 17 #[vl, Z6p X v] w fun e w' => e = .returned (.tuple #[.string ⟨#[]⟩, .int .i64 2]) /\ Below w.1.size w w' := by
 obtain ⟨W0, pB⟩ : ∃ W0, W0 = w.alloc (.cells #[v, .int .i64 X.total.level, .int .i64 X.total.pieces, .int .i64 X.total.barred, .int .i64 X.total.grams, .int .i64 X.total.base, .int .i64 X.total.bar, .int .i64 X.total.saved, .int .i64 X.total.cents, .int .i64 X.buns, .int .i64 X.tras, .int .i64 X.cons] 44) := ⟨_, rfl⟩
 have pG : W0.1[w.1.size]? = some (.cells #[v, .int .i64 X.total.level, .int .i64 X.total.pieces, .int .i64 X.total.barred, .int .i64 X.total.grams, .int .i64 X.total.base, .int .i64 X.total.bar, .int .i64 X.total.saved, .int .i64 X.total.cents, .int .i64 X.buns, .int .i64 X.tras, .int .i64 X.cons] 44) := by rw [pB]; exact Z02 w _
 have pH : Below w.1.size w W0 := by rw [pB]; exact (Z9 _ w).alloc (Z1 _) _
 have pO : W0.1.size = w.1.size + 1 := by rw [pB]; simp
 have pC := fun W (hW : Below w.1.size w W) => Z1X ls vl W (hr.below hW) hf (by unfold maxLen; omega)
 obtain ⟨al, cl, rfl, _⟩ := hr
 obtain ⟨ax, nx, cx, rfl, rfl⟩ := hx
 have pK := Z0 pB
 have pD := Z0 pH
 have pL := Z0 pG
 unfold Z6p
 cases pE : Z0g ls
 ·rw [pE] at pC
  have pI := Z0 pC
  clear pB pH pG pC hf pF pE
  go_enter Tryz.func17, Tryz.ntmps17
  go_wp2_with fail
  rw [<- pK.out]
  refine (pI.out _ pD.out).mono ?_
  rintro e w1 ⟨rfl, pA⟩
  have pJ := Z0 (Z01 pD.out pD.out.size pA)
  clear pA
  go_wp2_with fail
  go_ret2
  exact ⟨rfl, pJ.out⟩
 ·have pM : X.lines.length ≠ ls.length := by
   rcases pF with h | h
   ·rw [pE] at h; cases h
   ·exact h
  have pP : ((X.lines.length : Int) != (ls.length : Int)) = true := by simp; omega
  rw [pE] at pC
  have pI := Z0 pC
  clear pB pH pG pC hf pF pE pM
  go_enter Tryz.func17, Tryz.ntmps17
  go_wp2_with fail
  rw [<- pK.out]
  refine (pI.out _ pD.out).mono ?_
  rintro e w1 ⟨rfl, pA⟩
  have pQ := pA.size
  have k1 := (pA.block w.1.size (by omega)).trans pL.out
  have x0 := Kaa _ _ 0 _ _ _ k1
  have pJ := Z0 (Z01 pD.out pD.out.size pA)
  clear pA k1
  go_wp2_with fail
  go_ret2
  exact ⟨rfl, pJ.out⟩
end Go.Proofs.YtlgajongmkhcnaaGreatDoor
