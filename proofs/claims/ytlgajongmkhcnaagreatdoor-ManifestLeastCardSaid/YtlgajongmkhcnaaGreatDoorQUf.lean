import Derived.Test.YtlgajongmkhcnaaGreatDoorQUe
import Derived.Test.YtlgajongmkhcnaaGreatDoorQUP
import Derived.Test.YtlgajongmkhcnaaGreatDoorQUR
set_option maxRecDepth 100000
set_option linter.unusedVariables false
set_option linter.unusedSimpArgs false
set_option maxHeartbeats 32000000
namespace Go.Proofs.YtlgajongmkhcnaaGreatDoor
open Go.RowKit
theorem ZlQ (f g : Nat -> Int) : ∀ l : List Nat, (l.map (fun x => f x - g x)).sum = (l.map f).sum - (l.map g).sum
 | [] => rfl
 | x :: r => by rw [Kan, Kan, Kan, Ka7, Ka7, Ka7, ZlQ f g r]; omega
theorem Zmt {K n : Nat} {zs : List Int} (hn : Z1j K zs = true) (hl : zs.length = n) : ∀ i, i < n -> ∃ z : Nat, z < K /\ zs.getD i (-1) = (z : Int) := fun i hi => by
 obtain ⟨a, b⟩ := Z72 hn i (by omega)
 refine ⟨zs[i].toNat, by omega, ?_⟩
 rw [Z2, Z3 (by omega)]
 show zs[i] = _
 omega
section
variable {n : Nat} {ps : List UInt8} {ls : List Lev} {l : List UInt16}
theorem Zmo {zs : List Int} (pA : zs.length = (Z04 l).ps.length) : ((List.range (Z04 l).ps.length).map (fun i => Z5I ls (zs.getD i (-1)))).sum = Zla ls zs (Z04 l).ps.length := by
 unfold Zla
 congr 1
 refine Kcf (by simp [pA]) (fun i h1 h2 => ?_)
 have hi : i < zs.length := by simp at h2; omega
 simp only [Kba, Kbv, List.getElem_take]
 rw [Z2, Z3 hi]
 rfl
theorem ZlJ {zs : List Int} (pA : zs.length = (Z04 l).ps.length) (hn : Z1j ls.length zs = true) (L : Lod) :
 (Z5y n ps ls l zs L).total.cents = (Z5y n ps ls l zs L).total.base - (Z5y n ps ls l zs L).total.bar - Zla ls zs (Z04 l).ps.length := by
 have hz := Zmt hn pA
 unfold Z5y
 rw [Z6y Zdc _ _ _ _ hz, Z6y ZjL _ _ _ _ hz, Z6y Zkt _ _ _ _ hz, <- Zmo (ls := ls) pA, <- ZlQ, <- ZlQ]
 rfl
theorem Zm1 {zs zs' : List Int} (pA : zs.length = (Z04 l).ps.length) (hn : Z1j ls.length zs = true) (pD : zs'.length = (Z04 l).ps.length) (hn' : Z1j ls.length zs' = true) (L L' : Lod) :
 (Z5y n ps ls l zs L).total.base = (Z5y n ps ls l zs' L').total.base /\ (Z5y n ps ls l zs L).total.bar = (Z5y n ps ls l zs' L').total.bar /\ (Z5y n ps ls l zs L).total.pieces = (Z5y n ps ls l zs' L').total.pieces := by
 have hz := Zmt hn pA
 have hz' := Zmt hn' pD
 unfold Z5y
 rw [Z6y ZjL _ _ _ _ hz, Z6y Zkt _ _ _ _ hz, Z6y ZaZ _ _ _ _ hz, Z6y ZjL _ _ _ _ hz', Z6y Zkt _ _ _ _ hz', Z6y ZaZ _ _ _ _ hz']
 exact ⟨rfl, rfl, rfl⟩
theorem Zlx (h : HasPlan ls (Z04 l)) {zs : List Int} (pA : zs.length = (Z04 l).ps.length) (hn : Z1j ls.length zs = true) (hv : Z2o ls zs (Z16 ls (Z07 (Z04 l).ps) ls.length) = true) (L L' : Lod) :
 (Z5y n ps ls l (Z3W ls (Z04 l)) L).total.cents <= (Z5y n ps ls l zs L').total.cents := by
 have pB := Z6U ls (Z04 l)
 obtain ⟨e1, e2, _⟩ := Zm1 (n := n) (ps := ps) pB h.nums pA hn L L'
 rw [ZlJ pB h.nums, ZlJ pA hn, e1, e2]
 have hb := Zma h.right h.code h.pre (zs := zs) (by rw [Z1G]; exact pA) hn hv
 rw [Z1G] at hb
 have hb' : Zla ls zs (Z04 l).ps.length <= Zla ls (Z3W ls (Z04 l)) (Z04 l).ps.length := hb
 omega
end
theorem Zln {ls : List Lev} {m : Mai} (h : HasPlan ls m) {zs : List Int} (pA : zs.length = m.ps.length) (hn : Z1j ls.length zs = true) {k : Pck} (hk : Z7K k = true) :
 Zb3 ls m zs k = if Z2o ls zs (Z16 ls (Z07 m.ps) ls.length) = true then 0 else 2 := by
 unfold Zb3
 rw [Z9D h.right h.mail h.pre pA hn]
 simp [hk]
theorem ZlK {L : List (Int × Int)} {gs : List PGrp} {n : Nat} {p p' : Int -> Int} (hF : Forest2 L gs n) (h : ∀ i : Int, 0 <= i -> i < (n : Int) -> p i = p' i) (ho : PlanOk L gs p) : PlanOk L gs p' := by
 have hr : ∀ g, g < gs.length -> ∀ i ∈ (Z0c gs g).items, p i = p' i := fun g hg i hi => h i (hF.range g hg i hi).1 (hF.range g hg i hi).2
 refine ⟨fun g hg i hi => by rw [<- hr g hg i hi]; exact ho.num g hg i hi, fun g hg => ?_⟩
 have e : takeN p' (Z0c gs g) = takeN p (Z0c gs g) := by
  unfold takeN
  exact List.countP_congr (fun i hi => by rw [hr g hg i hi])
 rw [e]
 exact ho.enough g hg
def ZlG (n K : Nat) : List Int := List.replicate n ((K : Int) - 1)
theorem ZlM {ls : List Lev} {m : Mai} (h : HasPlan ls m) : Z1j ls.length (ZlG m.ps.length ls.length) = true /\ Z2o ls (ZlG m.ps.length ls.length) (Z16 ls (Z07 m.ps) ls.length) = true := by
 have hF := Z9j h.right h.code h.pre
 have pE := Z0y h.right
 have pC : ∀ i (hi : i < (ZlG m.ps.length ls.length).length), (ZlG m.ps.length ls.length)[i] = (ls.length : Int) - 1 := fun i hi => List.getElem_replicate ..
 have hn : Z1j ls.length (ZlG m.ps.length ls.length) = true := Zad (fun i hi => by rw [pC i hi]; omega)
 have hz : (ZlG m.ps.length ls.length).length = (Z07 m.ps).length := by rw [Z1G]; unfold ZlG; rw [Kcb]
 refine ⟨hn, (Zem h.right h.code h.pre hz hn).2 ?_⟩
 refine ZlK hF.toForest2 (fun i h0 h1 => ?_) (Zji hF)
 obtain ⟨j, rfl⟩ : ∃ j : Nat, i = (j : Int) := ⟨i.toNat, by omega⟩
 rw [Zfe (by omega), pC j (by omega), Z3x]
def Zl5 (zs : List Int) (K lv : Nat) : List Int := zs.map (fun z => if z = (lv : Int) /\ lv + 1 < K then (lv : Int) + 1 else z)
theorem Zld (zs : List Int) (K lv : Nat) : (Zl5 zs K lv).length = zs.length := by unfold Zl5; rw [Z7]
theorem Zm5 {zs : List Int} (K lv : Nat) {i : Nat} (hi : i < zs.length) : (Zl5 zs K lv)[i]'(by rw [Zld]; exact hi) = if zs[i] = (lv : Int) /\ lv + 1 < K then (lv : Int) + 1 else zs[i] := Kba ..
theorem Zmc {zs : List Int} {K : Nat} (lv : Nat) (h : Z1j K zs = true) : Z1j K (Zl5 zs K lv) = true := Zad (fun i hi => by
 have hi' : i < zs.length := by rw [Zld] at hi; exact hi
 obtain ⟨a, b⟩ := Z72 h i hi'
 rw [Zm5 K lv hi']
 split <;> omega)
end Go.Proofs.YtlgajongmkhcnaaGreatDoor
