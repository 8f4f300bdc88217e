import Derived.Test.YtelklmdlodgdpaaGreatGG
import Derived.Test.YtelklmdlodgdpaaGreatWP
import Derived.Test.YtelklmdlodgdpaaGreatGJ
import Derived.Test.YtelklmdlodgdpaaGreatWS
/-! P17 -/
namespace Go.Proofs.YtelklmdlodgdpaaGreat
open Go.RowKit
set_option linter.unusedVariables false
set_option maxRecDepth 100000
variable {ls : List Lev} {cs : List ByteArray}
/-- A plan as a function of the pieces. -/
def pf (zs : List Int) (i : Int) : Int := zs.getD i.toNat 0
theorem pf_get {zs : List Int} {i : Nat} (h : i < zs.length) : pf zs (i : Int) = zs[i] := by
  unfold pf
  rw [Int.toNat_natCast, List.getD_eq_getElem?_getD, List.getElem?_eq_getElem h]; rfl
theorem takes_n {zs : List Int} {x : Grp} (hr : ∀ i ∈ x.items, 0 ≤ i ∧ i < (zs.length : Int)) : takesTo zs x x.items.length = takeN (pf zs) (pOf x) := by
  unfold takesTo takeN
  rw [List.take_of_length_le (Nat.le_refl _)]
  refine List.countP_congr (fun i hi => ?_)
  obtain ⟨a, b⟩ := hr i hi
  obtain ⟨j, rfl⟩ : ∃ j : Nat, i = (j : Int) := ⟨i.toNat, by omega⟩
  have hj : j < zs.length := by omega
  rw [pf_get hj, Int.toNat_natCast, List.getD_eq_getElem?_getD, List.getElem?_eq_getElem hj]
  exact Iff.rfl
theorem minAt_eq (ls : List Lev) (z : Int) : minAt ls z = ((plsOf ls).getD z.toNat (0, 0)).1 := by
  unfold minAt plsOf
  rw [List.getD_eq_getElem?_getD, List.getD_eq_getElem?_getD, List.getElem?_map]
  cases ls[z.toNat]? <;> rfl
theorem centsAt_eq (ls : List Lev) (z : Int) : centsAt ls z = centI (plsOf ls) z := by
  unfold centsAt centI plsOf
  rw [List.getD_eq_getElem?_getD, List.getD_eq_getElem?_getD, List.getElem?_map]
  cases ls[z.toNat]? <;> rfl
theorem pG_pOf {g : Nat} (h : g < (gAll ls cs ls.length).length) : gsAt (pG ls cs) g = pOf (gAll ls cs ls.length)[g] := gsAt_get h
theorem valid_iff (h : rightB ls = true) (hc : ∀ c ∈ cs, codeB c = true) (hp : ∀ l ∈ ls, ∀ c ∈ cs, l.pre ≤ c.size) {zs : List Int} (hz : zs.length = cs.length) (hn : numsB ls.length zs = true) :
    grpsOkB ls zs (gAll ls cs ls.length) = true ↔ PlanOk (plsOf ls) (pG ls cs) (pf zs) := by
  have hF := forest3 h hc hp
  have hlen : (pG ls cs).length = (gAll ls cs ls.length).length := pOfs_len _
  have hg : ∀ g (hg : g < (gAll ls cs ls.length).length), grpOkB ls zs (gAll ls cs ls.length)[g] = true ↔ (takeN (pf zs) (gsAt (pG ls cs) g) = 0 ∨ (lvOf (plsOf ls) (pG ls cs) g).1 ≤ (takeN (pf zs) (gsAt (pG ls cs) g) : Int)) := fun g hg => by
    have hr := hF.range g (by omega)
    rw [pG_pOf hg] at hr
    unfold grpOkB
    rw [takes_n (fun i hi => by have := hr i hi; omega), minAt_eq]
    unfold lvOf
    rw [pG_pOf hg]
    simp only [Bool.not_eq_true', Bool.and_eq_false_iff, decide_eq_false_iff_not]
    show (¬ 0 < takeN (pf zs) (pOf (gAll ls cs ls.length)[g]) ∨ ¬ (takeN (pf zs) (pOf (gAll ls cs ls.length)[g]) : Int) < ((plsOf ls).getD ((gAll ls cs ls.length)[g].lvl).toNat (0, 0)).1) ↔ (takeN (pf zs) (pOf (gAll ls cs ls.length)[g]) = 0 ∨ ((plsOf ls).getD ((gAll ls cs ls.length)[g].lvl).toNat (0, 0)).1 ≤ (takeN (pf zs) (pOf (gAll ls cs ls.length)[g]) : Int))
    omega
  unfold grpsOkB
  rw [List.all_eq_true]
  constructor
  · intro ha
    refine ⟨fun g h1 i hi => ?_, fun g h1 => (hg g (by omega)).1 (ha _ (List.getElem_mem (by omega)))⟩
    obtain ⟨a, b⟩ := hF.range g h1 i hi
    obtain ⟨j, rfl⟩ : ∃ j : Nat, i = (j : Int) := ⟨i.toNat, by omega⟩
    rw [pf_get (by omega), plsOf_len]
    exact nums_at hn j (by omega)
  · intro ha x hx
    obtain ⟨g, h1, rfl⟩ := List.mem_iff_getElem.1 hx
    exact (hg g h1).2 (ha.enough g (by omega))
theorem saves_total (ls : List Lev) (zs : List Int) : savesTo ls zs zs.length = totalI (plsOf ls) (pf zs) zs.length := by
  unfold savesTo totalI
  rw [List.take_of_length_le (Nat.le_refl _)]
  congr 1
  apply List.ext_getElem (by simp)
  intro i h1 h2
  have hi : i < zs.length := by simpa using h1
  simp only [List.getElem_map, List.getElem_range]
  rw [centsAt_eq, show pf zs (Int.ofNat i) = zs[i] from pf_get hi]
/-- The plan of a mailing, in the words of its codes. -/
def planC (ls : List Lev) (cs : List ByteArray) : List Int := planR (plsOf ls) (pG ls cs) cs.length
theorem planC_len (ls : List Lev) (cs : List ByteArray) : (planC ls cs).length = cs.length := by
  unfold planC
  rw [planR_eq, planTo_len, List.length_replicate]
theorem planC_pf (ls : List Lev) (cs : List ByteArray) : pf (planC ls cs) = planP (plsOf ls) (pG ls cs) cs.length := rfl
theorem planC_nums (h : rightB ls = true) (hc : ∀ c ∈ cs, codeB c = true) (hp : ∀ l ∈ ls, ∀ c ∈ cs, l.pre ≤ c.size) : numsB ls.length (planC ls cs) = true := by
  have hF := forest3 h hc hp
  refine nums_true (fun k hk => ?_)
  have hk' : k < cs.length := by rw [planC_len] at hk; exact hk
  obtain ⟨g, h1, _, h3⟩ := hF.cover (k : Int) (by omega) (by omega)
  have := (planP_ok hF).num g h1 _ h3
  rw [← planC_pf, pf_get hk, plsOf_len] at this
  exact this
theorem planC_ok (h : rightB ls = true) (hc : ∀ c ∈ cs, codeB c = true) (hp : ∀ l ∈ ls, ∀ c ∈ cs, l.pre ≤ c.size) : grpsOkB ls (planC ls cs) (gAll ls cs ls.length) = true :=
  (valid_iff h hc hp (planC_len ls cs) (planC_nums h hc hp)).2 (planP_ok (forest3 h hc hp))
/-- No valid plan saves more. -/
theorem planC_best (h : rightB ls = true) (hc : ∀ c ∈ cs, codeB c = true) (hp : ∀ l ∈ ls, ∀ c ∈ cs, l.pre ≤ c.size) {zs : List Int} (hz : zs.length = cs.length) (hn : numsB ls.length zs = true) (ho : grpsOkB ls zs (gAll ls cs ls.length) = true) :
    savesTo ls zs cs.length ≤ savesTo ls (planC ls cs) cs.length := by
  have h1 := saves_total ls zs
  have h2 := saves_total ls (planC ls cs)
  rw [hz] at h1
  rw [planC_len] at h2
  rw [h1, h2, planC_pf]
  exact plan_total (forest3 h hc hp) ((valid_iff h hc hp hz hn).1 ho)
theorem noShort_any (hp : ∀ l ∈ ls, ∀ c ∈ cs, l.pre ≤ c.size) : cs.any (shortB ls) = false := by
  rw [List.any_eq_false]
  intro c hc
  cases ls with
  | nil => simp [shortB]
  | cons l r =>
    have := hp l List.mem_cons_self c hc
    simp [shortB]; omega
theorem codesM_len (ps : List Pce) : (codesM ps).length = ps.length := by unfold codesM; simp
theorem validR_eq {m : Mai} (h : rightB ls = true) (hm : mailB m = true) (hp : ∀ l ∈ ls, ∀ c ∈ codesM m.ps, l.pre ≤ c.size) {zs : List Int} (hz : zs.length = m.ps.length) (hn : numsB ls.length zs = true) :
    validR ls m zs = (grpsOkB ls zs (gAll ls (codesM m.ps) ls.length), 0) := by
  unfold validR
  rw [if_pos ⟨h, hm, hz, hn⟩, noShort_any hp]
  rfl
theorem savingR_eq (h : rightB ls = true) {zs : List Int} (hz : zs.length ≤ 2000) (hn : numsB ls.length zs = true) : savingR ls zs = (savesTo ls zs zs.length, 0) := by
  unfold savingR
  rw [if_neg (by omega), if_pos ⟨h, hn⟩]
end Go.Proofs.YtelklmdlodgdpaaGreat

/-! X1 -/
namespace Go.Proofs.YtelklmdlodgdpaaGreat
open Go.RowKit Go.Sort
set_option linter.unusedVariables false
set_option maxRecDepth 100000
/-- A scheme and a mailing that have a plan. -/
structure HasPlan (ls : List Lev) (m : Mai) : Prop where
  right : rightB ls = true
  mail : mailB m = true
  rng : 0 ≤ m.cls ∧ m.cls ≤ 255 ∧ 0 ≤ m.ctr ∧ m.ctr ≤ 255
  org : m.origin.size ≤ maxLen
  pre : ∀ l ∈ ls, ∀ c ∈ codesM m.ps, l.pre ≤ c.size
theorem HasPlan.few {ls : List Lev} {m : Mai} (h : HasPlan ls m) : m.ps.length ≤ 2000 := (mail_parts h.mail).1
theorem HasPlan.code {ls : List Lev} {m : Mai} (h : HasPlan ls m) : ∀ c ∈ codesM m.ps, codeB c = true := (mail_codes h.mail).2
def planM (ls : List Lev) (m : Mai) : List Int := planC ls (codesM m.ps)
theorem planM_len (ls : List Lev) (m : Mai) : (planM ls m).length = m.ps.length := by unfold planM; rw [planC_len, codesM_len]
theorem HasPlan.nums {ls : List Lev} {m : Mai} (h : HasPlan ls m) : numsB ls.length (planM ls m) = true := planC_nums h.right h.code h.pre
def savesM (ls : List Lev) (m : Mai) : Int := savesTo ls (planM ls m) m.ps.length
theorem HasPlan.valid {ls : List Lev} {m : Mai} (h : HasPlan ls m) : validR ls m (planM ls m) = (true, 0) := by
  rw [validR_eq h.right h.mail h.pre (planM_len ls m) h.nums]
  exact congrArg (fun b => (b, (0 : Int))) (planC_ok h.right h.code h.pre)
theorem HasPlan.saving {ls : List Lev} {m : Mai} (h : HasPlan ls m) : savingR ls (planM ls m) = (savesM ls m, 0) := by
  rw [savingR_eq h.right (by rw [planM_len]; exact h.few) h.nums, planM_len]
  rfl
/-- Plan, Saving and Valid at a scheme and a mailing that have a plan. -/
theorem plan_of {ls : List Lev} {m : Mai} (h : HasPlan ls m) {v vp : Value} {w : World} (hr : RdLevs w v ls) (hrp : RdPces w vp m.ps) :
    Calls Tryz.prog 21 #[v, maiV m vp] w fun e w' => ∃ g, e = .returned (.tuple #[.slice (some ⟨g, 0, none⟩) m.ps.length m.ps.length, .int .i64 0]) ∧ Below w.heap.size w w' ∧ w.heap.size ≤ g ∧ IntsAt w' g (planM ls m) := by
  have h1 := plan25_ok ls v vp m w hr h.right h.mail hrp h.rng h.org h.pre
  unfold planM planC
  rw [codesM_len]
  exact h1
theorem rd_plan {w : World} {g n : Nat} {zs : List Int} (h : IntsAt w g zs) (hn : zs.length = n) : RdInts w (.slice (some ⟨g, 0, none⟩) n n) zs := by
  have := RowJ.rd (base := 0) (RowJ.of_ints h (Nat.zero_le _) zs.length)
  rw [← hn]
  exact this
theorem valid_of {ls : List Lev} {m : Mai} (h : HasPlan ls m) {v vp vz : Value} {zs : List Int} {w : World} (hr : RdLevs w v ls) (hrp : RdPces w vp m.ps) (hz : RdInts w vz zs) (hl : zs.length = m.ps.length) (hn : numsB ls.length zs = true) :
    Calls Tryz.prog 54 #[v, maiV m vp, vz] w fun e w' => e = .returned (.tuple #[.bool (grpsOkB ls zs (gAll ls (codesM m.ps) ls.length)), .int .i64 0]) ∧ Below w.heap.size w w' := by
  have hlen := right_len h.right
  have hf := h.few
  have h1 := valid_any ls v vp vz m zs w hr (right_fits h.right) (by omega) hrp h.rng h.org (by omega) (fun p hp => by have := codeB_size ((mail_parts h.mail).2 p hp); unfold maxLen; omega) hz (by omega)
  rw [validR_eq h.right h.mail h.pre hl hn] at h1
  exact h1
theorem cells4 {w : World} {g : Nat} {a b c d : Value} {t : TypeId} {fr : Nat × Nat} (h : w.heap[g]? = some (.cells #[a, b, c, d] t fr)) :
    w.cell? ⟨g, 0, none⟩ = some a ∧ w.cell? ⟨g, 1, none⟩ = some b ∧ w.cell? ⟨g, 2, none⟩ = some c ∧ w.cell? ⟨g, 3, none⟩ = some d :=
  ⟨cell_of_row _ _ 0 _ _ _ h, cell_of_row _ _ 1 _ _ _ h, cell_of_row _ _ 2 _ _ _ h, cell_of_row _ _ 3 _ _ _ h⟩
end Go.Proofs.YtelklmdlodgdpaaGreat

/-! T2 -/
namespace Go.Proofs.YtelklmdlodgdpaaGreat
open Go.RowKit
set_option linter.unusedVariables false
set_option maxRecDepth 100000
def p24 (id : Int) (x : UInt16) : Pce := ⟨id, 0, code5 (UInt8.ofNat (x.toNat / 256)), 1 + ((x.toNat / 4 % 20 : Nat) : Int), decide (x.toNat % 2 = 1)⟩
def id24 (l : List UInt16) : Int := (l.map (fun x => 1 + ((x.toNat % 3 : Nat) : Int))).sum
theorem id24_snoc (l : List UInt16) (x : UInt16) : id24 (l ++ [x]) = id24 l + (1 + ((x.toNat % 3 : Nat) : Int)) := by unfold id24; simp
theorem id24_bound (l : List UInt16) : (l.length : Int) ≤ id24 l ∧ id24 l ≤ 3 * l.length := by
  induction l with
  | nil => unfold id24; simp
  | cons x r ih =>
    unfold id24 at ih ⊢
    simp only [List.map_cons, List.sum_cons, List.length_cons]
    have := Nat.mod_lt x.toNat (show 0 < 3 by decide)
    omega
def ps24 (l : List UInt16) (k : Nat) : List Pce := (List.range k).map (fun i => p24 (id24 (l.take (i + 1))) (l.getD i 0))
theorem ps24_len (l : List UInt16) (k : Nat) : (ps24 l k).length = k := by unfold ps24; simp
theorem ps24_succ (l : List UInt16) {k : Nat} (h : k < l.length) : ps24 l (k + 1) = ps24 l k ++ [p24 (id24 (l.take k) + (1 + ((l[k].toNat % 3 : Nat) : Int))) l[k]] := by
  unfold ps24
  rw [List.range_succ, List.map_append, List.map_cons, List.map_nil, List.take_succ_eq_append_getElem h, id24_snoc, List.getD_eq_getElem?_getD, List.getElem?_eq_getElem h]; rfl
def o24 : ByteArray := ⟨#[49, 48, 48, 50, 51]⟩
def mail24 (l : List UInt16) : Mai := ⟨1, 1, o24, ps24 l l.length⟩
theorem ps24_at (l : List UInt16) {k i : Nat} (h : i < (ps24 l k).length) : (ps24 l k)[i] = p24 (id24 (l.take (i + 1))) (l.getD i 0) := by unfold ps24; simp
theorem ps24_ok (l : List UInt16) (hl : l.length ≤ 2000) : ∀ k, k ≤ l.length → pcsB (id24 (l.take (l.length - k))) ((ps24 l l.length).drop (l.length - k)) = true
  | 0, _ => by
    rw [Nat.sub_zero, List.drop_of_length_le (by rw [ps24_len]; exact Nat.le_refl _)]; rfl
  | k + 1, hk => by
    have ih := ps24_ok l hl k (by omega)
    have hlt : l.length - (k + 1) < (ps24 l l.length).length := by rw [ps24_len]; omega
    have hlt' : l.length - (k + 1) < l.length := by omega
    have e : l.length - (k + 1) + 1 = l.length - k := by omega
    rw [List.drop_eq_getElem_cons hlt, e]
    unfold pcsB
    rw [ps24_at, e, Bool.and_eq_true]
    have h1 := id24_bound (l.take (l.length - k))
    rw [List.length_take] at h1
    have h2 : id24 (l.take (l.length - k)) = id24 (l.take (l.length - (k + 1))) + (1 + ((l[l.length - (k + 1)].toNat % 3 : Nat) : Int)) := by
      rw [← e, List.take_succ_eq_append_getElem hlt', id24_snoc]
    refine ⟨?_, ih⟩
    unfold pcB p24
    simp only [Bool.and_eq_true, decide_eq_true_eq]
    have h3 : min (l.length - k) l.length = l.length - k := by omega
    rw [h3] at h1
    refine ⟨⟨by omega, by omega, by decide, by decide⟩, code5_ok _, by omega, ?_⟩
    have := Nat.mod_lt ((l.getD (l.length - (k + 1)) 0).toNat / 4) (show 0 < 20 by decide)
    omega
theorem mail24_ok (l : List UInt16) (hl : l.length ≤ 2000) : mailB (mail24 l) = true := by
  unfold mailB mail24
  simp only [Bool.and_eq_true, decide_eq_true_eq]
  refine ⟨by decide, by kernel_rfl, by rw [ps24_len]; exact hl, ?_⟩
  have := ps24_ok l hl l.length (Nat.le_refl _)
  rw [Nat.sub_self, List.drop_zero, List.take_zero] at this
  exact this
theorem mail24_codes (l : List UInt16) : ∀ c ∈ codesM (mail24 l).ps, c.size = 5 := fun c hc => by
  unfold codesM mail24 ps24 at hc
  dsimp only at hc
  rw [List.map_map] at hc
  obtain ⟨i, _, rfl⟩ := List.mem_map.1 hc
  exact code5_size _
theorem mail24_has (B : Bits) (low cents : List UInt8) (l : List UInt16) (hl : l.length ≤ 2000) : HasPlan (madeR B low cents) (mail24 l) := by
  refine ⟨made_right _ _ _, mail24_ok l hl, ⟨by show (0 : Int) ≤ 1; decide, by show (1 : Int) ≤ 255; decide, by show (0 : Int) ≤ 1; decide, by show (1 : Int) ≤ 255; decide⟩, by show o24.size ≤ maxLen; decide, fun x hx c hc => ?_⟩
  have h1 := made_pre _ _ _ x hx
  have h2 := mail24_codes l c hc
  omega
end Go.Proofs.YtelklmdlodgdpaaGreat
