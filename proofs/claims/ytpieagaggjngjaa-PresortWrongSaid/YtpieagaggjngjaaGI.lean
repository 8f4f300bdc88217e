import Derived.Test.YtpieagaggjngjaaGG
import Derived.Test.YtpieagaggjngjaaWP
import Derived.Test.YtpieagaggjngjaaGJ
import Derived.Test.YtpieagaggjngjaaWV
import Derived.Test.YtpieagaggjngjaaGE
import Derived.Test.YtpieagaggjngjaaWU
/-! P17 -/
namespace Go.Proofs.Ytpieagaggjngjaa
open Go.RowKit
set_option linter.unusedVariables false
set_option maxRecDepth 100000
variable {ls : List Lev} {cs : List ByteArray}
/-- A plan as a function of the pieces. -/
def pf (zs : List Int) (i : Int) : Int := zs.getD i.toNat 0
theorem pf_get {zs : List Int} {i : Nat} (h : i < zs.length) : pf zs (i : Int) = zs[i] := by
  unfold pf
  rw [Int.toNat_natCast, List.getD_eq_getElem?_getD, List.getElem?_eq_getElem h]; rfl
theorem takes_n {zs : List Int} {x : Grp} (hr : ∀ i ∈ x.items, 0 ≤ i ∧ i < (zs.length : Int)) : takesTo zs x x.items.length = takeN (pf zs) (pOf x) := by
  unfold takesTo takeN
  rw [List.take_of_length_le (Nat.le_refl _)]
  refine List.countP_congr (fun i hi => ?_)
  obtain ⟨a, b⟩ := hr i hi
  obtain ⟨j, rfl⟩ : ∃ j : Nat, i = (j : Int) := ⟨i.toNat, by omega⟩
  have hj : j < zs.length := by omega
  rw [pf_get hj, Int.toNat_natCast, List.getD_eq_getElem?_getD, List.getElem?_eq_getElem hj]
  exact Iff.rfl
theorem minAt_eq (ls : List Lev) (z : Int) : minAt ls z = ((plsOf ls).getD z.toNat (0, 0)).1 := by
  unfold minAt plsOf
  rw [List.getD_eq_getElem?_getD, List.getD_eq_getElem?_getD, List.getElem?_map]
  cases ls[z.toNat]? <;> rfl
theorem centsAt_eq (ls : List Lev) (z : Int) : centsAt ls z = centI (plsOf ls) z := by
  unfold centsAt centI plsOf
  rw [List.getD_eq_getElem?_getD, List.getD_eq_getElem?_getD, List.getElem?_map]
  cases ls[z.toNat]? <;> rfl
theorem pG_pOf {g : Nat} (h : g < (gAll ls cs ls.length).length) : gsAt (pG ls cs) g = pOf (gAll ls cs ls.length)[g] := gsAt_get h
theorem valid_iff (h : rightB ls = true) (hc : ∀ c ∈ cs, codeB c = true) (hp : ∀ l ∈ ls, ∀ c ∈ cs, l.pre ≤ c.size) {zs : List Int} (hz : zs.length = cs.length) (hn : numsB ls.length zs = true) :
    grpsOkB ls zs (gAll ls cs ls.length) = true ↔ PlanOk (plsOf ls) (pG ls cs) (pf zs) := by
  have hF := forest3 h hc hp
  have hlen : (pG ls cs).length = (gAll ls cs ls.length).length := pOfs_len _
  have hg : ∀ g (hg : g < (gAll ls cs ls.length).length), grpOkB ls zs (gAll ls cs ls.length)[g] = true ↔ (takeN (pf zs) (gsAt (pG ls cs) g) = 0 ∨ (lvOf (plsOf ls) (pG ls cs) g).1 ≤ (takeN (pf zs) (gsAt (pG ls cs) g) : Int)) := fun g hg => by
    have hr := hF.range g (by omega)
    rw [pG_pOf hg] at hr
    unfold grpOkB
    rw [takes_n (fun i hi => by have := hr i hi; omega), minAt_eq]
    unfold lvOf
    rw [pG_pOf hg]
    simp only [Bool.not_eq_true', Bool.and_eq_false_iff, decide_eq_false_iff_not]
    show (¬ 0 < takeN (pf zs) (pOf (gAll ls cs ls.length)[g]) ∨ ¬ (takeN (pf zs) (pOf (gAll ls cs ls.length)[g]) : Int) < ((plsOf ls).getD ((gAll ls cs ls.length)[g].lvl).toNat (0, 0)).1) ↔ (takeN (pf zs) (pOf (gAll ls cs ls.length)[g]) = 0 ∨ ((plsOf ls).getD ((gAll ls cs ls.length)[g].lvl).toNat (0, 0)).1 ≤ (takeN (pf zs) (pOf (gAll ls cs ls.length)[g]) : Int))
    omega
  unfold grpsOkB
  rw [List.all_eq_true]
  constructor
  · intro ha
    refine ⟨fun g h1 i hi => ?_, fun g h1 => (hg g (by omega)).1 (ha _ (List.getElem_mem (by omega)))⟩
    obtain ⟨a, b⟩ := hF.range g h1 i hi
    obtain ⟨j, rfl⟩ : ∃ j : Nat, i = (j : Int) := ⟨i.toNat, by omega⟩
    rw [pf_get (by omega), plsOf_len]
    exact nums_at hn j (by omega)
  · intro ha x hx
    obtain ⟨g, h1, rfl⟩ := List.mem_iff_getElem.1 hx
    exact (hg g h1).2 (ha.enough g (by omega))
theorem saves_total (ls : List Lev) (zs : List Int) : savesTo ls zs zs.length = totalI (plsOf ls) (pf zs) zs.length := by
  unfold savesTo totalI
  rw [List.take_of_length_le (Nat.le_refl _)]
  congr 1
  apply List.ext_getElem (by simp)
  intro i h1 h2
  have hi : i < zs.length := by simpa using h1
  simp only [List.getElem_map, List.getElem_range]
  rw [centsAt_eq, show pf zs (Int.ofNat i) = zs[i] from pf_get hi]
/-- The plan of a mailing, in the words of its codes. -/
def planC (ls : List Lev) (cs : List ByteArray) : List Int := planR (plsOf ls) (pG ls cs) cs.length
theorem planC_len (ls : List Lev) (cs : List ByteArray) : (planC ls cs).length = cs.length := by
  unfold planC
  rw [planR_eq, planTo_len, List.length_replicate]
theorem planC_pf (ls : List Lev) (cs : List ByteArray) : pf (planC ls cs) = planP (plsOf ls) (pG ls cs) cs.length := rfl
theorem planC_nums (h : rightB ls = true) (hc : ∀ c ∈ cs, codeB c = true) (hp : ∀ l ∈ ls, ∀ c ∈ cs, l.pre ≤ c.size) : numsB ls.length (planC ls cs) = true := by
  have hF := forest3 h hc hp
  refine nums_true (fun k hk => ?_)
  have hk' : k < cs.length := by rw [planC_len] at hk; exact hk
  obtain ⟨g, h1, _, h3⟩ := hF.cover (k : Int) (by omega) (by omega)
  have := (planP_ok hF).num g h1 _ h3
  rw [← planC_pf, pf_get hk, plsOf_len] at this
  exact this
theorem planC_ok (h : rightB ls = true) (hc : ∀ c ∈ cs, codeB c = true) (hp : ∀ l ∈ ls, ∀ c ∈ cs, l.pre ≤ c.size) : grpsOkB ls (planC ls cs) (gAll ls cs ls.length) = true :=
  (valid_iff h hc hp (planC_len ls cs) (planC_nums h hc hp)).2 (planP_ok (forest3 h hc hp))
/-- No valid plan saves more. -/
theorem planC_best (h : rightB ls = true) (hc : ∀ c ∈ cs, codeB c = true) (hp : ∀ l ∈ ls, ∀ c ∈ cs, l.pre ≤ c.size) {zs : List Int} (hz : zs.length = cs.length) (hn : numsB ls.length zs = true) (ho : grpsOkB ls zs (gAll ls cs ls.length) = true) :
    savesTo ls zs cs.length ≤ savesTo ls (planC ls cs) cs.length := by
  have h1 := saves_total ls zs
  have h2 := saves_total ls (planC ls cs)
  rw [hz] at h1
  rw [planC_len] at h2
  rw [h1, h2, planC_pf]
  exact plan_total (forest3 h hc hp) ((valid_iff h hc hp hz hn).1 ho)
theorem noShort_any (hp : ∀ l ∈ ls, ∀ c ∈ cs, l.pre ≤ c.size) : cs.any (shortB ls) = false := by
  rw [List.any_eq_false]
  intro c hc
  cases ls with
  | nil => simp [shortB]
  | cons l r =>
    have := hp l List.mem_cons_self c hc
    simp [shortB]; omega
theorem codesM_len (ps : List Pce) : (codesM ps).length = ps.length := by unfold codesM; simp
theorem validR_eq {m : Mai} (h : rightB ls = true) (hm : mailB m = true) (hp : ∀ l ∈ ls, ∀ c ∈ codesM m.ps, l.pre ≤ c.size) {zs : List Int} (hz : zs.length = m.ps.length) (hn : numsB ls.length zs = true) :
    validR ls m zs = (grpsOkB ls zs (gAll ls (codesM m.ps) ls.length), 0) := by
  unfold validR
  rw [if_pos ⟨h, hm, hz, hn⟩, noShort_any hp]
  rfl
theorem savingR_eq (h : rightB ls = true) {zs : List Int} (hz : zs.length ≤ 2000) (hn : numsB ls.length zs = true) : savingR ls zs = (savesTo ls zs zs.length, 0) := by
  unfold savingR
  rw [if_neg (by omega), if_pos ⟨h, hn⟩]
end Go.Proofs.Ytpieagaggjngjaa

/-! P18 -/
namespace Go.Proofs.Ytpieagaggjngjaa
open Go.RowKit
set_option linter.unusedVariables false
set_option maxRecDepth 100000
variable {ls : List Lev} {cs : List ByteArray}
theorem sorted_split {a b : List Int} (h : (a ++ b).Pairwise (· ≤ ·)) {i j : Int} (hi : i ∈ b) (hj : j ∈ a) : j ≤ i := (List.pairwise_append.1 h).2.2 j hj i hi
theorem plan_last {L : List (Int × Int)} {gs : List PGrp} {n : Nat} (hF : Forest3 L gs n) {g : Nat} (hg : g < gs.length) {i j : Int} (hi : i ∈ (gsAt gs g).items) (hj : j ∈ (gsAt gs g).items) (hp : (gsAt gs g).lvl < planP L gs n i) (ht : planP L gs n j = (gsAt gs g).lvl) : j ≤ i := by
  have h1 := ((plan_is hF.toForest2 hg hi).2.1).1 hp
  have h2 := ((plan_is hF.toForest2 hg hj).1).1 ht
  refine sorted_split (a := tookL gs (passF L gs) g) (b := passedL gs (passF L gs) g) ?_ h1 h2
  rw [split_come gs hF.toForest _ hg]
  exact sortI_sorted _
def passB (zs : List Int) (x : Grp) (k : Nat) : Bool := (x.items.take k).any (fun i => decide (x.lvl < zs.getD i.toNat (-1)))
theorem pass_succ (zs : List Int) (x : Grp) {k : Nat} (h : k < x.items.length) : passB zs x (k + 1) = (passB zs x k || decide (x.lvl < zs.getD x.items[k].toNat (-1))) := by
  unfold passB
  rw [List.take_succ_eq_append_getElem h, List.any_append]
  simp
/-- Behind a piece that is passed on none is taken. -/
theorem plan_order (h : rightB ls = true) (hc : ∀ c ∈ cs, codeB c = true) (hp : ∀ l ∈ ls, ∀ c ∈ cs, l.pre ≤ c.size) {x : Grp} (hx : x ∈ gAll ls cs ls.length) {k : Nat} (hk : k < x.items.length) (hpb : passB (planC ls cs) x k = true) :
    (planC ls cs).getD x.items[k].toNat (-1) ≠ x.lvl := by
  have hF := forest3 h hc hp
  obtain ⟨g, hg, rfl⟩ := List.mem_iff_getElem.1 hx
  have hgl : g < (pG ls cs).length := by unfold pG; rw [pOfs_len]; exact hg
  have hge := pG_pOf hg
  have hr := hF.range g hgl
  rw [hge] at hr
  have hget : ∀ i ∈ (gAll ls cs ls.length)[g].items, (planC ls cs).getD i.toNat (-1) = planP (plsOf ls) (pG ls cs) cs.length i := fun i hi => by
    obtain ⟨a, b⟩ := hr i hi
    obtain ⟨j, rfl⟩ : ∃ j : Nat, i = (j : Int) := ⟨i.toNat, by omega⟩
    have hj : j < (planC ls cs).length := by rw [planC_len]; omega
    rw [← planC_pf, pf_get hj, Int.toNat_natCast, List.getD_eq_getElem?_getD, List.getElem?_eq_getElem hj]
    rfl
  unfold passB at hpb
  rw [List.any_eq_true] at hpb
  obtain ⟨i, hi, h1⟩ := hpb
  have hi' := List.mem_of_mem_take hi
  have h1' := of_decide_eq_true h1
  rw [hget i hi'] at h1'
  rw [hget _ (List.getElem_mem hk)]
  intro h2
  have h3 := plan_last hF hgl (i := i) (j := (gAll ls cs ls.length)[g].items[k]) (by rw [hge]; exact hi') (by rw [hge]; exact List.getElem_mem hk) (by rw [hge]; exact h1') (by rw [hge]; exact h2)
  obtain ⟨q, hq, rfl⟩ := List.mem_iff_getElem.1 hi
  rw [List.getElem_take] at h3
  rw [List.length_take] at hq
  obtain ⟨mm, n, hmm, _, hgg⟩ := mem_gAll.1 hx
  have ho := itm_order ls cs mm n
  have hitems : (gAll ls cs ls.length)[g].items = itm ls cs mm n := by rw [hgg]; rfl
  rw [← hitems] at ho
  have := List.pairwise_iff_getElem.1 ho q k (by omega) hk (by omega)
  omega
end Go.Proofs.Ytpieagaggjngjaa

/-! X1 -/
namespace Go.Proofs.Ytpieagaggjngjaa
open Go.RowKit Go.Sort
set_option linter.unusedVariables false
set_option maxRecDepth 100000
/-- A scheme and a mailing that have a plan. -/
structure HasPlan (ls : List Lev) (m : Mai) : Prop where
  right : rightB ls = true
  mail : mailB m = true
  rng : 0 ≤ m.cls ∧ m.cls ≤ 255 ∧ 0 ≤ m.ctr ∧ m.ctr ≤ 255
  org : m.origin.size ≤ maxLen
  pre : ∀ l ∈ ls, ∀ c ∈ codesM m.ps, l.pre ≤ c.size
theorem HasPlan.few {ls : List Lev} {m : Mai} (h : HasPlan ls m) : m.ps.length ≤ 2000 := (mail_parts h.mail).1
theorem HasPlan.code {ls : List Lev} {m : Mai} (h : HasPlan ls m) : ∀ c ∈ codesM m.ps, codeB c = true := (mail_codes h.mail).2
def planM (ls : List Lev) (m : Mai) : List Int := planC ls (codesM m.ps)
theorem planM_len (ls : List Lev) (m : Mai) : (planM ls m).length = m.ps.length := by unfold planM; rw [planC_len, codesM_len]
theorem HasPlan.nums {ls : List Lev} {m : Mai} (h : HasPlan ls m) : numsB ls.length (planM ls m) = true := planC_nums h.right h.code h.pre
def savesM (ls : List Lev) (m : Mai) : Int := savesTo ls (planM ls m) m.ps.length
theorem HasPlan.valid {ls : List Lev} {m : Mai} (h : HasPlan ls m) : validR ls m (planM ls m) = (true, 0) := by
  rw [validR_eq h.right h.mail h.pre (planM_len ls m) h.nums]
  exact congrArg (fun b => (b, (0 : Int))) (planC_ok h.right h.code h.pre)
theorem HasPlan.saving {ls : List Lev} {m : Mai} (h : HasPlan ls m) : savingR ls (planM ls m) = (savesM ls m, 0) := by
  rw [savingR_eq h.right (by rw [planM_len]; exact h.few) h.nums, planM_len]
  rfl
/-- Plan, Saving and Valid at a scheme and a mailing that have a plan. -/
theorem plan_of {ls : List Lev} {m : Mai} (h : HasPlan ls m) {v vp : Value} {w : World} (hr : RdLevs w v ls) (hrp : RdPces w vp m.ps) :
    Calls Try.prog 16 #[v, maiV m vp] w fun e w' => ∃ g, e = .returned (.tuple #[.slice (some ⟨g, 0, none⟩) m.ps.length m.ps.length, .int .i64 0]) ∧ Below w.heap.size w w' ∧ w.heap.size ≤ g ∧ IntsAt w' g (planM ls m) := by
  have h1 := plan25_ok ls v vp m w hr h.right h.mail hrp h.rng h.org h.pre
  unfold planM planC
  rw [codesM_len]
  exact h1
theorem rd_plan {w : World} {g n : Nat} {zs : List Int} (h : IntsAt w g zs) (hn : zs.length = n) : RdInts w (.slice (some ⟨g, 0, none⟩) n n) zs := by
  have := RowJ.rd (base := 0) (RowJ.of_ints h (Nat.zero_le _) zs.length)
  rw [← hn]
  exact this
theorem saving_of {ls : List Lev} {v vz : Value} {zs : List Int} {w : World} (h : rightB ls = true) (hr : RdLevs w v ls) (hz : RdInts w vz zs) (hl : zs.length ≤ 2000) (hn : numsB ls.length zs = true) :
    Calls Try.prog 17 #[v, vz] w fun e w' => e = .returned (.tuple #[.int .i64 (savesTo ls zs zs.length), .int .i64 0]) ∧ Below w.heap.size w w' := by
  have hlen := right_len h
  have h1 := saving_any ls v vz zs w hr (right_fits h) (by omega) hz (by omega)
  rw [savingR_eq h hl hn] at h1
  exact h1
theorem valid_of {ls : List Lev} {m : Mai} (h : HasPlan ls m) {v vp vz : Value} {zs : List Int} {w : World} (hr : RdLevs w v ls) (hrp : RdPces w vp m.ps) (hz : RdInts w vz zs) (hl : zs.length = m.ps.length) (hn : numsB ls.length zs = true) :
    Calls Try.prog 15 #[v, maiV m vp, vz] w fun e w' => e = .returned (.tuple #[.bool (grpsOkB ls zs (gAll ls (codesM m.ps) ls.length)), .int .i64 0]) ∧ Below w.heap.size w w' := by
  have hlen := right_len h.right
  have hf := h.few
  have h1 := valid_any ls v vp vz m zs w hr (right_fits h.right) (by omega) hrp h.rng h.org (by omega) (fun p hp => by have := codeB_size ((mail_parts h.mail).2 p hp); unfold maxLen; omega) hz (by omega)
  rw [validR_eq h.right h.mail h.pre hl hn] at h1
  exact h1
theorem cells4 {w : World} {g : Nat} {a b c d : Value} {t : TypeId} {fr : Nat × Nat} (h : w.heap[g]? = some (.cells #[a, b, c, d] t fr)) :
    w.cell? ⟨g, 0, none⟩ = some a ∧ w.cell? ⟨g, 1, none⟩ = some b ∧ w.cell? ⟨g, 2, none⟩ = some c ∧ w.cell? ⟨g, 3, none⟩ = some d :=
  ⟨cell_of_row _ _ 0 _ _ _ h, cell_of_row _ _ 1 _ _ _ h, cell_of_row _ _ 2 _ _ _ h, cell_of_row _ _ 3 _ _ _ h⟩
set_option maxHeartbeats 8000000 in
theorem saves_any {ls : List Lev} {m : Mai} (h : HasPlan ls m) {v vp : Value} {w : World} (hr : RdLevs w v ls) (hrp : RdPces w vp m.ps) :
    Calls Try.prog 14 #[v, maiV m vp] w fun e w' => e = .returned (.int .i64 (savesM ls m)) ∧ Below w.heap.size w w' := by
  have HPL := Lib.hid (fun W (hW : Below w.heap.size w W) => plan_of h (hr.below hW) (hrp.below hW))
  have hn := h.nums
  have hfw := h.few
  have hpl := planM_len ls m
  have HSV := Lib.hid (fun W g (hW : Below w.heap.size w W) (hg : IntsAt W g (planM ls m)) => saving_of h.right (hr.below hW) (rd_plan hg hpl) (by omega) hn)
  have HVL := Lib.hid (fun W g (hW : Below w.heap.size w W) (hg : IntsAt W g (planM ls m)) => valid_of h (hr.below hW) (hrp.below hW) (rd_plan hg hpl) hpl hn)
  have hgo : grpsOkB ls (planM ls m) (gAll ls (codesM m.ps) ls.length) = true := planC_ok h.right h.code h.pre
  rw [hgo] at HVL
  rw [hpl] at HSV
  unfold savesM
  generalize savesTo ls (planM ls m) m.ps.length = sv at HSV ⊢
  generalize planM ls m = pl at *
  obtain ⟨a, cap, rfl, hcc⟩ := hrp
  unfold maiV at *
  obtain ⟨cls, ctr, org, ps⟩ := m
  dsimp only at *
  have c3 : (w.alloc (.cells #[.int .u8 cls, .int .u8 ctr, .string org, .slice a ps.length cap] 28)).cell? ⟨w.heap.size, 3, none⟩ = some (.slice a ps.length cap) := cell_of_row _ _ 3 _ _ _ (alloc_new w _)
  have hB0 : Below w.heap.size w (w.alloc (.cells #[.int .u8 cls, .int .u8 ctr, .string org, .slice a ps.length cap] 28)) := (Below.refl _ w).alloc (Nat.le_refl _) _
  have hn0 := alloc_new w (.cells #[.int .u8 cls, .int .u8 ctr, .string org, .slice a ps.length cap] 28)
  have hz0 : (w.alloc (.cells #[.int .u8 cls, .int .u8 ctr, .string org, .slice a ps.length cap] 28)).heap.size = w.heap.size + 1 := by simp
  clear hcc hn hgo hpl hr h
  go_enter Try.func14, Try.ntmps14
  go_wp2_with (first
    | (go_at_call 16; refine (HPL.out _ hB0).mono ?_; rintro e w1 ⟨g, rfl, hb1, hg, hi1⟩; (have hW1 : Below w.heap.size w w1 := hB0.trans (hb1.mono hB0.size)); (have n1 := (hb1.block _ (by rw [hz0]; exact Nat.lt_succ_self _)).trans hn0))
    | (go_at_call 17; refine (HSV.out _ g hW1 hi1).mono ?_; rintro e w2 ⟨rfl, hb2⟩; (have hW2 : Below w.heap.size w w2 := hW1.trans (hb2.mono hW1.size)); (have hs1 : w.heap.size < w1.heap.size := (by have := hb1.size; omega)); (have n2 := (hb2.block _ hs1).trans n1); (have hi2 : IntsAt w2 g pl := hi1.below hb2 hi1.lt); obtain ⟨m0, m1, m2, m3⟩ := cells4 n2)
    | (go_at_call 15; refine (HVL.out _ g hW2 hi2).mono ?_; rintro e w3 ⟨rfl, hb3⟩; (have hW3 : Below w.heap.size w w3 := hW2.trans (hb3.mono hW2.size)); (obtain ⟨_, _, _, n3⟩ := cells4 ((hb3.block _ (Nat.lt_of_lt_of_le hs1 hb2.size)).trans n2))))
  go_ret
  exact ⟨rfl, hW3⟩
end Go.Proofs.Ytpieagaggjngjaa

/-! X2 -/
namespace Go.Proofs.Ytpieagaggjngjaa
open Go.RowKit Go.Sort
set_option linter.unusedVariables false
set_option maxRecDepth 100000
theorem mailP_ok {i : Nat} {c : ByteArray} {b : Int} (hb : b < 1 + (i : Int)) (hi : i < 2000) (hc : codeB c = true) : pcB b (mailP i c) = true := by
  unfold pcB mailP
  simp only [Bool.and_eq_true, decide_eq_true_eq]
  refine ⟨⟨hb, by omega, by decide, by decide⟩, hc, by omega, by omega⟩
theorem mailTo_ok (cs : List ByteArray) (hc : ∀ c ∈ cs, codeB c = true) (hl : cs.length ≤ 2000) : ∀ k, k ≤ cs.length → pcsB ((cs.length - k : Nat) : Int) (((List.range cs.length).drop (cs.length - k)).map (fun i => mailP i (cs.getD i ⟨#[]⟩))) = true
  | 0, _ => by rw [Nat.sub_zero, List.drop_of_length_le (by simp)]; rfl
  | k + 1, hk => by
    have ih := mailTo_ok cs hc hl k (by omega)
    have e : (List.range cs.length).drop (cs.length - (k + 1)) = (cs.length - (k + 1)) :: (List.range cs.length).drop (cs.length - k) := by
      rw [List.drop_eq_getElem_cons (by simp; omega), List.getElem_range]
      congr 2
      omega
    rw [e, List.map_cons]
    unfold pcsB
    rw [Bool.and_eq_true]
    have hi : cs.length - (k + 1) < cs.length := by omega
    refine ⟨mailP_ok (by omega) (by omega) ?_, ?_⟩
    · rw [List.getD_eq_getElem?_getD, List.getElem?_eq_getElem hi]
      exact hc _ (List.getElem_mem hi)
    · have e2 : (mailP (cs.length - (k + 1)) (cs.getD (cs.length - (k + 1)) ⟨#[]⟩)).id = ((cs.length - k : Nat) : Int) := by
        show (1 : Int) + ((cs.length - (k + 1) : Nat) : Int) = _
        omega
      rw [e2]
      exact ih
theorem mail25_ok (cs : List ByteArray) (hc : ∀ c ∈ cs, codeB c = true) (hl : cs.length ≤ 2000) : mailB (mail25 cs) = true := by
  unfold mailB mail25
  simp only [Bool.and_eq_true, decide_eq_true_eq]
  refine ⟨by decide, by kernel_rfl, by rw [mailTo_len]; exact hl, ?_⟩
  have := mailTo_ok cs hc hl cs.length (Nat.le_refl _)
  rw [Nat.sub_self, List.drop_zero] at this
  exact this
theorem made_has (B : Bits) (low cents l : List UInt8) : HasPlan (madeR B low cents) (mail25 (codesOf l)) := by
  obtain ⟨h1, h2⟩ := codesOf_facts l
  refine ⟨made_right _ _ _, mail25_ok _ (fun c hc => (h2 c hc).1) h1, mail25_rng _, mail25_org _, ?_⟩
  rw [mail_codesM]
  intro x hx c hc
  have := made_pre _ _ _ x hx
  have := (h2 c hc).2
  omega
theorem codesOf_len (l : List UInt8) (most : Nat) : (codesOf (l.take most)).length ≤ most := by
  unfold codesOf
  rw [List.length_map, List.length_take, List.length_take]
  omega
/-- What is known of the groups of a mailing, for the walks. -/
theorem gAll_items {ls : List Lev} {cs : List ByteArray} : ∀ x ∈ gAll ls cs ls.length, x.items.length ≤ cs.length ∧ (∃ mm : Nat, mm < ls.length ∧ x.lvl = (mm : Int)) ∧ ∀ i ∈ x.items, ∃ q : Nat, q < cs.length ∧ i = (q : Int) := by
  intro x hx
  obtain ⟨mm, n, hmm, _, rfl⟩ := mem_gAll.1 hx
  refine ⟨itm_len ls _ mm n, ⟨mm, hmm, rfl⟩, fun i hi => ?_⟩
  obtain ⟨q, hq, _, rfl⟩ := mem_itm.1 hi
  exact ⟨q, hq, rfl⟩
theorem HasPlan.groups_few {ls : List Lev} {m : Mai} (h : HasPlan ls m) : (gAll ls (codesM m.ps) ls.length).length ≤ 12000 := by
  have h1 := gTo_bound2 ls (codesM m.ps)
  have h2 := (right_len h.right).2
  have h3 := h.few
  rw [codesM_len] at h1
  have : ls.length * m.ps.length ≤ 6 * 2000 := Nat.mul_le_mul h2 h3
  omega
theorem groups_of {ls : List Lev} {m : Mai} (h : HasPlan ls m) {v vc : Value} {w : World} (hr : RdLevs w v ls) (hrc : ReadsT w vc (codesM m.ps)) :
    Calls Try.prog 12 #[v, vc] w fun e w' => ∃ a cap, e = .returned (.tuple #[.slice a (gAll ls (codesM m.ps) ls.length).length cap, .int .i64 0]) ∧ Below w.heap.size w w' ∧ RdGrps w' (.slice a (gAll ls (codesM m.ps) ls.length).length cap) (gAll ls (codesM m.ps) ls.length) := by
  have hl := right_len h.right
  have hf := h.few
  have h1 := groups_any ls v vc (codesM m.ps) w hr (right_fits h.right) (by unfold maxLen; omega) hrc (by rw [codesM_len]; unfold maxLen; omega) (fun c hc => by have := codeB_size (h.code c hc); unfold maxLen; omega)
  rw [groupsR_ok h.right (by rw [codesM_len]; exact hf) h.code (noShort_any h.pre), gTo_closed ls _ ls.length (Nat.le_refl _)] at h1
  refine h1.mono ?_
  rintro e w' ⟨vg, rfl, hb, hog⟩
  have hrg := RdGrps.of_owns hog
  obtain ⟨ag, cg, hvg⟩ := hog.len
  subst hvg
  exact ⟨ag, cg, rfl, hb, hrg⟩
/-- What made returns at a scheme and a mailing, with anything below untouched. -/
def MadeC (args : Array Value) (ls : List Lev) (cs : List ByteArray) (w : World) : Prop :=
  ∀ W, Below w.heap.size w W → Calls Try.prog 11 args W fun e w' => ∃ al cl ap cp, e = .returned (.tuple #[.slice al ls.length cl, .agg #[.int .u8 1, .int .u8 1, .string ⟨#[49, 48, 48, 48, 48]⟩, .slice ap cs.length cp]]) ∧
    Below W.heap.size W w' ∧ RdLevs w' (.slice al ls.length cl) ls ∧ RdPces w' (.slice ap cs.length cp) (mail25 cs).ps
theorem RdBytesC.below {w w' : World} {v : Value} {bs : List UInt8} (h : RdBytesC w v bs) (hb : Below w.heap.size w w') : RdBytesC w' v bs := ⟨h.1.below2 hb, h.2⟩
theorem rd_mail {w : World} {base : Nat} {a : Option Addr} {c : Nat} {cs : List ByteArray} (h : OwnsP w base (.slice a cs.length c) (mail25 cs).ps) : RdPces w (.slice a cs.length c) (mail25 cs).ps := RdPces.of_owns h
theorem made_c {n : Int} {least cents l : List UInt8} {vl vc vs : Value} {w : World} {most : Nat} (hn0 : 0 ≤ n) (hn1 : n < 4294967296) (hrl : RdBytes w vl least) (hrc : RdBytes w vc cents) (hrs : RdBytesC w vs l)
    (hll : least.length ≤ maxLen) (hcl : cents.length ≤ maxLen) (hsl : l.length ≤ maxLen) (hm : most ≤ 2000) : MadeC #[.int .u32 n, vl, vc, vs, .int .i64 (most : Int)] (madeR (bitsOf n) (lowL least 3) cents) (codesOf (l.take most)) w := fun W hW => by
  refine (made25_any n vl vc vs least cents l most W hn0 hn1 (hrl.below2 hW) (hrc.below2 hW) (hrs.below hW) hll hcl hsl hm).mono ?_
  rintro e w' ⟨al, cl, ap, cp, rfl, hb, ho, hp⟩
  exact ⟨al, cl, ap, cp, rfl, hb, ho.reads, rd_mail hp⟩
end Go.Proofs.Ytpieagaggjngjaa
