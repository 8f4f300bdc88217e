/-
  Contracts of cmp.Compare at strings, slices.BinarySearchFunc at labels, labelled, group.
-/
import Derived.Test.YtdahgfopighhlaaS3
namespace Go.Proofs.Ytdahgfopighhlaa
open Go.RowKit
set_option linter.unusedVariables false
set_option maxRecDepth 100000
def cmpI (a b : ByteArray) : Int := if ltB a b then -1 else if ltB b a then 1 else 0
theorem isNaN_str (s : ByteArray) (w : World) : Calls Try.prog 71 #[.string s] w fun e w' => e = .returned (.bool false) ∧ w = w' := by
  go_enter Try.func71, Try.ntmps71
  go_wp2
  go_ret
  exact ⟨by simp, rfl⟩
theorem compare_str (a b : ByteArray) (w : World) : Calls Try.prog 61 #[.string a, .string b] w fun e w' => e = .returned (.int .i64 (cmpI a b)) ∧ w = w' := by
  have h1 := less_eq a b
  have h3 := ba_eq a b
  have HC : Hid (cmpI a b = if ltB a b then -1 else if ltB b a then 1 else 0) := rfl
  rcases ltB_tri a b with h | h | h
  · rw [h] at h1 HC
    rw [decide_eq_false (ltB_ne h)] at h3
    generalize cmpI a b = c at HC
    clear h
    go_enter Try.func61, Try.ntmps61
    go_wp2_with (go_at_call 71; refine (isNaN_str _ _).mono ?_; rintro e w' ⟨rfl, rfl⟩)
    go_ret
    exact ⟨ret_int (by rw [HC.out]; rfl), rfl⟩
  · have hc2 : cmpI a b = 0 := by unfold cmpI; rw [h]; simp [ltB_irrefl]
    have HC2 := Lib.hid hc2
    clear hc2
    rw [h, ltB_irrefl] at h1
    rw [decide_eq_true h] at h3
    have h1' : Op.bytesLess a.toList b.toList = false := by rw [h]; exact h1
    generalize cmpI a b = c at HC2
    clear h h1 HC
    go_enter Try.func61, Try.ntmps61
    go_wp2_with (go_at_call 71; refine (isNaN_str _ _).mono ?_; rintro e w' ⟨rfl, rfl⟩)
    go_ret
    exact ⟨ret_int (by rw [HC2.out]), rfl⟩
  · rw [ltB_asymm h] at h1 HC
    rw [h] at HC
    rw [decide_eq_false (fun e => ltB_ne h e.symm)] at h3
    generalize cmpI a b = c at HC
    clear h
    go_enter Try.func61, Try.ntmps61
    go_wp2_with (go_at_call 71; refine (isNaN_str _ _).mono ?_; rintro e w' ⟨rfl, rfl⟩)
    go_ret
    exact ⟨ret_int (by rw [HC.out]; rfl), rfl⟩
theorem labelled1_any (x : Lab) (p : ByteArray) (w : World) : Calls Try.prog 60 #[.agg #[.string x.pre, .string x.grp], .string p] w fun e w' => e = .returned (.int .i64 (cmpI x.pre p)) ∧ Below w.heap.size w w' := by
  go_enter Try.func60, Try.ntmps60
  go_wp2_with (go_at_call 61; refine (compare_str _ _ _).mono ?_; rintro e w' ⟨rfl, rfl⟩)
  go_ret
  exact ⟨rfl, (Below.refl _ w).alloc (Nat.le_refl _) _⟩
theorem cmpI_neg {a b : ByteArray} (h : ltB a b = true) : cmpI a b < 0 := by unfold cmpI; simp [h]
theorem cmpI_pos {a b : ByteArray} (h : ltB a b = false) : 0 ≤ cmpI a b := by unfold cmpI; simp [h]; split <;> omega
theorem cmpI_zero {a b : ByteArray} : (cmpI a b == 0) = decide (a = b) := by
  unfold cmpI
  rcases ltB_tri a b with h | h | h
  · rw [h, decide_eq_false (ltB_ne h)]; rfl
  · rw [h, ltB_irrefl]; simp
  · rw [h, ltB_asymm h, decide_eq_false (fun e => ltB_ne h e.symm)]; rfl
def labOf (labs : List Lab) (p : ByteArray) : Option ByteArray := (labs.find? (fun x => decide (x.pre = p))).map (·.grp)
theorem sorted_lt {labs : List Lab} (h : sortedB labs) {s t : Nat} (hst : s < t) (ht : t < labs.length) : ltB (labs[s]'(by omega)).pre labs[t].pre = true := by
  induction t with
  | zero => omega
  | succ t ih =>
    by_cases e : s = t
    · subst e; exact h s ht
    · exact ltB_trans (ih (by omega) (by omega)) (h t ht)
theorem labOf_at {labs : List Lab} (h : sortedB labs) {i : Nat} (hi : i < labs.length) : labOf labs labs[i].pre = some labs[i].grp := by
  unfold labOf
  have hfind : labs.find? (fun x => decide (x.pre = labs[i].pre)) = some labs[i] := List.find?_eq_some_iff_getElem.2 ⟨by simp, i, hi, rfl, fun j hj => by
    simp only [Bool.not_eq_true', decide_eq_false_iff_not]
    exact ltB_ne (sorted_lt h hj hi)⟩
  rw [hfind]
  rfl
theorem labOf_none {labs : List Lab} {p : ByteArray} (h : ∀ i (hi : i < labs.length), labs[i].pre ≠ p) : labOf labs p = none := by
  unfold labOf
  rw [List.find?_eq_none.2 (fun x hx => by
    obtain ⟨i, hi, rfl⟩ := List.mem_iff_getElem.1 hx
    simpa using h i hi)]
  rfl
/-- Where a search ends: the labels ahead of i are less, those from i on are not. -/
theorem search_end {labs : List Lab} {p : ByteArray} (h : sortedB labs) {i : Nat} (h1 : ∀ t, t < i → ∀ ht : t < labs.length, ltB labs[t].pre p = true) (h2 : ∀ t, i ≤ t → ∀ ht : t < labs.length, ltB labs[t].pre p = false) :
    (∀ hi : i < labs.length, labs[i].pre = p → labOf labs p = some labs[i].grp) ∧ ((∀ hi : i < labs.length, labs[i].pre ≠ p) → labOf labs p = none) := by
  constructor
  · rintro hi rfl; exact labOf_at h hi
  · intro hn
    refine labOf_none (fun t ht => ?_)
    rcases Nat.lt_trichotomy t i with hlt | rfl | hgt
    · exact ltB_ne (h1 t hlt ht)
    · exact hn ht
    · have hi : i < labs.length := by omega
      have ha := sorted_lt h hgt ht
      have hb := h2 i (Nat.le_refl _) hi
      rcases ltB_tri labs[i].pre p with hc | hc | hc
      · rw [hc] at hb; cases hb
      · exact absurd hc (hn hi)
      · exact fun e => ltB_ne (ltB_trans hc ha) e.symm
set_option maxHeartbeats 4000000 in
theorem search_any (labs : List Lab) (p : ByteArray) (v : Value) (w : World) (hl : labs.length ≤ 100000) (hr : RdLabs w v labs) (hs : sortedB labs) :
    Calls Try.prog 59 #[v, .string p, .func (.func 60) #[] #[]] w fun e w' => ∃ (i : Nat) (b : Bool), e = .returned (.tuple #[.int .i64 i, .bool b]) ∧ Below w.heap.size w w' ∧
      ((b = true ∧ ∃ hi : i < labs.length, labOf labs p = some labs[i].grp) ∨ (b = false ∧ labOf labs p = none)) := by
  obtain ⟨a, cap, rfl, hc⟩ := hr
  have HC := Lib.hid hc
  have HS := Lib.hid hs
  clear hc hs
  go_enter Try.func59, Try.ntmps59
  go_wp2_with fail
  go_loopw [9, 10] (fun vi vj wr => ∃ i j : Nat, i ≤ j ∧ j ≤ labs.length ∧ vi = .int .i64 i ∧ vj = .int .i64 j ∧ Below w.heap.size w wr ∧ Hid (∀ t, t < i → ∀ ht : t < labs.length, ltB labs[t].pre p = true) ∧ Hid (∀ t, j ≤ t → ∀ ht : t < labs.length, ltB labs[t].pre p = false)) (fun vi vj _ => (intOf vj).toNat - (intOf vi).toNat)
  case atStart => exact ⟨0, labs.length, Nat.zero_le _, Nat.le_refl _, rfl, rfl, Below.refl _ _, fun t h => by omega, fun t h ht => by omega⟩
  case round =>
    obtain ⟨i, j, hij, hjn, rfl, rfl, hB, H1, H2⟩ := hrel
    by_cases hlt : i < j
    · obtain ⟨g, off, rfl, hg, hcc⟩ := HC.out (by omega)
      have hm : (i + j) / 2 < labs.length := by omega
      have cl : ∀ o, wr.cell? ⟨g, o, none⟩ = w.cell? ⟨g, o, none⟩ := fun o => (hB.cell (p := ⟨g, o, none⟩) hg)
      have c1 : wr.cell? ⟨g, off + (i + j) / 2 * 2, none⟩ = some (.string labs[(i + j) / 2].pre) := (cl _).trans (hcc _ hm).1
      have c2 : wr.cell? ⟨g, off + (i + j) / 2 * 2 + 1, none⟩ = some (.string labs[(i + j) / 2].grp) := (cl _).trans (hcc _ hm).2
      have N1 : Hid (ltB labs[(i + j) / 2].pre p = true → ∀ t, t < (i + j) / 2 + 1 → ∀ ht : t < labs.length, ltB labs[t].pre p = true) := fun h t h1 ht => by
        by_cases e : t = (i + j) / 2
        · subst e; exact h
        · exact ltB_trans (sorted_lt HS.out (show t < (i + j) / 2 by omega) hm) h
      have N2 : Hid (ltB labs[(i + j) / 2].pre p = false → ∀ t, (i + j) / 2 ≤ t → ∀ ht : t < labs.length, ltB labs[t].pre p = false) := fun h t h1 ht => by
        by_cases e : t = (i + j) / 2
        · subst e; exact h
        · cases e' : ltB labs[t].pre p
          · rfl
          · rw [ltB_trans (sorted_lt HS.out (show (i + j) / 2 < t by omega) ht) e'] at h; cases h
      clear cl hcc HC HS
      generalize labs[(i + j) / 2] = x at c1 c2 N1 N2
      cases hx : ltB x.pre p
      · have hcn := cmpI_pos hx
        have N := Lib.hid (N2.out hx)
        clear N1 N2 hx
        have hcall := labelled1_any x p
        have HCL := Lib.hid hcall
        clear hcall
        generalize cmpI x.pre p = cc at hcn HCL
        go_wp2_with (go_at_call 60; refine (HCL.out _).mono ?_; rintro e w2 ⟨rfl, hb2⟩)
        go_roundw
        case rel => exact ⟨i, (i + j) / 2, by omega, by omega, rfl, by go_num, below_c hB hB.size hb2, H1, N⟩
        case measure => simp [intOf]; omega
      · have hcn := cmpI_neg hx
        have N := Lib.hid (N1.out hx)
        clear N1 N2 hx
        have hcall := labelled1_any x p
        have HCL := Lib.hid hcall
        clear hcall
        generalize cmpI x.pre p = cc at hcn HCL
        go_wp2_with (go_at_call 60; refine (HCL.out _).mono ?_; rintro e w2 ⟨rfl, hb2⟩)
        go_roundw
        case rel => exact ⟨(i + j) / 2 + 1, j, by omega, by omega, by go_num, rfl, below_c hB hB.size hb2, N, H2⟩
        case measure => simp [intOf]; omega
    · obtain rfl : i = j := by omega
      obtain ⟨F1, F2⟩ := search_end HS.out H1.out H2.out
      have HF1 := Lib.hid F1
      have HF2 := Lib.hid F2
      clear F1 F2 H1 H2 HS
      by_cases hin : i < labs.length
      · obtain ⟨g, off, rfl, hg, hcc⟩ := HC.out (by omega)
        have cl : ∀ o, wr.cell? ⟨g, o, none⟩ = w.cell? ⟨g, o, none⟩ := fun o => (hB.cell (p := ⟨g, o, none⟩) hg)
        have c1 : wr.cell? ⟨g, off + i * 2, none⟩ = some (.string labs[i].pre) := (cl _).trans (hcc _ hin).1
        have c2 : wr.cell? ⟨g, off + i * 2 + 1, none⟩ = some (.string labs[i].grp) := (cl _).trans (hcc _ hin).2
        have HFIN : Hid ((decide (labs[i].pre = p) = true ∧ ∃ hi : i < labs.length, labOf labs p = some labs[i].grp) ∨ (decide (labs[i].pre = p) = false ∧ labOf labs p = none)) := by
          by_cases e : labs[i].pre = p
          · exact .inl ⟨decide_eq_true e, hin, HF1.out hin e⟩
          · exact .inr ⟨decide_eq_false e, HF2.out (fun _ => e)⟩
        have hz := cmpI_zero (a := labs[i].pre) (b := p)
        clear cl hcc HC HF1 HF2
        have hcall := labelled1_any labs[i] p
        generalize cmpI labs[i].pre p = cc at hz hcall
        generalize decide (labs[i].pre = p) = bb at hz HFIN
        have HCL := Lib.hid hcall
        clear hcall
        generalize labs[i].pre = x1 at c1 HCL
        generalize labs[i].grp = x2 at c2 HCL
        go_wp2_with (go_at_call 60; refine (HCL.out _).mono ?_; rintro e w2 ⟨rfl, hb2⟩)
        go_ret2
        exact ⟨i, bb, rfl, below_c hB hB.size hb2, HFIN.out⟩
      · have hd : decide (i < labs.length) = false := by simpa using hin
        have HR := Lib.hid (HF2.out (fun h => absurd h hin))
        go_wp2_with fail
        go_ret2
        exact ⟨i, false, rfl, hB, .inr ⟨rfl, HR.out⟩⟩
def grpOf (l : Lev) (code : ByteArray) : ByteArray := (labOf l.labs (code.extract 0 l.pre.toNat)).getD (code.extract 0 l.pre.toNat)
set_option maxHeartbeats 2000000 in
theorem labelled_any (l : Lev) (p : ByteArray) (v : Value) (w : World) (hf : LevFits l) (hr : RdLabs w v l.labs) (hs : sortedB l.labs) :
    Calls Try.prog 44 #[lvA l v, .string p] w fun e w' => e = .returned (.tuple #[.string ((labOf l.labs p).getD ⟨#[]⟩), .bool (labOf l.labs p).isSome]) ∧ Below w.heap.size w w' := by
  obtain ⟨hn, hl, hx⟩ := hf
  have hr' := hr.below ((Below.refl _ w).alloc (Nat.le_refl _) (.cells #[.string l.name, .int .i64 l.pre, v, .int .i64 l.min, .int .i64 l.cents] 45))
  have HCL := Lib.hid (search_any l.labs p v _ hl hr' hs)
  clear hx hn hs hr'
  obtain ⟨a, cap, rfl, hc⟩ := hr
  have HC := Lib.hid hc
  clear hc
  unfold lvA
  go_enter Try.func44, Try.ntmps44
  go_wp2_with fail
  refine HCL.out.mono ?_
  rintro e w2 ⟨i, b, rfl, hb2, hres⟩
  have hend : Below w.heap.size w w2 := below_ac (Below.refl _ w) (Nat.le_refl _) hb2
  have b2 : w2.cell? ⟨w.heap.size, 2, none⟩ = some (.slice a l.labs.length cap) := (hb2.cell (p := ⟨w.heap.size, 2, none⟩) (by simp)).trans (by simp [go_sem])
  clear hb2 HCL
  rcases hres with ⟨rfl, hi, hlab⟩ | ⟨rfl, hlab⟩
  · obtain ⟨g, off, rfl, hg, hcc⟩ := HC.out (by omega)
    have c2 : w2.cell? ⟨g, off + i * 2 + 1, none⟩ = some (.string l.labs[i].grp) := (hend.cell (p := ⟨g, off + i * 2 + 1, none⟩) hg).trans (hcc _ hi).2
    have HL := Lib.hid hlab
    clear hlab hcc HC
    generalize l.labs[i].grp = x at c2 HL
    go_wp2_with fail
    go_ret2
    exact ⟨by rw [HL.out]; rfl, hend⟩
  · have HL := Lib.hid hlab
    clear hlab HC
    go_wp2_with fail
    go_ret2
    exact ⟨by rw [HL.out]; rfl, hend⟩
theorem grp_some {l : Lev} {c p : ByteArray} (hp : p = c.extract 0 l.pre.toNat) {x : ByteArray} (h : labOf l.labs p = some x) : grpOf l c = x := by unfold grpOf; rw [← hp, h]; rfl
theorem grp_none {l : Lev} {c p : ByteArray} (hp : p = c.extract 0 l.pre.toNat) (h : labOf l.labs p = none) : grpOf l c = p := by unfold grpOf; rw [← hp, h]; rfl
set_option maxHeartbeats 2000000 in
theorem group_any (l : Lev) (c : ByteArray) (v : Value) (w : World) (hf : LevFits l) (hr : RdLabs w v l.labs) (hs : sortedB l.labs) (h0 : 0 ≤ l.pre) (h1 : l.pre ≤ c.size) (hcs : c.size ≤ maxLen) :
    Calls Try.prog 30 #[lvA l v, .string c] w fun e w' => e = .returned (.string (grpOf l c)) ∧ Below w.heap.size w w' := by
  have hr' := hr.below ((Below.refl _ w).alloc (Nat.le_refl _) (.cells #[.string l.name, .int .i64 l.pre, v, .int .i64 l.min, .int .i64 l.cents] 45))
  have HCL := Lib.hid (fun p => labelled_any l p v _ hf hr' hs)
  clear hr' hf hr hs
  unfold maxLen at hcs
  obtain ⟨n, hn⟩ : ∃ n : Nat, l.pre = n := ⟨l.pre.toNat, by omega⟩
  have HN := Lib.hid hn
  have e0 : Hid (∀ p, p = c.extract 0 n → p = c.extract 0 l.pre.toNat) := fun p h => by rw [h, HN.out]; rfl
  unfold lvA at HCL ⊢
  rw [hn] at HCL ⊢ h1
  clear hn HN h0
  go_enter Try.func30, Try.ntmps30
  go_wp2_with fail
  refine (HCL.out _).mono ?_
  rintro e w2 ⟨rfl, hb2⟩
  have hend : Below w.heap.size w w2 := below_ac (Below.refl _ w) (Nat.le_refl _) hb2
  clear hb2
  cases hlab : labOf l.labs (c.extract 0 n) with
  | none =>
    have HG := Lib.hid (grp_none (e0.out _ rfl) hlab)
    clear hlab HCL
    go_wp2_with fail
    go_ret
    exact ⟨ret_str HG.out.symm, hend⟩
  | some x =>
    have HG := Lib.hid (grp_some (e0.out _ rfl) hlab)
    clear hlab HCL
    go_wp2_with fail
    go_ret
    exact ⟨ret_str HG.out.symm, hend⟩
end Go.Proofs.Ytdahgfopighhlaa
