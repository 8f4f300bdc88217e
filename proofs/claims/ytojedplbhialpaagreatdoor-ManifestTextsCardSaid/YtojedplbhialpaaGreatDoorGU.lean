import Derived.Test.YtojedplbhialpaaGreatDoorGA
import Derived.Lib.QuietBelow
import Derived.BigQuiet
import Derived.Test.YtojedplbhialpaaGreatDoorGB
/-! UI -/
namespace Go.Proofs.YtojedplbhialpaaGreatDoor
open Go.RowKit
set_option linter.unusedVariables false
theorem Tryz.infoS : (Tryz.prog.info? 9).map (fun i => (i.zero, i.size, i.bytes)) = some (some (.string ⟨#[]⟩), 1, 16) := by kernel_rfl
theorem Tryz.infoB : (Tryz.prog.info? 235).map (fun i => (i.zero, i.size, i.bytes)) = some (some (.agg #[.string ⟨#[]⟩, .string ⟨#[]⟩]), 2, 32) := by kernel_rfl
theorem Tryz.infoL : (Tryz.prog.info? 93).map (fun i => (i.zero, i.size, i.bytes)) = some (some (.agg #[.string ⟨#[]⟩, .int .i64 0, .slice none 0 0, .int .i64 0, .int .i64 0]), 5, 64) := by kernel_rfl
end Go.Proofs.YtojedplbhialpaaGreatDoor

/-! U0 -/
namespace Go.Proofs.YtojedplbhialpaaGreatDoor
open Go.RowKit
set_option linter.unusedVariables false
/-- The reference's group of a prefix. -/
def refGrp (l : Lev) (p : ByteArray) : ByteArray := (labOf l.labs p).getD p
def selfB (l : Lev) (x : Lab) : Bool := decide ((x.grp.size : Int) = l.pre) && plainB x.grp
def allL1 (l : Lev) (x : Lab) : List ByteArray := x.pre :: if selfB l x then [x.grp] else []
/-- The prefixes that the reference compares, of the first k labels. -/
def allTo (l : Lev) (k : Nat) : List ByteArray := (l.labs.take k).flatMap (allL1 l)
theorem allTo_succ (l : Lev) (k : Nat) (h : k < l.labs.length) : allTo l (k + 1) = allTo l k ++ allL1 l l.labs[k] := by
  unfold allTo; rw [List.take_succ_eq_append_getElem h, List.flatMap_append, List.flatMap_cons, List.flatMap_nil, List.append_nil]
theorem allTo_len (l : Lev) (k : Nat) : (allTo l k).length ≤ 2 * k := by
  induction k with
  | zero => simp [allTo]
  | succ k ih =>
    by_cases h : k < l.labs.length
    · rw [allTo_succ l k h, List.length_append]
      have : (allL1 l l.labs[k]).length ≤ 2 := by unfold allL1; split <;> simp
      omega
    · have : allTo l (k + 1) = allTo l k := by unfold allTo; rw [List.take_of_length_le (by omega), List.take_of_length_le (by omega)]
      rw [this]; omega
def allL (l : Lev) : List ByteArray := allTo l l.labs.length
theorem mem_allL {l : Lev} {a : ByteArray} : a ∈ allL l ↔ ∃ x ∈ l.labs, a = x.pre ∨ (selfB l x = true ∧ a = x.grp) := by
  unfold allL allTo
  rw [List.take_of_length_le (Nat.le_refl _), List.mem_flatMap]
  constructor
  · rintro ⟨x, hx, ha⟩
    refine ⟨x, hx, ?_⟩
    unfold allL1 at ha
    rcases List.mem_cons.1 ha with rfl | ha
    · exact .inl rfl
    · cases hs : selfB l x
      · rw [hs] at ha; simp at ha
      · rw [hs] at ha; exact .inr ⟨rfl, by simpa using ha⟩
  · rintro ⟨x, hx, rfl | ⟨hs, rfl⟩⟩
    · exact ⟨x, hx, List.mem_cons_self⟩
    · exact ⟨x, hx, by unfold allL1; rw [hs]; simp⟩
/-- Two prefixes of a level fit: the same group here, the same group at the next level. -/
def fitN (l next : Lev) (a b : ByteArray) : Prop := refGrp l a = refGrp l b → refGrp next (a.extract 0 next.pre.toNat) = refGrp next (b.extract 0 next.pre.toNat)
def nestR (l next : Lev) (n : Nat) : Prop := ∀ i k, k < i → i < n → fitN l next ((allL l).getD i ⟨#[]⟩) ((allL l).getD k ⟨#[]⟩)
theorem getD_mem {l : List ByteArray} {i : Nat} (h : i < l.length) : l.getD i ⟨#[]⟩ ∈ l := by
  rw [List.getD_eq_getElem?_getD, List.getElem?_eq_getElem h]; exact List.getElem_mem h
theorem nest_all {l next : Lev} : nestR l next (allL l).length ↔ ∀ a ∈ allL l, ∀ b ∈ allL l, refGrp l a = refGrp l b → grpOf next a = grpOf next b := by
  constructor
  · intro h a ha b hb e
    obtain ⟨i, hi, rfl⟩ := List.mem_iff_getElem.1 ha
    obtain ⟨k, hk, rfl⟩ := List.mem_iff_getElem.1 hb
    have gi : (allL l).getD i ⟨#[]⟩ = (allL l)[i] := by rw [List.getD_eq_getElem?_getD, List.getElem?_eq_getElem hi]; rfl
    have gk : (allL l).getD k ⟨#[]⟩ = (allL l)[k] := by rw [List.getD_eq_getElem?_getD, List.getElem?_eq_getElem hk]; rfl
    rcases Nat.lt_trichotomy i k with hlt | rfl | hlt
    · have := h k i hlt hk
      rw [gi, gk] at this
      exact (this e.symm).symm
    · rfl
    · have := h i k hlt hi
      rw [gi, gk] at this
      exact this e
  · intro h i k hki hi e
    exact h _ (getD_mem hi) _ (getD_mem (by omega)) e
theorem labOf_some {labs : List Lab} {p g : ByteArray} (h : labOf labs p = some g) : ∃ y ∈ labs, y.pre = p ∧ y.grp = g := by
  unfold labOf at h
  rw [Option.map_eq_some_iff] at h
  obtain ⟨y, hy, rfl⟩ := h
  exact ⟨y, List.mem_of_find?_eq_some hy, by simpa using List.find?_some hy, rfl⟩
theorem nest_ref {l next : Lev} (hs : sortedB l.labs) : nestR l next (allL l).length ↔ nestedP l next := by
  rw [nest_all]
  have lab_in : ∀ x ∈ l.labs, labOf l.labs x.pre = some x.grp := fun x hx => by
    obtain ⟨i, hi, rfl⟩ := List.mem_iff_getElem.1 hx
    exact labOf_at hs hi
  have own_self : ∀ x, ownB l x = (selfB l x && (labOf l.labs x.grp).isNone) := fun x => rfl
  have p2e : ∀ q ∈ l.labs.flatMap (pairsL l), q.2 ∈ allL l ∧ refGrp l q.2 = q.1 := fun q hq => by
    obtain ⟨x, hx, hq⟩ := List.mem_flatMap.1 hq
    unfold pairsL at hq
    rcases List.mem_cons.1 hq with rfl | hq
    · exact ⟨mem_allL.2 ⟨x, hx, .inl rfl⟩, by unfold refGrp; rw [lab_in x hx]; rfl⟩
    · cases ho : ownB l x
      · rw [ho] at hq; simp at hq
      · rw [ho] at hq
        have : q = (x.grp, x.grp) := by simpa using hq
        subst this
        rw [own_self, Bool.and_eq_true, Option.isNone_iff_eq_none] at ho
        exact ⟨mem_allL.2 ⟨x, hx, .inr ⟨ho.1, rfl⟩⟩, by unfold refGrp; rw [ho.2]; rfl⟩
  have e2p : ∀ a ∈ allL l, (refGrp l a, a) ∈ l.labs.flatMap (pairsL l) := fun a ha => by
    obtain ⟨x, hx, h⟩ := mem_allL.1 ha
    rw [List.mem_flatMap]
    rcases h with rfl | ⟨hs', rfl⟩
    · refine ⟨x, hx, ?_⟩
      unfold refGrp; rw [lab_in x hx]
      exact List.mem_cons_self
    · cases hl : labOf l.labs x.grp with
      | none =>
        refine ⟨x, hx, ?_⟩
        have ho : ownB l x = true := by rw [own_self, hs', hl]; rfl
        unfold refGrp pairsL; rw [hl, ho]; simp
      | some g =>
        obtain ⟨y, hy, h1, h2⟩ := labOf_some hl
        refine ⟨y, hy, ?_⟩
        unfold refGrp; rw [hl]
        show (g, x.grp) ∈ pairsL l y
        rw [← h1, ← h2]
        exact List.mem_cons_self
  constructor
  · intro h x hx y hy e
    obtain ⟨a1, a2⟩ := p2e x hx
    obtain ⟨b1, b2⟩ := p2e y hy
    exact h _ a1 _ b1 (by rw [a2, b2]; exact e)
  · intro h a ha b hb e
    exact h (_, a) (e2p a ha) (_, b) (e2p b hb) e
end Go.Proofs.YtojedplbhialpaaGreatDoor

/-! U1 -/
namespace Go.Proofs.YtojedplbhialpaaGreatDoor
open Go.RowKit
set_option linter.unusedVariables false
set_option maxRecDepth 100000
set_option maxHeartbeats 1000000 in
theorem rPlain_any (s : ByteArray) (w : World) (hs : s.size ≤ maxLen) :
    Calls Tryz.prog 191 #[.string s] w fun e w' => e = .returned (.bool (plainB s)) ∧ w = w' := by
  unfold maxLen at hs
  go_enter Tryz.func191, Tryz.ntmps191
  go_wp2_with fail
  go_loop [3] (fun i => ∃ k : Nat, k ≤ s.size ∧ i = .int .i64 k ∧ Hid (∀ j, j < k → ∀ h : j < s.size, plainC s[j].toNat = true)) (fun i => s.size - (intOf i).toNat)
  case atStart => exact ⟨0, Nat.zero_le _, rfl, fun j h => by omega⟩
  case round =>
    obtain ⟨k, hk, rfl, ha⟩ := hrel
    by_cases hlt : k < s.size
    · have hn : Hid (plainC s[k].toNat = true → ∀ j, j < k + 1 → ∀ h : j < s.size, plainC s[j].toNat = true) := fun h1 j hj h => by
        by_cases e : j = k
        · subst e; exact h1
        · exact ha j (by omega) h
      have hf : Hid (plainC s[k].toNat = false → plainB s = false) := fun h1 => allB_false hlt h1
      clear ha
      have five : (s[k].toNat : Int) < 48 ∨ (48 ≤ (s[k].toNat : Int) ∧ (s[k].toNat : Int) ≤ 57) ∨ (57 < (s[k].toNat : Int) ∧ (s[k].toNat : Int) < 65) ∨ (65 ≤ (s[k].toNat : Int) ∧ (s[k].toNat : Int) ≤ 90) ∨ 90 < (s[k].toNat : Int) := by omega
      rcases five with h | ⟨h, h'⟩ | ⟨h, h'⟩ | ⟨h, h'⟩ | h
      · have d1 : decide (65 ≤ (s[k].toNat : Int)) = false := decide_eq_false (by omega)
        have d2 : decide (48 ≤ (s[k].toNat : Int)) = false := decide_eq_false (by omega)
        have HX := Lib.hid (hf.out (plainC_false (by omega)))
        clear hn hf h
        go_wp2_with fail
        go_ret
        exact ⟨ret_bool HX.out.symm, rfl⟩
      · have d1 : decide (65 ≤ (s[k].toNat : Int)) = false := decide_eq_false (by omega)
        have d2 : decide (48 ≤ (s[k].toNat : Int)) = true := decide_eq_true h
        have d3 : decide ((s[k].toNat : Int) ≤ 57) = true := decide_eq_true h'
        have HX := Lib.hid (hn.out (plainC_true (by omega)))
        clear hn hf h h'
        go_wp2_with fail
        go_round
        case rel => exact ⟨k + 1, by omega, by go_num, HX.out⟩
        case measure => simp [intOf]; omega
      · have d1 : decide (65 ≤ (s[k].toNat : Int)) = false := decide_eq_false (by omega)
        have d2 : decide (48 ≤ (s[k].toNat : Int)) = true := decide_eq_true (by omega)
        have d3 : decide ((s[k].toNat : Int) ≤ 57) = false := decide_eq_false (by omega)
        have HX := Lib.hid (hf.out (plainC_false (by omega)))
        clear hn hf h h'
        go_wp2_with fail
        go_ret
        exact ⟨ret_bool HX.out.symm, rfl⟩
      · have d1 : decide (65 ≤ (s[k].toNat : Int)) = true := decide_eq_true h
        have d2 : decide ((s[k].toNat : Int) ≤ 90) = true := decide_eq_true h'
        have HX := Lib.hid (hn.out (plainC_true (by omega)))
        clear hn hf h h'
        go_wp2_with fail
        go_round
        case rel => exact ⟨k + 1, by omega, by go_num, HX.out⟩
        case measure => simp [intOf]; omega
      · have d1 : decide (65 ≤ (s[k].toNat : Int)) = true := decide_eq_true (by omega)
        have d2 : decide ((s[k].toNat : Int) ≤ 90) = false := decide_eq_false (by omega)
        have d3 : decide (48 ≤ (s[k].toNat : Int)) = true := decide_eq_true (by omega)
        have d4 : decide ((s[k].toNat : Int) ≤ 57) = false := decide_eq_false (by omega)
        have HX := Lib.hid (hf.out (plainC_false (by omega)))
        clear hn hf h
        go_wp2_with fail
        go_ret
        exact ⟨ret_bool HX.out.symm, rfl⟩
    · go_wp2_with fail
      go_ret
      exact ⟨ret_bool (allB_true fun j hj h => ha j (by omega) h).symm, rfl⟩
theorem rCode_any (s : ByteArray) (w : World) (hs : s.size ≤ maxLen) :
    Calls Tryz.prog 149 #[.string s] w fun e w' => e = .returned (.bool (codeB s)) ∧ w = w' := by
  have hm := hs
  unfold maxLen at hs
  by_cases h : 1 ≤ s.size ∧ s.size ≤ 10
  · obtain ⟨h1, h2⟩ := h
    have hf : codeB s = plainB s := by unfold codeB; simp [h1, h2]
    have HF := Lib.hid hf
    clear hf
    go_enter Tryz.func149, Tryz.ntmps149
    go_wp2_with (go_at_call 191; refine (rPlain_any _ _ hm).mono ?_; rintro e w' ⟨rfl, rfl⟩)
    go_ret
    exact ⟨ret_bool HF.out.symm, rfl⟩
  · have hf : codeB s = false := by unfold codeB; simp; intro a b; exact absurd ⟨a, b⟩ h
    have HF := Lib.hid hf
    clear hf
    have h' : s.size < 1 ∨ 10 < s.size := by omega
    clear h
    rcases h' with h | h
    all_goals
      go_enter Tryz.func149, Tryz.ntmps149
      go_wp2_with fail
      go_ret
      exact ⟨ret_bool HF.out.symm, rfl⟩
theorem nameC_true {n : Int} (h1 : 33 ≤ n) (h2 : n ≤ 126) : nameC n = true := by unfold nameC; simp; omega
theorem nameC_false {n : Int} (h : n < 33 ∨ 126 < n) : nameC n = false := by unfold nameC; simp; omega
set_option maxHeartbeats 1000000 in
theorem rName_any (s : ByteArray) (w : World) (hs : s.size ≤ maxLen) :
    Calls Tryz.prog 190 #[.string s] w fun e w' => e = .returned (.bool (nameB s)) ∧ w = w' := by
  unfold maxLen at hs
  go_enter Tryz.func190, Tryz.ntmps190
  go_wp2_with fail
  go_loop [3] (fun i => ∃ k : Nat, k ≤ s.size ∧ i = .int .i64 k ∧ Hid (∀ j, j < k → ∀ h : j < s.size, nameC s[j].toNat = true)) (fun i => s.size - (intOf i).toNat)
  case atStart => exact ⟨0, Nat.zero_le _, rfl, fun j h => by omega⟩
  case round =>
    obtain ⟨k, hk, rfl, ha⟩ := hrel
    by_cases hlt : k < s.size
    · have hn : Hid (nameC s[k].toNat = true → ∀ j, j < k + 1 → ∀ h : j < s.size, nameC s[j].toNat = true) := fun h1 j hj h => by
        by_cases e : j = k
        · subst e; exact h1
        · exact ha j (by omega) h
      have hf : Hid (nameC s[k].toNat = false → nameB s = false) := fun h1 => by
        have : allB nameC s = false := allB_false hlt h1
        unfold nameB; rw [this]; simp
      clear ha
      go_wp2_with fail
      all_goals first
        | (go_ret; exact ⟨ret_bool (hf.out (nameC_false (by omega))).symm, rfl⟩)
        | (go_round
           case rel => exact ⟨k + 1, by omega, by go_num, hn.out (nameC_true (by omega) (by omega))⟩
           case measure => simp [intOf]; omega)
    · have hall : nameB s = (decide (1 ≤ s.size) && decide (s.size ≤ 20)) := by
        unfold nameB; rw [allB_true fun j hj h => ha j (by omega) h]; simp
      have HA := Lib.hid hall
      clear hall ha
      go_wp2_with fail
      all_goals
        go_ret
        refine ⟨ret_bool ?_, rfl⟩
        rw [HA.out, Bool.eq_iff_iff]
        simp
        try omega
theorem refGrp_at {l : Lev} {p : ByteArray} {k : Nat} (hk : k < l.labs.length) (hno : ∀ j, j < k → ∀ h : j < l.labs.length, l.labs[j].pre ≠ p) (h : l.labs[k].pre = p) : refGrp l p = l.labs[k].grp := by
  unfold refGrp labOf
  have : l.labs.find? (fun x => decide (x.pre = p)) = some l.labs[k] := by
    rw [List.find?_eq_some_iff_getElem]
    refine ⟨by simpa using h, k, hk, rfl, fun j hj => ?_⟩
    simpa using hno j hj (by omega)
  rw [this]; rfl
theorem refGrp_none {l : Lev} {p : ByteArray} (hno : ∀ j, j < l.labs.length → ∀ h : j < l.labs.length, l.labs[j].pre ≠ p) : refGrp l p = p := by
  unfold refGrp
  rw [labOf_none (fun i hi => hno i hi hi)]; rfl
set_option maxHeartbeats 2000000 in
theorem rGroup_any (l : Lev) (v : Value) (p : ByteArray) (w : World) (hl : l.labs.length ≤ 100000) (hv : RdLabs w v l.labs) :
    Calls Tryz.prog 192 #[lvA l v, .string p] w fun e w' => e = .returned (.string (refGrp l p)) ∧ Below w.heap.size w w' := by
  obtain ⟨a, cap, rfl, hc⟩ := hv
  have HC := Lib.hid hc
  have HB0 : Hid (Below w.heap.size w (w.alloc (.cells #[.string l.name, .int .i64 l.pre, .slice a l.labs.length cap, .int .i64 l.min, .int .i64 l.cents] 93))) := (Below.refl _ w).alloc (Nat.le_refl _) _
  clear hc
  unfold lvA
  go_enter Tryz.func192, Tryz.ntmps192
  go_wp2_with fail
  go_loop [5] (fun i => ∃ k : Nat, k ≤ l.labs.length ∧ i = .int .i64 k ∧ Hid (∀ j, j < k → ∀ h : j < l.labs.length, l.labs[j].pre ≠ p)) (fun i => l.labs.length - (intOf i).toNat)
  case atStart => exact ⟨0, Nat.zero_le _, rfl, fun j h => by omega⟩
  case round =>
    obtain ⟨k, hk, rfl, ha⟩ := hrel
    by_cases hlt : k < l.labs.length
    · obtain ⟨g, off, rfl, hg, hcc⟩ := HC.out (by omega)
      obtain ⟨c1, c2⟩ := hcc k hlt
      have HY : Hid (l.labs[k].pre = p → refGrp l p = l.labs[k].grp) := fun h => refGrp_at hlt ha.out h
      have HN : Hid (l.labs[k].pre ≠ p → ∀ j, j < k + 1 → ∀ h : j < l.labs.length, l.labs[j].pre ≠ p) := fun h => upto_succ (P := fun j => ∀ h : j < l.labs.length, l.labs[j].pre ≠ p) ha.out (fun _ => h)
      generalize l.labs[k] = x at c1 c2 HY HN
      have hd : decide ((k : Int) < (l.labs.length : Int)) = true := decide_eq_true (by omega)
      have hbe := ba_eq x.pre p
      clear hcc HC ha
      by_cases he : x.pre = p
      · rw [decide_eq_true he] at hbe
        have HE := Lib.hid (HY.out he)
        clear HY HN
        go_wp2_with fail
        go_ret
        exact ⟨ret_str HE.out.symm, HB0.out⟩
      · rw [decide_eq_false he] at hbe
        have HE := Lib.hid (HN.out he)
        clear HY HN
        go_wp2_with fail
        go_round
        case rel => exact ⟨k + 1, by omega, by go_num, HE.out⟩
        case measure => simp [intOf]; omega
    · obtain rfl : k = l.labs.length := by omega
      have HE := Lib.hid (refGrp_none (l := l) (p := p) ha.out)
      clear HC ha
      go_wp2_with fail
      go_ret
      exact ⟨ret_str HE.out.symm, HB0.out⟩
end Go.Proofs.YtojedplbhialpaaGreatDoor

/-! UQ -/
namespace Go.Proofs.YtojedplbhialpaaGreatDoor
open Go.RowKit Go.Sort
set_option linter.unusedVariables false
/-- A callee's contract that holds in every later world. -/
theorem regrown_in {P : Program} {f : FuncId} {args : Array Value} {w : World} {v : Value} (h : ∀ W, Below w.heap.size w W → Calls P f args W fun e w' => e = .returned v ∧ Below W.heap.size W w') (p : Regrown) :
    Calls P f args (grow (redrawn w p.d) p.os) fun e w'' => e = .returned v ∧ ∃ p : Regrown, w'' = grow (redrawn w p.d) p.os :=
  Calls.regrown_of (h _ (below_regrown w p.d p.os))
theorem cells_in {w : World} {a : Addr} {v : Value} (h : w.cell? a = some v) : ∀ p : Regrown, (grow (redrawn w p.d) p.os).cell? a = some v := fun p => cell_regrown h p.d p.os
theorem below_in (w : World) (p : Regrown) : Below w.heap.size w (grow (redrawn w p.d) p.os) := below_regrown w p.d p.os
end Go.Proofs.YtojedplbhialpaaGreatDoor

/-! U2 -/
namespace Go.Proofs.YtojedplbhialpaaGreatDoor
open Go.RowKit Go.Sort
set_option linter.unusedVariables false
set_option maxRecDepth 100000
set_option maxHeartbeats 2000000 in
theorem rLevel_head (l : Lev) (v : Value) (last : Bool) (w : World) (hf : LevFits l) (hh : headB l = false) :
    Calls Tryz.prog 144 #[lvA l v, .bool last] w fun e w' => e = .returned (.bool (levelB l last)) ∧ Below w.heap.size w w' := by
  obtain ⟨hn, hl, hx⟩ := hf
  have HF := Lib.hid (headB_false (last := last) hh)
  have hh' : nameB l.name = false ∨ (nameB l.name = true ∧ (l.pre < 0 ∨ (0 ≤ l.pre ∧ 10 < l.pre) ∨ ((0 ≤ l.pre ∧ l.pre ≤ 10) ∧ l.cents < 0) ∨ ((0 ≤ l.pre ∧ l.pre ≤ 10) ∧ 0 ≤ l.cents ∧ 1000000 < l.cents))) := by
    unfold headB at hh
    cases h : nameB l.name
    · exact .inl rfl
    · rw [h] at hh
      simp at hh
      exact .inr ⟨rfl, by omega⟩
  clear hh hl hx
  obtain ⟨name, pre, labs, min, cents⟩ := l
  dsimp only at hn hh'
  unfold lvA
  dsimp only
  generalize levelB _ _ = r at HF
  clear labs
  rcases hh' with h | ⟨h, h1 | ⟨h0, h1⟩ | ⟨⟨h0, h1⟩, h2⟩ | ⟨⟨h0, h1⟩, h2, h3⟩⟩
  all_goals
    go_enter Tryz.func144, Tryz.ntmps144
    go_wp2_with (go_at_call 190; refine (rName_any _ _ hn).mono ?_; rintro e w1 ⟨rfl, rfl⟩)
    go_ret
    exact ⟨ret_bool HF.out.symm, (Below.refl _ w).alloc (Nat.le_refl _) _⟩
set_option maxHeartbeats 2000000 in
theorem rLevel_min (l : Lev) (v : Value) (w : World) (hf : LevFits l) (hh : headB l = true) (hm : l.min < 1 ∨ 2000 < l.min) :
    Calls Tryz.prog 144 #[lvA l v, .bool false] w fun e w' => e = .returned (.bool (levelB l false)) ∧ Below w.heap.size w w' := by
  obtain ⟨hn, hl, hx⟩ := hf
  have HR : Hid (levelB l false = false) := levelB_false (fun h => by have := h.2; simp at this; omega)
  obtain ⟨h, h1, h2, h3, h4⟩ := head_parts hh
  clear hh hx
  obtain ⟨name, pre, labs, min, cents⟩ := l
  dsimp only at *
  unfold lvA
  dsimp only
  generalize levelB _ _ = r at HR
  rcases hm with hm | hm
  all_goals
    go_enter Tryz.func144, Tryz.ntmps144
    go_wp2_with (go_at_call 190; refine (rName_any _ _ hn).mono ?_; rintro e w1 ⟨rfl, rfl⟩)
    go_ret
    exact ⟨ret_bool HR.out.symm, (Below.refl _ w).alloc (Nat.le_refl _) _⟩
set_option maxHeartbeats 2000000 in
theorem rLevel_last (l : Lev) (v : Value) (w : World) (hf : LevFits l) (hh : headB l = true) (hv : ∃ a cap, v = .slice a l.labs.length cap) :
    Calls Tryz.prog 144 #[lvA l v, .bool true] w fun e w' => e = .returned (.bool (levelB l true)) ∧ Below w.heap.size w w' := by
  obtain ⟨hn, hl, hx⟩ := hf
  obtain ⟨a, cap, rfl⟩ := hv
  have HT : Hid (l.min = 0 → l.pre = 0 → l.labs.length = 0 → levelB l true = true) := fun h1 h2 h3 => levelB_iff.2 ⟨hh, by simp [h1, h2, h3]⟩
  have HF : Hid (¬ (l.min = 0 ∧ l.pre = 0 ∧ l.labs.length = 0) → levelB l true = false) := fun h => levelB_false (fun h' => h (by simpa using h'.2))
  obtain ⟨h, h1, h2, h3, h4⟩ := head_parts hh
  clear hh hx
  obtain ⟨name, pre, labs, min, cents⟩ := l
  dsimp only at *
  unfold lvA
  dsimp only
  generalize levelB _ _ = r at HT HF
  generalize labs.length = n at HT HF hl
  by_cases p0 : pre = 0
  · subst p0
    by_cases n0 : n = 0
    · subst n0
      by_cases m0 : min = 0
      · subst m0
        have HR := Lib.hid (HT.out rfl rfl rfl)
        clear HT HF
        go_enter Tryz.func144, Tryz.ntmps144
        go_wp2_with (go_at_call 190; refine (rName_any _ _ hn).mono ?_; rintro e w1 ⟨rfl, rfl⟩)
        go_loop [5] (fun i => i = .int .i64 0) (fun i => 0)
        case atStart => rfl
        case round =>
          subst hrel
          go_wp2_with fail
          go_ret
          exact ⟨ret_bool HR.out.symm, (Below.refl _ w).alloc (Nat.le_refl _) _⟩
      · have hne : (min != 0) = true := by simpa using m0
        have HR := Lib.hid (HF.out (fun h => m0 h.1))
        clear m0
        go_enter Tryz.func144, Tryz.ntmps144
        go_wp2_with (go_at_call 190; refine (rName_any _ _ hn).mono ?_; rintro e w1 ⟨rfl, rfl⟩)
        go_ret
        exact ⟨ret_bool HR.out.symm, (Below.refl _ w).alloc (Nat.le_refl _) _⟩
    · have hne : ((n : Int) != 0) = true := by simp; omega
      have HR := Lib.hid (HF.out (fun h => n0 h.2.2))
      clear n0
      go_enter Tryz.func144, Tryz.ntmps144
      go_wp2_with (go_at_call 190; refine (rName_any _ _ hn).mono ?_; rintro e w1 ⟨rfl, rfl⟩)
      go_ret
      exact ⟨ret_bool HR.out.symm, (Below.refl _ w).alloc (Nat.le_refl _) _⟩
  · have hne : (pre != 0) = true := by simpa using p0
    have HR := Lib.hid (HF.out (fun h => p0 h.2.1))
    clear p0
    go_enter Tryz.func144, Tryz.ntmps144
    go_wp2_with (go_at_call 190; refine (rName_any _ _ hn).mono ?_; rintro e w1 ⟨rfl, rfl⟩)
    go_ret
    exact ⟨ret_bool HR.out.symm, (Below.refl _ w).alloc (Nat.le_refl _) _⟩
set_option maxHeartbeats 8000000 in
theorem rLevel_labs (l : Lev) (v : Value) (w : World) (hf : LevFits l) (hh : headB l = true) (hm1 : 1 ≤ l.min) (hm2 : l.min ≤ 2000) (hr : RdLabs w v l.labs) :
    Calls Tryz.prog 144 #[lvA l v, .bool false] w fun e w' => e = .returned (.bool (levelB l false)) ∧ Below w.heap.size w w' := by
  obtain ⟨hn, hl, hx⟩ := hf
  obtain ⟨a, cap, rfl, hc⟩ := hr
  have HC := Lib.hid hc
  have HX := Lib.hid hx
  have HT : Hid (labsTo l l.labs.length → levelB l false = true) := fun h => levelB_iff.2 ⟨hh, by simp; exact ⟨⟨hm1, hm2⟩, h⟩⟩
  have HF1 : Hid (∀ k (hk : k < l.labs.length), labOk l l.labs[k] = false → levelB l false = false) := fun k hk => levelB_not_lab hk
  have HF2 : Hid (∀ j (hk : j + 1 < l.labs.length), ltB l.labs[j].pre l.labs[j + 1].pre = false → levelB l false = false) := fun j hk => levelB_not_sorted hk
  obtain ⟨h, h1, h2, h3, h4⟩ := head_parts hh
  clear hh hx hc
  generalize levelB l false = r at HT HF1 HF2
  unfold lvA
  go_enter Tryz.func144, Tryz.ntmps144
  go_wp2_with (go_at_call 190; refine (rName_any _ _ hn).mono ?_; rintro e w1 ⟨rfl, rfl⟩)
  go_loopw [5] (fun i wr => ∃ k : Nat, k ≤ l.labs.length ∧ i = .int .i64 k ∧ Hid (labsTo l k) ∧ Below (w.heap.size + 1) (w.alloc (.cells #[.string l.name, .int .i64 l.pre, .slice a l.labs.length cap, .int .i64 l.min, .int .i64 l.cents] 93)) wr) (fun i _ => l.labs.length - (intOf i).toNat)
  case atStart => exact ⟨0, Nat.zero_le _, rfl, fun j h => by omega, Below.refl _ _⟩
  case round =>
    obtain ⟨k, hk, rfl, ha, hB⟩ := hrel
    have hbx : w.heap.size < (w.alloc (.cells #[.string l.name, .int .i64 l.pre, .slice a l.labs.length cap, .int .i64 l.min, .int .i64 l.cents] 93)).heap.size := by simp
    have b1 : wr.cell? ⟨w.heap.size, 1, none⟩ = some (.int .i64 l.pre) := (hB.cell (p := ⟨w.heap.size, 1, none⟩) (Nat.lt_succ_self _)).trans (by simp [go_sem])
    have b2 : wr.cell? ⟨w.heap.size, 2, none⟩ = some (.slice a l.labs.length cap) := (hB.cell (p := ⟨w.heap.size, 2, none⟩) (Nat.lt_succ_self _)).trans (by simp [go_sem])
    have hsz : w.heap.size < wr.heap.size := Nat.lt_of_lt_of_le hbx hB.size
    have hend : Below w.heap.size w wr := ((Below.refl _ w).alloc (Nat.le_refl _) _).trans (hB.mono (Nat.le_succ _))
    by_cases hlt : k < l.labs.length
    · obtain ⟨g, off, rfl, hg, hcc⟩ := HC.out (by omega)
      have hgr : g < wr.heap.size := by omega
      have cl : ∀ o, wr.cell? ⟨g, o, none⟩ = w.cell? ⟨g, o, none⟩ := fun o => (hend.cell (p := ⟨g, o, none⟩) hg)
      have c1 : wr.cell? ⟨g, off + k * 2, none⟩ = some (.string l.labs[k].pre) := (cl _).trans (hcc k hlt).1
      have c2 : wr.cell? ⟨g, off + k * 2 + 1, none⟩ = some (.string l.labs[k].grp) := (cl _).trans (hcc k hlt).2
      have x1 := (HX.out _ (List.getElem_mem hlt)).1
      have x2 := (HX.out _ (List.getElem_mem hlt)).2
      have HN := Lib.hid (fun a b => labsTo_succ ha.out hlt a b)
      have HFK := Lib.hid (HF1.out k hlt)
      have hprev : Hid (∀ j, j + 1 = k → ∃ q : ByteArray, wr.cell? ⟨g, off + j * 2, none⟩ = some (.string q) ∧ (ltB q l.labs[k].pre = false → r = false) ∧ (ltB q l.labs[k].pre = true → ∀ j, j + 1 = k → ∀ h' : j < l.labs.length, ltB l.labs[j].pre l.labs[k].pre = true)) := fun j hj => by
        subst hj
        exact ⟨l.labs[j].pre, (cl _).trans (hcc j (by omega)).1, fun h => HF2.out j hlt h, fun h i hi _ => by
          obtain rfl : i = j := by omega
          exact h⟩
      have hlc := labOk_cases (l := l) (x := l.labs[k])
      have HLC := Lib.hid hlc
      clear cl hcc HC HX HF1 HF2 HT ha hlc
      generalize labOk l l.labs[k] = lok at HFK HN HLC
      generalize l.labs[k].pre = xp at c1 x1 HN HLC hprev
      generalize l.labs[k].grp = xg at c2 x2 HLC
      have hd : decide ((k : Int) < (l.labs.length : Int)) = true := decide_eq_true (by omega)
      go_wp2_with fail
      have q0 : (wr.alloc (.cells #[.string xp, .string xg] 235)).cell? ⟨wr.heap.size, 0, none⟩ = some (.string xp) := by rw [World.cell?_alloc_new]; rfl
      have q1 : (wr.alloc (.cells #[.string xp, .string xg] 235)).cell? ⟨wr.heap.size, 1, none⟩ = some (.string xg) := by rw [World.cell?_alloc_new]; rfl
      have d1 := (cell_alloc_old (.cells #[.string xp, .string xg] 235) hsz (i := 1)).trans b1
      have d2 := (cell_alloc_old (.cells #[.string xp, .string xg] 235) hsz (i := 2)).trans b2
      have hprev2 : Hid (∀ j, j + 1 = k → ∃ q : ByteArray, (wr.alloc (.cells #[.string xp, .string xg] 235)).cell? ⟨g, off + j * 2, none⟩ = some (.string q) ∧ (ltB q xp = false → r = false) ∧ (ltB q xp = true → ∀ j, j + 1 = k → ∀ h' : j < l.labs.length, ltB l.labs[j].pre xp = true)) := fun j hj => by
        obtain ⟨q, h1, h2, h3⟩ := hprev.out j hj
        exact ⟨q, (cell_alloc_old _ hgr).trans h1, h2, h3⟩
      have HBX : Hid (Below (w.heap.size + 1) (w.alloc (.cells #[.string l.name, .int .i64 l.pre, .slice (some ⟨g, off, none⟩) l.labs.length cap, .int .i64 l.min, .int .i64 l.cents] 93)) (wr.alloc (.cells #[.string xp, .string xg] 235))) := hB.alloc hsz _
      have HEX : Hid (Below w.heap.size w (wr.alloc (.cells #[.string xp, .string xg] 235))) := hend.alloc (Nat.le_of_lt hsz) _
      generalize wr.alloc (.cells #[.string xp, .string xg] 235) = wx at q0 q1 d1 d2 hprev2 HBX HEX ⊢
      have q0 := cells_in q0
      have q1 := cells_in q1
      have d1 := cells_in d1
      have d2 := cells_in d2
      clear hprev hB hend hsz hbx b1 b2 c1 c2 hgr
      have CP : Hid (∀ W, Below wx.heap.size wx W → Calls Tryz.prog 191 #[.string xp] W fun e w' => e = .returned (.bool (plainB xp)) ∧ Below W.heap.size W w') := fun W _ => (rPlain_any xp W x1).mono fun e w' ⟨a, b⟩ => ⟨a, by subst b; exact Below.refl _ _⟩
      have CN : Hid (∀ W, Below wx.heap.size wx W → Calls Tryz.prog 190 #[.string xg] W fun e w' => e = .returned (.bool (nameB xg)) ∧ Below W.heap.size W w') := fun W _ => (rName_any xg W x2).mono fun e w' ⟨a, b⟩ => ⟨a, by subst b; exact Below.refl _ _⟩
      generalize plainB xp = pb at CP HLC
      generalize nameB xg = nb at CN HLC
      clear x1 x2
      rcases HLC.out with ⟨rfl, hcs⟩ | ⟨rfl, t1, rfl, rfl⟩
      · have HR := Lib.hid (HFK.out rfl)
        clear HFK HN hprev2 HLC
        rcases hcs with t1 | ⟨t1, rfl⟩ | ⟨t1, rfl, rfl⟩
        · refine wp_region_quiet_below (by kernel_rfl) (by kernel_rfl) ?_
          repeat (go_big_quiet_step ((first | (with_reducible exact regrown_in CP.out _) | (with_reducible exact regrown_in CN.out _))))
          refine wpQuiet_nil ?_
          intro _ hw'
          obtain ⟨pp, hw''⟩ := hw'
          subst hw''
          go_wp2_with fail
          go_ret
          exact ⟨ret_bool HR.out.symm, HEX.out.trans ((below_in wx pp).mono HEX.out.size)⟩
        · refine wp_region_quiet_below (by kernel_rfl) (by kernel_rfl) ?_
          repeat (go_big_quiet_step ((first | (with_reducible exact regrown_in CP.out _) | (with_reducible exact regrown_in CN.out _))))
          refine wpQuiet_nil ?_
          intro _ hw'
          obtain ⟨pp, hw''⟩ := hw'
          subst hw''
          go_wp2_with fail
          go_ret
          exact ⟨ret_bool HR.out.symm, HEX.out.trans ((below_in wx pp).mono HEX.out.size)⟩
        · refine wp_region_quiet_below (by kernel_rfl) (by kernel_rfl) ?_
          repeat (go_big_quiet_step ((first | (with_reducible exact regrown_in CP.out _) | (with_reducible exact regrown_in CN.out _))))
          refine wpQuiet_nil ?_
          intro _ hw'
          obtain ⟨pp, hw''⟩ := hw'
          subst hw''
          go_wp2_with fail
          go_ret
          exact ⟨ret_bool HR.out.symm, HEX.out.trans ((below_in wx pp).mono HEX.out.size)⟩
      · have HN' := Lib.hid (HN.out rfl)
        clear HN HFK HLC
        by_cases k0 : 0 < k
        · obtain ⟨q, hq, hq1, hq2⟩ := hprev2.out (k - 1) (by omega)
          have HQ1 := Lib.hid hq1
          have HQ2 := Lib.hid hq2
          have hq := cells_in hq
          clear hq1 hq2 hprev2
          have hle := less_eq q xp
          have hle2 := leq_eq xp q
          have hd1 : decide (0 < k) = true := by simpa using k0
          have hd2 : decide ((0 : Int) < (k : Int)) = true := by simp; omega
          have hw2 : 0 ≤ (k : Int) - 1 := by omega
          have hw3 : ((k : Int) - 1).toNat = k - 1 := by omega
          have hw4 : (k : Int) - 1 < (l.labs.length : Int) := by omega
          have hw5 : 1 ≤ k := by omega
          have hw6 : k - 1 < l.labs.length := by omega
          have hw1 : IntKind.i64.wrap ((k : Int) - 1) = (k : Int) - 1 := IntWalk.i64_in _ (by omega)
          cases hqq : ltB q xp
          · rw [hqq] at hle hle2
            have HR := Lib.hid (HQ1.out hqq)
            refine wp_region_quiet_below (by kernel_rfl) (by kernel_rfl) ?_
            repeat (go_big_quiet_step ((first | (with_reducible exact regrown_in CP.out _) | (with_reducible exact regrown_in CN.out _))))
            refine wpQuiet_nil ?_
            intro _ hw'
            obtain ⟨pp, hw''⟩ := hw'
            subst hw''
            clear hw1
            go_wp2_with fail
            go_ret
            exact ⟨ret_bool HR.out.symm, HEX.out.trans ((below_in wx pp).mono HEX.out.size)⟩
          · rw [hqq] at hle hle2
            have HR := Lib.hid (HN'.out (HQ2.out hqq))
            refine wp_region_quiet_below (by kernel_rfl) (by kernel_rfl) ?_
            repeat (go_big_quiet_step ((first | (with_reducible exact regrown_in CP.out _) | (with_reducible exact regrown_in CN.out _))))
            refine wpQuiet_nil ?_
            intro _ hw'
            obtain ⟨pp, hw''⟩ := hw'
            subst hw''
            have HBN : Hid (Below (w.heap.size + 1) (w.alloc (.cells #[.string l.name, .int .i64 l.pre, .slice (some ⟨g, off, none⟩) l.labs.length cap, .int .i64 l.min, .int .i64 l.cents] 93)) (grow (redrawn wx pp.d) pp.os)) := HBX.out.trans ((below_in wx pp).mono (by have := HBX.out.size; simp at this; omega))
            clear hw1
            go_wp2_with fail
            go_roundw
            case rel => exact ⟨k + 1, by omega, by go_num, HR.out, HBN.out⟩
            case measure => simp [intOf]; omega
        · have hd1 : decide (0 < k) = false := by simp; omega
          have hd2 : decide ((0 : Int) < (k : Int)) = false := by simp; omega
          have HR := Lib.hid (HN'.out (fun j hj => by omega))
          clear hprev2
          refine wp_region_quiet_below (by kernel_rfl) (by kernel_rfl) ?_
          repeat (go_big_quiet_step ((first | (with_reducible exact regrown_in CP.out _) | (with_reducible exact regrown_in CN.out _))))
          refine wpQuiet_nil ?_
          intro _ hw'
          obtain ⟨pp, hw''⟩ := hw'
          subst hw''
          have HBN : Hid (Below (w.heap.size + 1) (w.alloc (.cells #[.string l.name, .int .i64 l.pre, .slice (some ⟨g, off, none⟩) l.labs.length cap, .int .i64 l.min, .int .i64 l.cents] 93)) (grow (redrawn wx pp.d) pp.os)) := HBX.out.trans ((below_in wx pp).mono (by have := HBX.out.size; simp at this; omega))
          go_wp2_with fail
          go_roundw
          case rel => exact ⟨k + 1, by omega, by go_num, HR.out, HBN.out⟩
          case measure => simp [intOf]; omega
    · have HR := Lib.hid (HT.out (by obtain rfl : k = l.labs.length := by omega
                                     exact ha.out))
      go_wp2_with fail
      go_ret
      exact ⟨ret_bool HR.out.symm, hend⟩
theorem rLevel_any (l : Lev) (v : Value) (last : Bool) (w : World) (hf : LevFits l) (hr : RdLabs w v l.labs) :
    Calls Tryz.prog 144 #[lvA l v, .bool last] w fun e w' => e = .returned (.bool (levelB l last)) ∧ Below w.heap.size w w' := by
  cases hh : headB l
  · exact rLevel_head l v last w hf hh
  · cases last
    · by_cases hm : l.min < 1 ∨ 2000 < l.min
      · exact rLevel_min l v w hf hh hm
      · exact rLevel_labs l v w hf hh (by omega) (by omega) hr
    · exact rLevel_last l v w hf hh (by obtain ⟨a, cap, h, _⟩ := hr; exact ⟨a, cap, h⟩)
end Go.Proofs.YtojedplbhialpaaGreatDoor

/-! U3 -/
namespace Go.Proofs.YtojedplbhialpaaGreatDoor
open Go.RowKit Go.Sort
set_option linter.unusedVariables false
set_option maxRecDepth 100000
def boxO (l : Lev) (v : Value) : Obj := .cells #[.string l.name, .int .i64 l.pre, v, .int .i64 l.min, .int .i64 l.cents] 93
theorem boxO_at (w : World) (l : Lev) (v : Value) : (w.alloc (boxO l v)).cell? ⟨w.heap.size, 0, none⟩ = some (.string l.name) ∧ (w.alloc (boxO l v)).cell? ⟨w.heap.size, 1, none⟩ = some (.int .i64 l.pre) ∧ (w.alloc (boxO l v)).cell? ⟨w.heap.size, 2, none⟩ = some v ∧
    (w.alloc (boxO l v)).cell? ⟨w.heap.size, 3, none⟩ = some (.int .i64 l.min) ∧ (w.alloc (boxO l v)).cell? ⟨w.heap.size, 4, none⟩ = some (.int .i64 l.cents) := by
  unfold boxO
  refine ⟨?_, ?_, ?_, ?_, ?_⟩ <;> (rw [World.cell?_alloc_new]; rfl)
/-- Two boxed levels, one behind the other. -/
structure Boxes (B : Nat) (l next : Lev) (v u : Value) (W : World) : Prop where
  l0 : W.cell? ⟨B, 0, none⟩ = some (.string l.name)
  l1 : W.cell? ⟨B, 1, none⟩ = some (.int .i64 l.pre)
  l2 : W.cell? ⟨B, 2, none⟩ = some v
  l3 : W.cell? ⟨B, 3, none⟩ = some (.int .i64 l.min)
  l4 : W.cell? ⟨B, 4, none⟩ = some (.int .i64 l.cents)
  n0 : W.cell? ⟨B + 1, 0, none⟩ = some (.string next.name)
  n1 : W.cell? ⟨B + 1, 1, none⟩ = some (.int .i64 next.pre)
  n2 : W.cell? ⟨B + 1, 2, none⟩ = some u
  n3 : W.cell? ⟨B + 1, 3, none⟩ = some (.int .i64 next.min)
  n4 : W.cell? ⟨B + 1, 4, none⟩ = some (.int .i64 next.cents)
theorem boxes_new (w : World) (l next : Lev) (v u : Value) : Boxes w.heap.size l next v u ((w.alloc (boxO l v)).alloc (boxO next u)) := by
  obtain ⟨a0, a1, a2, a3, a4⟩ := boxO_at w l v
  obtain ⟨b0, b1, b2, b3, b4⟩ := boxO_at (w.alloc (boxO l v)) next u
  have hz : (w.alloc (boxO l v)).heap.size = w.heap.size + 1 := by simp
  rw [hz] at b0 b1 b2 b3 b4
  have hlt : w.heap.size < (w.alloc (boxO l v)).heap.size := by omega
  exact ⟨(cell_alloc_old _ hlt).trans a0, (cell_alloc_old _ hlt).trans a1, (cell_alloc_old _ hlt).trans a2, (cell_alloc_old _ hlt).trans a3, (cell_alloc_old _ hlt).trans a4, b0, b1, b2, b3, b4⟩
theorem Boxes.below {B : Nat} {l next : Lev} {v u : Value} {W W' : World} (h : Boxes B l next v u W) (hb : Below (B + 2) W W') : Boxes B l next v u W' := by
  have c0 : ∀ o, W'.cell? ⟨B, o, none⟩ = W.cell? ⟨B, o, none⟩ := fun o => hb.cell (p := ⟨B, o, none⟩) (by show B < B + 2; omega)
  have c1 : ∀ o, W'.cell? ⟨B + 1, o, none⟩ = W.cell? ⟨B + 1, o, none⟩ := fun o => hb.cell (p := ⟨B + 1, o, none⟩) (by show B + 1 < B + 2; omega)
  exact ⟨(c0 _).trans h.l0, (c0 _).trans h.l1, (c0 _).trans h.l2, (c0 _).trans h.l3, (c0 _).trans h.l4, (c1 _).trans h.n0, (c1 _).trans h.n1, (c1 _).trans h.n2, (c1 _).trans h.n3, (c1 _).trans h.n4⟩
theorem allTo_size {l : Lev} (hp : ∀ x ∈ l.labs, (x.pre.size : Int) = l.pre) : ∀ a ∈ allL l, (a.size : Int) = l.pre := fun a ha => by
  obtain ⟨x, hx, rfl | ⟨hs, rfl⟩⟩ := mem_allL.1 ha
  · exact hp x hx
  · unfold selfB at hs
    simp at hs
    exact hs.1
theorem nestR_step {l next : Lev} {i : Nat} (h : nestR l next i) (h2 : ∀ k, k < i → fitN l next ((allL l).getD i ⟨#[]⟩) ((allL l).getD k ⟨#[]⟩)) : nestR l next (i + 1) := fun j k hk hj => by
  by_cases e : j = i
  · subst e; exact h2 k hk
  · exact h j k hk (by omega)
set_option maxHeartbeats 16000000 in
theorem rNested_any (l next : Lev) (v u : Value) (w : World) (hfl : LevFits l) (hfn : LevFits next) (hv : RdLabs w v l.labs) (hu : RdLabs w u next.labs) (hsort : sortedB l.labs) (hpre : ∀ x ∈ l.labs, (x.pre.size : Int) = l.pre)
    (h0 : 0 ≤ next.pre) (hle : next.pre ≤ l.pre) (h10 : l.pre ≤ 10) :
    Calls Tryz.prog 145 #[lvA l v, lvA next u] w fun e w' => e = .returned (.bool (nestedB l next)) ∧ Below w.heap.size w w' := by
  obtain ⟨i0, hi⟩ := info_parts Tryz.infoS
  have HI := Lib.hid hi
  clear hi
  have HAS := Lib.hid (allTo_size hpre)
  have hal : (allL l).length ≤ 200000 := by have := allTo_len l l.labs.length; have := hfl.2.1; unfold allL; omega
  have HYES : Hid (nestR l next (allL l).length → nestedB l next = true) := fun h => nestedB_iff.2 ((nest_ref hsort).1 h)
  have HNO : Hid (¬ nestR l next (allL l).length → nestedB l next = false) := fun h => nestedB_false (fun h' => h ((nest_ref hsort).2 h'))
  have HGL : Hid (∀ W p, Below w.heap.size w W → Calls Tryz.prog 192 #[lvA l v, .string p] W fun e w' => e = .returned (.string (refGrp l p)) ∧ Below W.heap.size W w') := fun W p hB => rGroup_any l v p W hfl.2.1 (hv.below hB)
  have HGN : Hid (∀ W p, Below w.heap.size w W → Calls Tryz.prog 192 #[lvA next u, .string p] W fun e w' => e = .returned (.string (refGrp next p)) ∧ Below W.heap.size W w') := fun W p hB => rGroup_any next u p W hfn.2.1 (hu.below hB)
  obtain ⟨np, hnp⟩ : ∃ np : Nat, next.pre = np := ⟨next.pre.toNat, by omega⟩
  have hbox := boxes_new w l next v u
  have HZ : Hid (((w.alloc (boxO l v)).alloc (boxO next u)).heap.size = w.heap.size + 2) := by show _ = _; simp
  have HB0 : Hid (Below w.heap.size w ((w.alloc (boxO l v)).alloc (boxO next u))) := ((Below.refl _ w).alloc (Nat.le_refl _) _).alloc (by simp) _
  have HXS := Lib.hid hfl.2.2
  have hl5 := hfl.2.1
  obtain ⟨a, cap, rfl, hc⟩ := hv
  have HC := Lib.hid hc
  unfold lvA at HGL HGN ⊢
  have HNP := Lib.hid hnp
  have HLE := Lib.hid hle
  have HPOS := Lib.hid h10
  clear hu hfl hfn hsort hpre hc h0 hnp hle h10
  obtain ⟨w2, hw2⟩ : ∃ w2 : World, (w.alloc (boxO l (.slice a l.labs.length cap))).alloc (boxO next u) = w2 := ⟨_, rfl⟩
  rw [hw2] at hbox HZ HB0
  unfold boxO at hw2
  have HBX := Lib.hid hbox
  clear hbox
  go_enter Tryz.func145, Tryz.ntmps145
  go_wp2_with fail
  try rw [hw2]
  clear hw2
  go_loopw [5, 6] (fun x i wr => ∃ k : Nat, k ≤ l.labs.length ∧ i = .int .i64 k ∧ OwnsT wr (w.heap.size + 2) x (allTo l k) ∧ Below (w.heap.size + 2) w2 wr) (fun _ i _ => l.labs.length - (intOf i).toNat)
  case atStart => exact ⟨0, Nat.zero_le _, rfl, OwnsT.nil _ _, Below.refl _ _⟩
  case round =>
    obtain ⟨k, hk, rfl, hown, hB⟩ := hrel
    have hbw := HBX.out.below hB
    have hwz : w.heap.size + 2 ≤ wr.heap.size := by have := hB.size; have := HZ.out; omega
    by_cases hlt : k < l.labs.length
    · obtain ⟨g, off, rfl, hg, hcc⟩ := HC.out (by omega)
      have hend : Below w.heap.size w wr := HB0.out.trans (hB.mono (by omega))
      have cl : ∀ o, wr.cell? ⟨g, o, none⟩ = w.cell? ⟨g, o, none⟩ := fun o => hend.cell (p := ⟨g, o, none⟩) hg
      have c1 : wr.cell? ⟨g, off + k * 2, none⟩ = some (.string l.labs[k].pre) := (cl _).trans (hcc k hlt).1
      have c2 : wr.cell? ⟨g, off + k * 2 + 1, none⟩ = some (.string l.labs[k].grp) := (cl _).trans (hcc k hlt).2
      have hgr : g < wr.heap.size := by omega
      have x2 := (HXS.out _ (List.getElem_mem hlt)).2
      have hal5 := allTo_len l k
      have HALL : Hid (allTo l (k + 1) = (allTo l k ++ [l.labs[k].pre]) ++ if selfB l l.labs[k] then [l.labs[k].grp] else []) := by
        show allTo l (k + 1) = _
        rw [allTo_succ l k hlt]; unfold allL1; simp
      have HSF : Hid (selfB l l.labs[k] = (decide ((l.labs[k].grp.size : Int) = l.pre) && plainB l.labs[k].grp)) := rfl
      have hl1 := hbw.l1
      have hl2 := hbw.l2
      clear cl hcc HC hbw HNO HYES HGL HGN HAS HXS
      generalize selfB l l.labs[k] = sf at HALL HSF
      generalize l.labs[k].pre = xp at c1 HALL
      generalize l.labs[k].grp = xg at c2 x2 HALL HSF
      generalize allTo l k = acc at hown HALL hal5
      have hd : decide ((k : Int) < (l.labs.length : Int)) = true := decide_eq_true (by omega)
      have STEP : Hid (∀ v4 w4, w4.ownsRow (w.heap.size + 2) 9 1 v4 (acc.length + 1) (acc.map Value.string ++ [.string xp]) → (wr.alloc (.cells #[.string xp] 9)).grownBy w4 u5.ownBlock →
          Hid (OwnsT w4 (w.heap.size + 2) v4 (acc ++ [xp])) ∧ Hid (Below (w.heap.size + 2) w2 w4) ∧ w4.cell? ⟨w.heap.size, 1, none⟩ = some (.int .i64 l.pre) ∧ w4.cell? ⟨w.heap.size, 2, none⟩ = some (.slice (some ⟨g, off, none⟩) l.labs.length cap) ∧ w4.cell? ⟨g, off + k * 2 + 1, none⟩ = some (.string xg) ∧ w.heap.size + 2 ≤ w4.heap.size) := fun v4 w4 ho hg4 => by
        have hb4 : Below (w.heap.size + 2) w2 w4 := (hB.alloc hwz _).grown hg4 (by simp; omega) (fun r e => (hown.lt r e).1)
        have hbw4 := HBX.out.below hb4
        have hend4 : Below w.heap.size w w4 := HB0.out.trans (hb4.mono (by omega))
        refine ⟨?_, hb4, hbw4.l1, hbw4.l2, ?_, by have := hb4.size; have := HZ.out; omega⟩
        · show w4.ownsRow _ _ _ _ _ _
          rw [List.length_append, List.map_append, List.length_singleton, List.map_singleton]
          exact ho
        · exact (hend4.cell (p := ⟨g, off + k * 2 + 1, none⟩) hg).trans ((hend.cell (p := ⟨g, off + k * 2 + 1, none⟩) hg).symm.trans c2)
      have hal7 : acc.length + 2 ≤ 300000 := by omega
      unfold OwnsT at hown
      clear hend hB hal
      cases hsz : ((xg.size : Int) == l.pre)
      · have hsf : sf = false := by rw [HSF.out, show decide ((xg.size : Int) = l.pre) = false by simpa using hsz]; rfl
        subst hsf
        have HA2 : Hid (allTo l (k + 1) = acc ++ [xp]) := by show _ = _; rw [HALL.out]; simp
        clear HALL HSF
        go_wp2_with (at_builtin; refine wpList_append_own _ rfl _ _ 126 rfl (w.heap.size + 2) 9 i0 (.string ⟨#[]⟩) 1 16 Tryz.underlying126 HI.out.1 HI.out.2.1 HI.out.2.2.1 HI.out.2.2.2 rfl (by decide) _ _ _ rfl (hown.alloc _) ⟨wr.heap.size, 0, none⟩ 1 1 [.string xp] rfl rfl (by have := cell_one_new wr (.string xp) 9; simpa using this) (by simp [Value.oneCell']) (by unfold maxLen; omega) (by omega) (by simp; omega) ?_; intro v4 w4 hown4 hgrow4 _; obtain ⟨HOWN4, HB4, hk1, hk2, c4, hwz4⟩ := STEP.out v4 w4 hown4 hgrow4; clear hown4 hgrow4 hown c1 c2 hl1 hl2)
        go_roundw
        case rel => exact ⟨k + 1, by omega, by go_num, by rw [HA2.out]; exact HOWN4.out, HB4.out⟩
        case measure => simp [intOf]; omega
      · have CP := Lib.hid (fun W => rPlain_any xg W x2)
        have hsf : sf = plainB xg := by rw [HSF.out, show decide ((xg.size : Int) = l.pre) = true by simpa using hsz]; rfl
        rw [← hsf] at CP
        clear hsf HSF
        cases sf
        · have HA2 : Hid (allTo l (k + 1) = acc ++ [xp]) := by show _ = _; rw [HALL.out]; simp
          clear HALL
          go_wp2_with (first | (at_builtin; refine wpList_append_own _ rfl _ _ 126 rfl (w.heap.size + 2) 9 i0 (.string ⟨#[]⟩) 1 16 Tryz.underlying126 HI.out.1 HI.out.2.1 HI.out.2.2.1 HI.out.2.2.2 rfl (by decide) _ _ _ rfl (hown.alloc _) ⟨wr.heap.size, 0, none⟩ 1 1 [.string xp] rfl rfl (by have := cell_one_new wr (.string xp) 9; simpa using this) (by simp [Value.oneCell']) (by unfold maxLen; omega) (by omega) (by simp; omega) ?_; intro v4 w4 hown4 hgrow4 _; obtain ⟨HOWN4, HB4, hk1, hk2, c4, hwz4⟩ := STEP.out v4 w4 hown4 hgrow4; clear hown4 hgrow4 hown c1 c2 hl1 hl2) | (go_at_call 191; refine (CP.out _).mono ?_; rintro e w5 ⟨rfl, rfl⟩))
          go_roundw
          case rel => exact ⟨k + 1, by omega, by go_num, by rw [HA2.out]; exact HOWN4.out, HB4.out⟩
          case measure => simp [intOf]; omega
        · have HA2 : Hid (allTo l (k + 1) = (acc ++ [xp]) ++ [xg]) := by show _ = _; rw [HALL.out]; simp
          clear HALL
          go_wp2_with (first | (at_builtin; refine wpList_append_own _ rfl _ _ 126 rfl (w.heap.size + 2) 9 i0 (.string ⟨#[]⟩) 1 16 Tryz.underlying126 HI.out.1 HI.out.2.1 HI.out.2.2.1 HI.out.2.2.2 rfl (by decide) _ _ _ rfl (hown.alloc _) ⟨wr.heap.size, 0, none⟩ 1 1 [.string xp] rfl rfl (by have := cell_one_new wr (.string xp) 9; simpa using this) (by simp [Value.oneCell']) (by unfold maxLen; omega) (by omega) (by simp; omega) ?_; intro v4 w4 hown4 hgrow4 _; obtain ⟨HOWN4, HB4, hk1, hk2, c4, hwz4⟩ := STEP.out v4 w4 hown4 hgrow4; clear hown4 hgrow4 hown c1 c2 hl1 hl2) | (go_at_call 191; refine (CP.out _).mono ?_; rintro e w5 ⟨rfl, rfl⟩) | (at_builtin; refine wpList_append_own _ rfl _ _ 126 rfl (w.heap.size + 2) 9 i0 (.string ⟨#[]⟩) 1 16 Tryz.underlying126 HI.out.1 HI.out.2.1 HI.out.2.2.1 HI.out.2.2.2 rfl (by decide) _ _ _ rfl ((show w4.ownsRow (w.heap.size + 2) 9 1 v4 _ _ from HOWN4.out).alloc _) ⟨w4.heap.size, 0, none⟩ 1 1 [.string xg] rfl rfl (by have := cell_one_new w4 (.string xg) 9; simpa using this) (by simp [Value.oneCell']) (by unfold maxLen; simp; omega) (by simp; omega) (by simp; omega) ?_; intro v6 w6 hown6 hgrow6 _))
          have hb6 : Below (w.heap.size + 2) w2 w6 := (HB4.out.alloc hwz4 _).grown hgrow6 (by simp; omega) (fun r e => (World.ownsRow.lt HOWN4.out r e).1)
          have HOWN6 : Hid (OwnsT w6 (w.heap.size + 2) v6 (allTo l (k + 1))) := by
            show w6.ownsRow _ _ _ _ _ _
            rw [HA2.out, List.length_append, List.map_append, List.length_singleton, List.map_singleton]
            exact hown6
          have HB6 := Lib.hid hb6
          clear hgrow6 hown6 hb6
          go_roundw
          case rel => exact ⟨k + 1, by omega, by go_num, HOWN6.out, HB6.out⟩
          case measure => simp [intOf]; omega
    · obtain rfl : k = l.labs.length := by omega
      obtain ⟨va, vcap, rfl, hread⟩ := ReadsT.of_row hown
      have hread0 : 0 < (allTo l l.labs.length).length → ∃ g off, va = some ⟨g, off, none⟩ ∧ g < wr.heap.size ∧ ∀ i (h : i < (allTo l l.labs.length).length), wr.cell? ⟨g, off + i, none⟩ = some (.string (allTo l l.labs.length)[i]) := hread
      have HRA : Hid (0 < (allL l).length → ∃ g off, va = some ⟨g, off, none⟩ ∧ g < wr.heap.size ∧ ∀ i (h : i < (allL l).length), wr.cell? ⟨g, off + i, none⟩ = some (.string ((allL l).getD i ⟨#[]⟩))) := fun h0 => by
        obtain ⟨g, off, e1, e2, e3⟩ := hread0 h0
        exact ⟨g, off, e1, e2, fun i hi => by rw [List.getD_eq_getElem?_getD, List.getElem?_eq_getElem hi]; exact e3 i hi⟩
      have hlen : (allTo l l.labs.length).length = (allL l).length := rfl
      rw [hlen]
      have HASZ : Hid (∀ i, i < (allL l).length → (((allL l).getD i ⟨#[]⟩).size : Int) = l.pre) := fun i hi => HAS.out _ (getD_mem hi)
      have HNF : Hid (∀ i k, k < i → i < (allL l).length → ¬ fitN l next ((allL l).getD i ⟨#[]⟩) ((allL l).getD k ⟨#[]⟩) → nestedB l next = false) := fun i k hk hi hn => HNO.out (fun h => hn (h i k hk hi))
      obtain ⟨N, hN⟩ : ∃ N, (allL l).length = N := ⟨_, rfl⟩
      rw [hN] at HRA HASZ HNF HYES hal ⊢
      obtain ⟨w3, rfl⟩ : ∃ w3 : World, w3 = wr := ⟨_, rfl⟩
      have HB3 := Lib.hid hB
      have HN1 : Hid (next.pre.toNat = np) := by have := HNP.out; show next.pre.toNat = np; omega
      rw [HNP.out] at HGN

      have hl2 := hbw.l2
      clear hread hread0 hown hbw hwz hlen hN HAS HNO HC hB HXS hk hlt
      go_wp2_with fail
      go_loopw [8] (fun x wr => ∃ i : Nat, i ≤ N ∧ x = .int .i64 i ∧ Hid (nestR l next i) ∧ Hid (Below w3.heap.size w3 wr)) (fun x _ => N - (intOf x).toNat)
      case atStart => exact ⟨0, Nat.zero_le _, rfl, fun i k hk hi => by omega, Below.refl _ _⟩
      case round =>
        obtain ⟨i, hi, rfl, hni, HBY⟩ := hrel
        by_cases hlt : i < N
        · have hd : decide ((i : Int) < (N : Int)) = true := decide_eq_true (by omega)
          obtain ⟨g3, off3, rfl, hg3, hcell⟩ := HRA.out (by omega)
          have HCE := Lib.hid hcell
          clear hcell HRA
          go_wp2_with fail
          go_loopw [9] (fun x wr => ∃ k : Nat, k ≤ i ∧ x = .int .i64 k ∧ Hid (∀ j, j < k → fitN l next ((allL l).getD i ⟨#[]⟩) ((allL l).getD j ⟨#[]⟩)) ∧ Hid (Below w3.heap.size w3 wr)) (fun x _ => i - (intOf x).toNat)
          case atStart => exact ⟨0, Nat.zero_le _, rfl, fun j h => by omega, HBY.out⟩
          case round =>
            obtain ⟨k, hk, rfl, hfk, HBZ⟩ := hrel
            clear HBY
            by_cases hlk : k < i
            · have hdk : decide ((k : Int) < (i : Int)) = true := decide_eq_true (by omega)
              have c1 := cells_in ((HBZ.out.cell (p := ⟨g3, off3 + i, none⟩) hg3).trans (HCE.out i (by omega)))
              have c2 := cells_in ((HBZ.out.cell (p := ⟨g3, off3 + k, none⟩) hg3).trans (HCE.out k (by omega)))
              have hsa := HASZ.out i (by omega)
              have hsb := HASZ.out k (by omega)
              have HFIT : Hid (fitN l next ((allL l).getD i ⟨#[]⟩) ((allL l).getD k ⟨#[]⟩) → ∀ j, j < k + 1 → fitN l next ((allL l).getD i ⟨#[]⟩) ((allL l).getD j ⟨#[]⟩)) := fun h => upto_succ hfk.out h
              have HBAD := Lib.hid (HNF.out i k hlk (by omega))
              have hwr : Below w.heap.size w wr := HB0.out.trans ((HB3.out.mono (by omega)).trans (HBZ.out.mono (by have := HB3.out.size; have := HZ.out; omega)))
              have HWR := Lib.hid hwr
              have hbz : Below (w.heap.size + 2) w2 wr := HB3.out.trans (HBZ.out.mono (by have := HB3.out.size; have := HZ.out; omega))
              have hbx := HBX.out.below hbz
              have l0 := cells_in hbx.l0
              have l1 := cells_in hbx.l1
              have l2 := cells_in hbx.l2
              have l3 := cells_in hbx.l3
              have l4 := cells_in hbx.l4
              have n0 := cells_in hbx.n0
              have n1 := hbx.n1
              rw [HNP.out] at n1
              have n1 := cells_in n1
              have n2 := cells_in hbx.n2
              have n3 := cells_in hbx.n3
              have n4 := cells_in hbx.n4
              clear hbx hbz hwr hfk HNF
              have HFE : Hid (∀ a b, fitN l next a b ↔ (refGrp l a = refGrp l b → refGrp next (a.extract 0 np) = refGrp next (b.extract 0 np))) := fun a b => by unfold fitN; rw [HN1.out]
              generalize (allL l).getD i ⟨#[]⟩ = ai at c1 hsa HFIT HBAD
              generalize (allL l).getD k ⟨#[]⟩ = ak at c2 hsb HFIT HBAD
              rw [HFE.out] at HFIT HBAD
              have hna : (np : Int) ≤ (ai.size : Int) := by rw [hsa, ← HNP.out]; exact HLE.out
              have hnb : (np : Int) ≤ (ak.size : Int) := by rw [hsb, ← HNP.out]; exact HLE.out
              have hna' : np ≤ ai.size := by omega
              have hnb' : np ≤ ak.size := by omega
              have C1 : Hid (∀ W, Below wr.heap.size wr W → Calls Tryz.prog 192 #[.agg #[.string l.name, .int .i64 l.pre, .slice a l.labs.length cap, .int .i64 l.min, .int .i64 l.cents], .string ai] W fun e w' => e = .returned (.string (refGrp l ai)) ∧ Below W.heap.size W w') := fun W hW => HGL.out W ai (HWR.out.trans (hW.mono HWR.out.size))
              have C2 : Hid (∀ W, Below wr.heap.size wr W → Calls Tryz.prog 192 #[.agg #[.string l.name, .int .i64 l.pre, .slice a l.labs.length cap, .int .i64 l.min, .int .i64 l.cents], .string ak] W fun e w' => e = .returned (.string (refGrp l ak)) ∧ Below W.heap.size W w') := fun W hW => HGL.out W ak (HWR.out.trans (hW.mono HWR.out.size))
              have C3 : Hid (∀ W, Below wr.heap.size wr W → Calls Tryz.prog 192 #[.agg #[.string next.name, .int .i64 (np : Nat), u, .int .i64 next.min, .int .i64 next.cents], .string (ai.extract 0 np)] W fun e w' => e = .returned (.string (refGrp next (ai.extract 0 np))) ∧ Below W.heap.size W w') := fun W hW => HGN.out W _ (HWR.out.trans (hW.mono HWR.out.size))
              have C4 : Hid (∀ W, Below wr.heap.size wr W → Calls Tryz.prog 192 #[.agg #[.string next.name, .int .i64 (np : Nat), u, .int .i64 next.min, .int .i64 next.cents], .string (ak.extract 0 np)] W fun e w' => e = .returned (.string (refGrp next (ak.extract 0 np))) ∧ Below W.heap.size W w') := fun W hW => HGN.out W _ (HWR.out.trans (hW.mono HWR.out.size))
              generalize refGrp l ai = ga at C1 HFIT HBAD
              generalize refGrp l ak = gb at C2 HFIT HBAD
              generalize refGrp next (ai.extract 0 np) = gc at C3 HFIT HBAD
              generalize refGrp next (ak.extract 0 np) = gd at C4 HFIT HBAD
              clear HGL HGN HFE hsa hsb HASZ HCE
              have hb1 := ba_eq ga gb
              have hb2 := ba_eq gc gd
              have HNEXT : Hid (∀ pp : Regrown, Below w3.heap.size w3 (grow (redrawn wr pp.d) pp.os)) := fun pp => HBZ.out.trans ((below_in wr pp).mono HBZ.out.size)
              have HENDS : Hid (∀ pp : Regrown, Below w.heap.size w (grow (redrawn wr pp.d) pp.os)) := fun pp => HWR.out.trans ((below_in wr pp).mono HWR.out.size)
              by_cases e1 : ga = gb
              · rw [decide_eq_true e1] at hb1
                by_cases e2 : gc = gd
                · rw [decide_eq_true e2] at hb2
                  have HFN := Lib.hid (HFIT.out (fun _ => e2))
                  clear HFIT HBAD e1 e2
                  go_wp2_with fail
                  refine wp_region_quiet_below (by kernel_rfl) (by kernel_rfl) ?_
                  repeat (go_big_quiet_step ((first | (with_reducible exact regrown_in C1.out _) | (with_reducible exact regrown_in C2.out _) | (with_reducible exact regrown_in C3.out _) | (with_reducible exact regrown_in C4.out _))))
                  refine wpQuiet_nil ?_
                  intro _ hw'
                  obtain ⟨pp, hw''⟩ := hw'
                  subst hw''
                  go_wp2_with fail
                  go_roundw
                  case rel => exact ⟨k + 1, by omega, by go_num, HFN.out, HNEXT.out pp⟩
                  case measure => simp [intOf]; omega
                · rw [decide_eq_false e2] at hb2
                  have HR := Lib.hid (HBAD.out (fun h => e2 (h e1)))
                  clear HFIT HBAD e1 e2
                  go_wp2_with fail
                  refine wp_region_quiet_below (by kernel_rfl) (by kernel_rfl) ?_
                  repeat (go_big_quiet_step ((first | (with_reducible exact regrown_in C1.out _) | (with_reducible exact regrown_in C2.out _) | (with_reducible exact regrown_in C3.out _) | (with_reducible exact regrown_in C4.out _))))
                  refine wpQuiet_nil ?_
                  intro _ hw'
                  obtain ⟨pp, hw''⟩ := hw'
                  subst hw''
                  go_wp2_with fail
                  go_ret
                  exact ⟨ret_bool HR.out.symm, HENDS.out pp⟩
              · rw [decide_eq_false e1] at hb1
                have HFN := Lib.hid (HFIT.out (fun h => absurd h e1))
                clear HFIT HBAD e1
                go_wp2_with fail
                refine wp_region_quiet_below (by kernel_rfl) (by kernel_rfl) ?_
                repeat (go_big_quiet_step ((first | (with_reducible exact regrown_in C1.out _) | (with_reducible exact regrown_in C2.out _) | (with_reducible exact regrown_in C3.out _) | (with_reducible exact regrown_in C4.out _))))
                refine wpQuiet_nil ?_
                intro _ hw'
                obtain ⟨pp, hw''⟩ := hw'
                subst hw''
                go_wp2_with fail
                go_roundw
                case rel => exact ⟨k + 1, by omega, by go_num, HFN.out, HNEXT.out pp⟩
                case measure => simp [intOf]; omega
            · obtain rfl : k = i := by omega
              have hdk : decide ((k : Int) < (k : Int)) = false := decide_eq_false (by omega)
              have HNX := Lib.hid (nestR_step hni hfk.out)
              go_wp2_with fail
              go_roundw
              case rel => exact ⟨k + 1, by omega, by go_num, HNX.out, HBZ.out⟩
              case measure => simp [intOf]; omega
        · obtain rfl : i = N := by omega
          have HR := Lib.hid (HYES.out hni.out)
          have HE : Hid (Below w.heap.size w wr) := HB0.out.trans ((HB3.out.mono (by omega)).trans (HBY.out.mono (by have := HB3.out.size; have := HZ.out; omega)))
          go_wp2_with fail
          go_ret
          exact ⟨ret_bool HR.out.symm, HE.out⟩
end Go.Proofs.YtojedplbhialpaaGreatDoor

/-! U4 -/
namespace Go.Proofs.YtojedplbhialpaaGreatDoor
open Go.RowKit Go.Sort
set_option linter.unusedVariables false
set_option maxRecDepth 100000
theorem sumTo_bound {ls : List Lev} (hf : ∀ l ∈ ls, LevFits l) : ∀ k, sumTo ls k ≤ k * 100000
  | 0 => by simp [sumTo]
  | k + 1 => by
    have ih := sumTo_bound hf k
    by_cases h : k < ls.length
    · rw [sumTo_succ ls k h]
      have := (hf _ (List.getElem_mem h)).2.1
      omega
    · have : sumTo ls (k + 1) = sumTo ls k := by unfold sumTo; rw [List.take_of_length_le (by omega), List.take_of_length_le (by omega)]
      omega
/-- What the reference has checked of the first levels. -/
def okR (ls : List Lev) (k : Nat) : Prop := okTo ls k ∧ ∀ i, i + 1 < k → ∀ h : i + 1 < ls.length, nestedB ls[i] ls[i + 1] = true
theorem right_small (ls : List Lev) (v : Value) (w : World) (hv : ∃ a cap, v = .slice a ls.length cap) (h : ls.length < 1 ∨ 6 < ls.length) (hl : ls.length ≤ maxLen) :
    Calls Tryz.prog 83 #[v] w fun e w' => e = .returned (.bool (rightB ls)) ∧ Below w.heap.size w w' := by
  obtain ⟨a, cap, rfl⟩ := hv
  have HR : Hid (rightB ls = false) := rightB_false (fun h' => by have := h'.1; have := h'.2.1; omega)
  unfold maxLen at hl
  generalize rightB ls = r at HR
  generalize ls.length = n at h hl
  rcases h with h | h
  · have d1 : decide ((n : Int) < 1) = true := decide_eq_true (by omega)
    clear h
    go_enter Tryz.func83, Tryz.ntmps83
    go_wp2_with fail
    go_ret
    exact ⟨ret_bool HR.out.symm, Below.refl _ _⟩
  · have d1 : decide ((n : Int) < 1) = false := decide_eq_false (by omega)
    have d2 : decide (6 < (n : Int)) = true := decide_eq_true (by omega)
    clear h
    go_enter Tryz.func83, Tryz.ntmps83
    go_wp2_with fail
    go_ret
    exact ⟨ret_bool HR.out.symm, Below.refl _ _⟩
set_option maxHeartbeats 16000000 in
theorem rRight_main (ls : List Lev) (v : Value) (w : World) (hr : RdLevs w v ls) (hf : ∀ l ∈ ls, LevFits l) (h1 : 1 ≤ ls.length) (h6 : ls.length ≤ 6) :
    Calls Tryz.prog 83 #[v] w fun e w' => e = .returned (.bool (rightB ls)) ∧ Below w.heap.size w w' := by
  obtain ⟨a, cap, rfl, hc⟩ := hr
  obtain ⟨g, off, rfl, hg, hcc⟩ := hc (by omega)
  have HC := Lib.hid hcc
  have HF := Lib.hid hf
  have d1 : decide ((ls.length : Int) < 1) = false := decide_eq_false (by omega)
  have d2 : decide (6 < (ls.length : Int)) = false := decide_eq_false (by omega)
  clear hcc hf hc
  go_enter Tryz.func83, Tryz.ntmps83
  go_wp2_with fail
  go_loop [3, 4] (fun s i => ∃ k : Nat, k ≤ ls.length ∧ i = .int .i64 k ∧ s = .int .i64 (sumTo ls k : Nat)) (fun _ i => ls.length - (intOf i).toNat)
  case atStart => exact ⟨0, Nat.zero_le _, rfl, rfl⟩
  case round =>
    obtain ⟨k, hk, rfl, rfl⟩ := hrel
    by_cases hlt : k < ls.length
    · obtain ⟨sv, hlab, hat⟩ := HC.out k hlt
      obtain ⟨t0, t1, t2, t3, t4⟩ := hat
      obtain ⟨la, lc, rfl, _⟩ := hlab
      have hsb := sumTo_bound HF.out k
      have hll := (HF.out _ (List.getElem_mem hlt)).2.1
      have HS := Lib.hid (sumTo_succ ls k hlt)
      generalize ls[k].labs.length = m at t2 HS hll
      generalize sumTo ls k = sk at hsb HS ⊢
      have hd : decide ((k : Int) < (ls.length : Int)) = true := decide_eq_true (by omega)
      clear t0 t1 t3 t4 HC
      go_wp2_with fail
      go_round
      case rel => exact ⟨k + 1, by omega, by go_num, by rw [HS.out]; first | rfl | (congr 1; omega)⟩
      case measure => simp [intOf]; omega
    · obtain rfl : k = ls.length := by omega
      by_cases hsum : 200 < sumTo ls ls.length
      · have hd2 : decide (200 < ((sumTo ls ls.length : Nat) : Int)) = true := decide_eq_true (by omega)
        have HR : Hid (rightB ls = false) := rightB_false (fun h' => by have := h'.2.2.1.1; omega)
        generalize sumTo ls ls.length = sk at hd2 ⊢
        go_wp2_with fail
        go_ret
        exact ⟨ret_bool HR.out.symm, Below.refl _ _⟩
      · have hd2 : decide (200 < ((sumTo ls ls.length : Nat) : Int)) = false := decide_eq_false (by omega)
        have HSUM : Hid (∀ k, k ≤ ls.length → sumTo ls k ≤ 200) := fun k hk => by have := sumTo_mono ls hk; omega
        generalize sumTo ls ls.length = sk at hd2 ⊢
        clear hsum
        go_wp2_with fail
        go_loopw [5] (fun i wr => ∃ k : Nat, k ≤ ls.length ∧ i = .int .i64 k ∧ Hid (okR ls k) ∧ Hid (Below w.heap.size w wr)) (fun i _ => ls.length - (intOf i).toNat)
        case atStart => exact ⟨0, Nat.zero_le _, rfl, ⟨⟨HSUM.out 0 (Nat.zero_le _), fun i h => by omega, fun i h => by omega, fun i h => by omega⟩, fun i h => by omega⟩, Below.refl _ _⟩
        case round =>
          obtain ⟨k, hk, rfl, hok, HB⟩ := hrel
          clear hlt hd2
          by_cases hlt : k < ls.length
          · have hlab0 := HC.out k hlt
            obtain ⟨sv, hlab, hat⟩ := hlab0
            obtain ⟨t0, t1, t2, t3, t4⟩ := hat.below HB.out hg
            have hlf := HF.out _ (List.getElem_mem hlt)
            have N3 := Lib.hid (not_right_level hlt)
            have N2 : Hid (∀ j (hj : j < k), (ls[j]'(by omega)).name = ls[k].name → rightB ls = false) := fun j hj h => not_right_name hlt hj h
            have OKK : Hid (levelB ls[k] (decide (k + 1 = ls.length)) = true → (∀ j, j < k → ∀ h' : j < ls.length, ls[j].name ≠ ls[k].name) → (∀ j, j + 1 = k → ∀ h' : j < ls.length, ls[k].pre ≤ ls[j].pre) → (∀ j, j + 1 = k → ∀ h' : j < ls.length, nestedB ls[j] ls[k] = true) → okR ls (k + 1)) := fun a b c d =>
              ⟨okTo_succ hok.out.1 hlt (HSUM.out (k + 1) hlt) a b c, fun i hi h => by
                by_cases e : i + 1 = k
                · have := d i e (by omega)
                  subst e; exact this
                · exact hok.out.2 i (by omega) h⟩
            have hlevels : Hid (∀ j, j < k → ∀ h' : j < ls.length, levelB ls[j] (decide (j + 1 = ls.length)) = true) := hok.out.1.2.1
            have HPREV : Hid (∀ j, j + 1 = k → levelB ls[k] (decide (k + 1 = ls.length)) = true → ∃ (m : Lev) (sm : Value), RdLabs w sm m.labs ∧ LevAt w g (off + j * 5) m sm ∧ LevFits m ∧ (m.pre < ls[k].pre → rightB ls = false) ∧ (nestedB m ls[k] = false → rightB ls = false) ∧
                (ls[k].pre ≤ m.pre → ∀ W, Below w.heap.size w W → Calls Tryz.prog 145 #[lvA m sm, lvA ls[k] sv] W fun e w' => e = .returned (.bool (nestedB m ls[k])) ∧ Below W.heap.size W w') ∧
                (ls[k].pre ≤ m.pre → nestedB m ls[k] = true → (∀ j, j + 1 = k → ∀ h' : j < ls.length, ls[k].pre ≤ ls[j].pre) ∧ (∀ j, j + 1 = k → ∀ h' : j < ls.length, nestedB ls[j] ls[k] = true))) := fun j hj hlev => by
              have hjl : j < ls.length := by omega
              obtain ⟨sm, hm, hmat⟩ := HC.out j hjl
              obtain ⟨f1, f2, f3, f4⟩ := level_facts (hlevels.out j (by omega) hjl)
              obtain ⟨k1, k2, k3, k4⟩ := level_facts hlev
              refine ⟨ls[j], sm, hm, hmat, HF.out _ (List.getElem_mem hjl), fun h => ?_, fun h => ?_, fun h W hW => rNested_any ls[j] ls[k] sm sv W (HF.out _ (List.getElem_mem hjl)) hlf (hm.below hW) (hlab.below hW) f1 f2 k3 h f4, fun h h' => ⟨fun i hi hi' => ?_, fun i hi hi' => ?_⟩⟩
              · subst hj; exact not_right_pre hlt h
              · subst hj; exact not_right_nest hlt h
              · obtain rfl : i = j := by omega
                exact h
              · obtain rfl : i = j := by omega
                exact h'
            have hlt2 : ((k : Int) == (ls.length : Int) - 1) = decide (k + 1 = ls.length) := by rw [Bool.eq_iff_iff]; simp; omega
            have HLV := Lib.hid (rLevel_any ls[k] sv (decide (k + 1 = ls.length)) wr hlf (hlab.below HB.out))
            have HNM : Hid (∀ j, j < k → ∃ q : ByteArray, w.cell? ⟨g, off + j * 5, none⟩ = some (.string q) ∧ (q = ls[k].name → rightB ls = false) ∧ (q ≠ ls[k].name → ∀ h' : j < ls.length, ls[j].name ≠ ls[k].name)) := fun j hj => by
              obtain ⟨_, _, hm⟩ := HC.out j (by omega)
              exact ⟨_, hm.1, fun h => N2.out j hj h, fun h _ => h⟩
            have hat0 := hat
            obtain ⟨s0, s1, s2, s3, s4⟩ := hat
            have HS0 := Lib.hid s0
            have HAT := Lib.hid hat0
            clear hat0 s0 s1 s2 s3 s4 N2 hlevels hok HSUM hlab hlf
            unfold lvA at HLV HPREV
            have HNAME : Hid (∀ j, j < k + 1 → (∀ i, i < j → ∀ h' : i < ls.length, ls[i].name ≠ ls[k].name) → (∀ h' : j < ls.length, ls[j].name ≠ ls[k].name) → ∀ i, i < j + 1 → ∀ h' : i < ls.length, ls[i].name ≠ ls[k].name) := fun j _ h h2 => upto_succ (P := fun i => ∀ h' : i < ls.length, ls[i].name ≠ ls[k].name) h h2
            generalize decide (k + 1 = ls.length) = lastB at hlt2 N3 OKK HPREV HLV
            obtain ⟨l, hl⟩ : ∃ l, ls[k] = l := ⟨_, rfl⟩
            rw [hl] at t0 t1 t3 t4 N3 OKK HPREV HLV HNM HS0 HAT HNAME
            clear hl HC HF
            have hd : decide ((k : Int) < (ls.length : Int)) = true := decide_eq_true (by omega)
            have hgr : g < wr.heap.size := Nat.lt_of_lt_of_le hg HB.out.size
            have hk1 : 1 ≤ (ls.length : Int) := by omega
            cases hlev : levelB l lastB
            · have HR := Lib.hid (N3.out hlev)
              rw [hlev] at HLV
              clear N3 OKK HPREV HNM HNAME
              go_wp2_with fail
              refine HLV.out.mono ?_
              rintro e w2 ⟨rfl, hb2⟩
              have HB2 := Lib.hid (HB.out.trans (hb2.mono HB.out.size))
              clear hb2
              go_wp2_with fail
              go_ret
              exact ⟨ret_bool HR.out.symm, HB2.out⟩
            · rw [hlev] at HLV
              have OK2 := Lib.hid (OKK.out hlev)
              have HP2 := Lib.hid (fun j hj => HPREV.out j hj hlev)
              clear N3 OKK HPREV hlev
              go_wp2_with fail
              refine HLV.out.mono ?_
              rintro e w2 ⟨rfl, hb2⟩
              have HB2 := Lib.hid (HB.out.trans (hb2.mono HB.out.size))
              clear hb2 HLV t0 t1 t2 t3 t4 HB hgr
              go_wp2_with fail
              go_loopw [6] (fun i wr => ∃ j : Nat, j ≤ k ∧ i = .int .i64 j ∧ Hid (∀ i, i < j → ∀ h' : i < ls.length, ls[i].name ≠ l.name) ∧ Hid (Below w.heap.size w wr)) (fun i _ => k - (intOf i).toNat)
              case atStart => exact ⟨0, Nat.zero_le _, rfl, fun i h => by omega, HB2.out⟩
              case round =>
                obtain ⟨j, hj, rfl, hnm, HB3⟩ := hrel
                clear hlt2
                by_cases hjk : j < k
                · obtain ⟨q, hq, hq1, hq2⟩ := HNM.out j hjk
                  have c1 := cells_in ((HB3.out.cell (p := ⟨g, off + j * 5, none⟩) hg).trans hq)
                  have c2 := cells_in ((HB3.out.cell (p := ⟨g, off + k * 5, none⟩) hg).trans HS0.out)
                  have hdj : decide ((j : Int) < (k : Int)) = true := decide_eq_true (by omega)
                  have hjn : j < ls.length := by omega
                  have hbe := ba_eq q l.name
                  have HBN : Hid (∀ pp : Regrown, Below w.heap.size w (grow (redrawn wr pp.d) pp.os)) := fun pp => HB3.out.trans ((below_in wr pp).mono HB3.out.size)
                  clear HNM hq
                  by_cases he : q = l.name
                  · rw [decide_eq_true he] at hbe
                    have HR := Lib.hid (hq1 he)
                    clear hq1 hq2 hnm he
                    go_wp2_with fail
                    refine wp_region_quiet_below (by kernel_rfl) (by kernel_rfl) ?_
                    repeat (go_big_quiet_step (fail))
                    refine wpQuiet_nil ?_
                    intro _ hw'
                    obtain ⟨pp, hw''⟩ := hw'
                    subst hw''
                    go_wp2_with fail
                    go_ret
                    exact ⟨ret_bool HR.out.symm, HBN.out pp⟩
                  · rw [decide_eq_false he] at hbe
                    have HR := Lib.hid (HNAME.out j (by omega) hnm.out (hq2 he))
                    clear hq1 hq2 hnm he
                    go_wp2_with fail
                    refine wp_region_quiet_below (by kernel_rfl) (by kernel_rfl) ?_
                    repeat (go_big_quiet_step (fail))
                    refine wpQuiet_nil ?_
                    intro _ hw'
                    obtain ⟨pp, hw''⟩ := hw'
                    subst hw''
                    go_wp2_with fail
                    go_roundw
                    case rel => exact ⟨j + 1, by omega, by go_num, HR.out, HBN.out pp⟩
                    case measure => simp [intOf]; omega
                · obtain rfl : j = k := by omega
                  have OK3 := Lib.hid (OK2.out hnm.out)
                  have hdj : decide ((j : Int) < (j : Int)) = false := decide_eq_false (by omega)
                  have HBN : Hid (∀ pp : Regrown, Below w.heap.size w (grow (redrawn wr pp.d) pp.os)) := fun pp => HB3.out.trans ((below_in wr pp).mono HB3.out.size)
                  obtain ⟨t0, t1, t2, t3, t4⟩ := HAT.out.below HB3.out hg
                  have t0 := cells_in t0
                  have t1 := cells_in t1
                  have t2 := cells_in t2
                  have t3 := cells_in t3
                  have t4 := cells_in t4
                  clear hnm OK2 HNM HNAME hj hjk
                  by_cases k0 : 0 < j
                  · obtain ⟨m, sm, hm, hmat, hmf, hm1, hm2, hm3, hm4⟩ := HP2.out (j - 1) (by omega)
                    obtain ⟨p0, p1, p2, p3, p4⟩ := hmat.below HB3.out hg
                    have p0 := cells_in p0
                    have p1 := cells_in p1
                    have p2 := cells_in p2
                    have p3 := cells_in p3
                    have p4 := cells_in p4
                    have HM1 := Lib.hid hm1
                    have HM2 := Lib.hid hm2
                    have HM3 := Lib.hid hm3
                    have HM4 := Lib.hid hm4
                    have hd1 : decide (0 < j) = true := by simpa using k0
                    have hd2 : decide ((0 : Int) < (j : Int)) = true := by simp; omega
                    have hv2 : 0 ≤ (j : Int) - 1 := by omega
                    have hv3 : ((j : Int) - 1).toNat = j - 1 := by omega
                    have hv4 : (j : Int) - 1 < (ls.length : Int) := by omega
                    have hv5 : 1 ≤ j := by omega
                    have hv6 : j - 1 < ls.length := by omega
                    have hv1 : IntKind.i64.wrap ((j : Int) - 1) = (j : Int) - 1 := IntWalk.i64_in _ (by omega)
                    clear hm hmat hmf hm1 hm2 hm3 hm4 HP2
                    by_cases hlp : m.pre < l.pre
                    · have hlp2 : decide (m.pre < l.pre) = true := decide_eq_true hlp
                      have HE := Lib.hid (HM1.out hlp)
                      clear HM1 HM2 HM3 HM4 OK3
                      go_wp2_with fail
                      refine wp_region_quiet_below (by kernel_rfl) (by kernel_rfl) ?_
                      repeat (go_big_quiet_step (fail))
                      refine wpQuiet_nil ?_
                      intro _ hw'
                      obtain ⟨pp, hw''⟩ := hw'
                      subst hw''
                      clear hv1
                      go_wp2_with fail
                      go_ret
                      exact ⟨ret_bool HE.out.symm, HBN.out pp⟩
                    · have hlp2 : decide (m.pre < l.pre) = false := decide_eq_false hlp
                      have hle : l.pre ≤ m.pre := by omega
                      have CN : Hid (∀ W, Below wr.heap.size wr W → Calls Tryz.prog 145 #[.agg #[.string m.name, .int .i64 m.pre, sm, .int .i64 m.min, .int .i64 m.cents], .agg #[.string l.name, .int .i64 l.pre, sv, .int .i64 l.min, .int .i64 l.cents]] W fun e w' => e = .returned (.bool (nestedB m l)) ∧ Below W.heap.size W w') := fun W hW => HM3.out hle W (HB3.out.trans (hW.mono HB3.out.size))
                      have HM5 := Lib.hid (HM4.out hle)
                      generalize nestedB m l = nb at CN HM2 HM5
                      clear HM3 HM4 HM1
                      cases nb
                      · have HE := Lib.hid (HM2.out rfl)
                        clear HM2 HM5 OK3 hlp hle
                        go_wp2_with fail
                        refine wp_region_quiet_below (by kernel_rfl) (by kernel_rfl) ?_
                        repeat (go_big_quiet_step ((with_reducible exact regrown_in CN.out _)))
                        refine wpQuiet_nil ?_
                        intro _ hw'
                        obtain ⟨pp, hw''⟩ := hw'
                        subst hw''
                        clear hv1
                        go_wp2_with fail
                        go_ret
                        exact ⟨ret_bool HE.out.symm, HBN.out pp⟩
                      · have HE := Lib.hid (OK3.out (HM5.out rfl).1 (HM5.out rfl).2)
                        clear HM2 HM5 OK3 hlp hle
                        go_wp2_with fail
                        refine wp_region_quiet_below (by kernel_rfl) (by kernel_rfl) ?_
                        repeat (go_big_quiet_step ((with_reducible exact regrown_in CN.out _)))
                        refine wpQuiet_nil ?_
                        intro _ hw'
                        obtain ⟨pp, hw''⟩ := hw'
                        subst hw''
                        clear hv1
                        go_wp2_with fail
                        go_roundw
                        case rel => exact ⟨j + 1, by omega, by go_num, HE.out, HBN.out pp⟩
                        case measure => simp [intOf]; omega
                  · have hd1 : decide (0 < j) = false := by simp; omega
                    have hd2 : decide ((0 : Int) < (j : Int)) = false := by simp; omega
                    have HE := Lib.hid (OK3.out (fun i hi => by omega) (fun i hi => by omega))
                    clear OK3 HP2
                    go_wp2_with fail
                    refine wp_region_quiet_below (by kernel_rfl) (by kernel_rfl) ?_
                    repeat (go_big_quiet_step (fail))
                    refine wpQuiet_nil ?_
                    intro _ hw'
                    obtain ⟨pp, hw''⟩ := hw'
                    subst hw''
                    go_wp2_with fail
                    go_roundw
                    case rel => exact ⟨j + 1, by omega, by go_num, HE.out, HBN.out pp⟩
                    case measure => simp [intOf]; omega
          · obtain rfl : k = ls.length := by omega
            have HR : Hid (rightB ls = true) := rightB_iff.2 ⟨h1, h6, hok.out.1, fun i hi => hok.out.2 i hi hi⟩
            go_wp2_with fail
            go_ret
            exact ⟨ret_bool HR.out.symm, HB.out⟩
theorem rRight_any (ls : List Lev) (v : Value) (w : World) (hr : RdLevs w v ls) (hf : ∀ l ∈ ls, LevFits l) (hl : ls.length ≤ maxLen) :
    Calls Tryz.prog 83 #[v] w fun e w' => e = .returned (.bool (rightB ls)) ∧ Below w.heap.size w w' := by
  by_cases h : ls.length < 1 ∨ 6 < ls.length
  · exact right_small ls v w (by obtain ⟨a, cap, h, _⟩ := hr; exact ⟨a, cap, h⟩) h hl
  · exact rRight_main ls v w hr hf (by omega) (by omega)
end Go.Proofs.YtojedplbhialpaaGreatDoor
