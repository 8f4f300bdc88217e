import Derived.Test.YtpieagaggjngjaaGreatGA
import Derived.Lib.QuietBelow
import Derived.BigQuiet
import Derived.Test.YtpieagaggjngjaaGreatGB
import Derived.Test.YtpieagaggjngjaaGreatGC
import Derived.OwnWalk
/-! U0 -/
namespace Go.Proofs.YtpieagaggjngjaaGreat
open Go.RowKit
set_option linter.unusedVariables false
/-- The reference's group of a prefix. -/
def refGrp (l : Lev) (p : ByteArray) : ByteArray := (labOf l.labs p).getD p
def selfB (l : Lev) (x : Lab) : Bool := decide ((x.grp.size : Int) = l.pre) && plainB x.grp
def allL1 (l : Lev) (x : Lab) : List ByteArray := x.pre :: if selfB l x then [x.grp] else []
/-- The prefixes that the reference compares, of the first k labels. -/
def allTo (l : Lev) (k : Nat) : List ByteArray := (l.labs.take k).flatMap (allL1 l)
theorem allTo_succ (l : Lev) (k : Nat) (h : k < l.labs.length) : allTo l (k + 1) = allTo l k ++ allL1 l l.labs[k] := by
  unfold allTo; rw [List.take_succ_eq_append_getElem h, List.flatMap_append, List.flatMap_cons, List.flatMap_nil, List.append_nil]
theorem allTo_len (l : Lev) (k : Nat) : (allTo l k).length ≤ 2 * k := by
  induction k with
  | zero => simp [allTo]
  | succ k ih =>
    by_cases h : k < l.labs.length
    · rw [allTo_succ l k h, List.length_append]
      have : (allL1 l l.labs[k]).length ≤ 2 := by unfold allL1; split <;> simp
      omega
    · have : allTo l (k + 1) = allTo l k := by unfold allTo; rw [List.take_of_length_le (by omega), List.take_of_length_le (by omega)]
      rw [this]; omega
def allL (l : Lev) : List ByteArray := allTo l l.labs.length
theorem mem_allL {l : Lev} {a : ByteArray} : a ∈ allL l ↔ ∃ x ∈ l.labs, a = x.pre ∨ (selfB l x = true ∧ a = x.grp) := by
  unfold allL allTo
  rw [List.take_of_length_le (Nat.le_refl _), List.mem_flatMap]
  constructor
  · rintro ⟨x, hx, ha⟩
    refine ⟨x, hx, ?_⟩
    unfold allL1 at ha
    rcases List.mem_cons.1 ha with rfl | ha
    · exact .inl rfl
    · cases hs : selfB l x
      · rw [hs] at ha; simp at ha
      · rw [hs] at ha; exact .inr ⟨rfl, by simpa using ha⟩
  · rintro ⟨x, hx, rfl | ⟨hs, rfl⟩⟩
    · exact ⟨x, hx, List.mem_cons_self⟩
    · exact ⟨x, hx, by unfold allL1; rw [hs]; simp⟩
/-- Two prefixes of a level fit: the same group here, the same group at the next level. -/
def fitN (l next : Lev) (a b : ByteArray) : Prop := refGrp l a = refGrp l b → refGrp next (a.extract 0 next.pre.toNat) = refGrp next (b.extract 0 next.pre.toNat)
def nestR (l next : Lev) (n : Nat) : Prop := ∀ i k, k < i → i < n → fitN l next ((allL l).getD i ⟨#[]⟩) ((allL l).getD k ⟨#[]⟩)
theorem getD_mem {l : List ByteArray} {i : Nat} (h : i < l.length) : l.getD i ⟨#[]⟩ ∈ l := by
  rw [List.getD_eq_getElem?_getD, List.getElem?_eq_getElem h]; exact List.getElem_mem h
theorem nest_all {l next : Lev} : nestR l next (allL l).length ↔ ∀ a ∈ allL l, ∀ b ∈ allL l, refGrp l a = refGrp l b → grpOf next a = grpOf next b := by
  constructor
  · intro h a ha b hb e
    obtain ⟨i, hi, rfl⟩ := List.mem_iff_getElem.1 ha
    obtain ⟨k, hk, rfl⟩ := List.mem_iff_getElem.1 hb
    have gi : (allL l).getD i ⟨#[]⟩ = (allL l)[i] := by rw [List.getD_eq_getElem?_getD, List.getElem?_eq_getElem hi]; rfl
    have gk : (allL l).getD k ⟨#[]⟩ = (allL l)[k] := by rw [List.getD_eq_getElem?_getD, List.getElem?_eq_getElem hk]; rfl
    rcases Nat.lt_trichotomy i k with hlt | rfl | hlt
    · have := h k i hlt hk
      rw [gi, gk] at this
      exact (this e.symm).symm
    · rfl
    · have := h i k hlt hi
      rw [gi, gk] at this
      exact this e
  · intro h i k hki hi e
    exact h _ (getD_mem hi) _ (getD_mem (by omega)) e
theorem labOf_some {labs : List Lab} {p g : ByteArray} (h : labOf labs p = some g) : ∃ y ∈ labs, y.pre = p ∧ y.grp = g := by
  unfold labOf at h
  rw [Option.map_eq_some_iff] at h
  obtain ⟨y, hy, rfl⟩ := h
  exact ⟨y, List.mem_of_find?_eq_some hy, by simpa using List.find?_some hy, rfl⟩
theorem nest_ref {l next : Lev} (hs : sortedB l.labs) : nestR l next (allL l).length ↔ nestedP l next := by
  rw [nest_all]
  have lab_in : ∀ x ∈ l.labs, labOf l.labs x.pre = some x.grp := fun x hx => by
    obtain ⟨i, hi, rfl⟩ := List.mem_iff_getElem.1 hx
    exact labOf_at hs hi
  have own_self : ∀ x, ownB l x = (selfB l x && (labOf l.labs x.grp).isNone) := fun x => rfl
  have p2e : ∀ q ∈ l.labs.flatMap (pairsL l), q.2 ∈ allL l ∧ refGrp l q.2 = q.1 := fun q hq => by
    obtain ⟨x, hx, hq⟩ := List.mem_flatMap.1 hq
    unfold pairsL at hq
    rcases List.mem_cons.1 hq with rfl | hq
    · exact ⟨mem_allL.2 ⟨x, hx, .inl rfl⟩, by unfold refGrp; rw [lab_in x hx]; rfl⟩
    · cases ho : ownB l x
      · rw [ho] at hq; simp at hq
      · rw [ho] at hq
        have : q = (x.grp, x.grp) := by simpa using hq
        subst this
        rw [own_self, Bool.and_eq_true, Option.isNone_iff_eq_none] at ho
        exact ⟨mem_allL.2 ⟨x, hx, .inr ⟨ho.1, rfl⟩⟩, by unfold refGrp; rw [ho.2]; rfl⟩
  have e2p : ∀ a ∈ allL l, (refGrp l a, a) ∈ l.labs.flatMap (pairsL l) := fun a ha => by
    obtain ⟨x, hx, h⟩ := mem_allL.1 ha
    rw [List.mem_flatMap]
    rcases h with rfl | ⟨hs', rfl⟩
    · refine ⟨x, hx, ?_⟩
      unfold refGrp; rw [lab_in x hx]
      exact List.mem_cons_self
    · cases hl : labOf l.labs x.grp with
      | none =>
        refine ⟨x, hx, ?_⟩
        have ho : ownB l x = true := by rw [own_self, hs', hl]; rfl
        unfold refGrp pairsL; rw [hl, ho]; simp
      | some g =>
        obtain ⟨y, hy, h1, h2⟩ := labOf_some hl
        refine ⟨y, hy, ?_⟩
        unfold refGrp; rw [hl]
        show (g, x.grp) ∈ pairsL l y
        rw [← h1, ← h2]
        exact List.mem_cons_self
  constructor
  · intro h x hx y hy e
    obtain ⟨a1, a2⟩ := p2e x hx
    obtain ⟨b1, b2⟩ := p2e y hy
    exact h _ a1 _ b1 (by rw [a2, b2]; exact e)
  · intro h a ha b hb e
    exact h (_, a) (e2p a ha) (_, b) (e2p b hb) e
end Go.Proofs.YtpieagaggjngjaaGreat

/-! U1 -/
namespace Go.Proofs.YtpieagaggjngjaaGreat
open Go.RowKit
set_option linter.unusedVariables false
set_option maxRecDepth 100000
set_option maxHeartbeats 1000000 in
theorem rPlain_any (s : ByteArray) (w : World) (hs : s.size ≤ maxLen) :
    Calls Tryz.prog 71 #[.string s] w fun e w' => e = .returned (.bool (plainB s)) ∧ w = w' := by
  unfold maxLen at hs
  go_enter Tryz.func71, Tryz.ntmps71
  go_wp2_with fail
  go_loop [3] (fun i => ∃ k : Nat, k ≤ s.size ∧ i = .int .i64 k ∧ Hid (∀ j, j < k → ∀ h : j < s.size, plainC s[j].toNat = true)) (fun i => s.size - (intOf i).toNat)
  case atStart => exact ⟨0, Nat.zero_le _, rfl, fun j h => by omega⟩
  case round =>
    obtain ⟨k, hk, rfl, ha⟩ := hrel
    by_cases hlt : k < s.size
    · have hn : Hid (plainC s[k].toNat = true → ∀ j, j < k + 1 → ∀ h : j < s.size, plainC s[j].toNat = true) := fun h1 j hj h => by
        by_cases e : j = k
        · subst e; exact h1
        · exact ha j (by omega) h
      have hf : Hid (plainC s[k].toNat = false → plainB s = false) := fun h1 => allB_false hlt h1
      clear ha
      have five : (s[k].toNat : Int) < 48 ∨ (48 ≤ (s[k].toNat : Int) ∧ (s[k].toNat : Int) ≤ 57) ∨ (57 < (s[k].toNat : Int) ∧ (s[k].toNat : Int) < 65) ∨ (65 ≤ (s[k].toNat : Int) ∧ (s[k].toNat : Int) ≤ 90) ∨ 90 < (s[k].toNat : Int) := by omega
      rcases five with h | ⟨h, h'⟩ | ⟨h, h'⟩ | ⟨h, h'⟩ | h
      · have d1 : decide (65 ≤ (s[k].toNat : Int)) = false := decide_eq_false (by omega)
        have d2 : decide (48 ≤ (s[k].toNat : Int)) = false := decide_eq_false (by omega)
        have HX := Lib.hid (hf.out (plainC_false (by omega)))
        clear hn hf h
        go_wp2_with fail
        go_ret
        exact ⟨ret_bool HX.out.symm, rfl⟩
      · have d1 : decide (65 ≤ (s[k].toNat : Int)) = false := decide_eq_false (by omega)
        have d2 : decide (48 ≤ (s[k].toNat : Int)) = true := decide_eq_true h
        have d3 : decide ((s[k].toNat : Int) ≤ 57) = true := decide_eq_true h'
        have HX := Lib.hid (hn.out (plainC_true (by omega)))
        clear hn hf h h'
        go_wp2_with fail
        go_round
        case rel => exact ⟨k + 1, by omega, by go_num, HX.out⟩
        case measure => simp [intOf]; omega
      · have d1 : decide (65 ≤ (s[k].toNat : Int)) = false := decide_eq_false (by omega)
        have d2 : decide (48 ≤ (s[k].toNat : Int)) = true := decide_eq_true (by omega)
        have d3 : decide ((s[k].toNat : Int) ≤ 57) = false := decide_eq_false (by omega)
        have HX := Lib.hid (hf.out (plainC_false (by omega)))
        clear hn hf h h'
        go_wp2_with fail
        go_ret
        exact ⟨ret_bool HX.out.symm, rfl⟩
      · have d1 : decide (65 ≤ (s[k].toNat : Int)) = true := decide_eq_true h
        have d2 : decide ((s[k].toNat : Int) ≤ 90) = true := decide_eq_true h'
        have HX := Lib.hid (hn.out (plainC_true (by omega)))
        clear hn hf h h'
        go_wp2_with fail
        go_round
        case rel => exact ⟨k + 1, by omega, by go_num, HX.out⟩
        case measure => simp [intOf]; omega
      · have d1 : decide (65 ≤ (s[k].toNat : Int)) = true := decide_eq_true (by omega)
        have d2 : decide ((s[k].toNat : Int) ≤ 90) = false := decide_eq_false (by omega)
        have d3 : decide (48 ≤ (s[k].toNat : Int)) = true := decide_eq_true (by omega)
        have d4 : decide ((s[k].toNat : Int) ≤ 57) = false := decide_eq_false (by omega)
        have HX := Lib.hid (hf.out (plainC_false (by omega)))
        clear hn hf h
        go_wp2_with fail
        go_ret
        exact ⟨ret_bool HX.out.symm, rfl⟩
    · go_wp2_with fail
      go_ret
      exact ⟨ret_bool (allB_true fun j hj h => ha j (by omega) h).symm, rfl⟩
theorem nameC_true {n : Int} (h1 : 33 ≤ n) (h2 : n ≤ 126) : nameC n = true := by unfold nameC; simp; omega
theorem nameC_false {n : Int} (h : n < 33 ∨ 126 < n) : nameC n = false := by unfold nameC; simp; omega
set_option maxHeartbeats 1000000 in
theorem rName_any (s : ByteArray) (w : World) (hs : s.size ≤ maxLen) :
    Calls Tryz.prog 70 #[.string s] w fun e w' => e = .returned (.bool (nameB s)) ∧ w = w' := by
  unfold maxLen at hs
  go_enter Tryz.func70, Tryz.ntmps70
  go_wp2_with fail
  go_loop [3] (fun i => ∃ k : Nat, k ≤ s.size ∧ i = .int .i64 k ∧ Hid (∀ j, j < k → ∀ h : j < s.size, nameC s[j].toNat = true)) (fun i => s.size - (intOf i).toNat)
  case atStart => exact ⟨0, Nat.zero_le _, rfl, fun j h => by omega⟩
  case round =>
    obtain ⟨k, hk, rfl, ha⟩ := hrel
    by_cases hlt : k < s.size
    · have hn : Hid (nameC s[k].toNat = true → ∀ j, j < k + 1 → ∀ h : j < s.size, nameC s[j].toNat = true) := fun h1 j hj h => by
        by_cases e : j = k
        · subst e; exact h1
        · exact ha j (by omega) h
      have hf : Hid (nameC s[k].toNat = false → nameB s = false) := fun h1 => by
        have : allB nameC s = false := allB_false hlt h1
        unfold nameB; rw [this]; simp
      clear ha
      go_wp2_with fail
      all_goals first
        | (go_ret; exact ⟨ret_bool (hf.out (nameC_false (by omega))).symm, rfl⟩)
        | (go_round
           case rel => exact ⟨k + 1, by omega, by go_num, hn.out (nameC_true (by omega) (by omega))⟩
           case measure => simp [intOf]; omega)
    · have hall : nameB s = (decide (1 ≤ s.size) && decide (s.size ≤ 20)) := by
        unfold nameB; rw [allB_true fun j hj h => ha j (by omega) h]; simp
      have HA := Lib.hid hall
      clear hall ha
      go_wp2_with fail
      all_goals
        go_ret
        refine ⟨ret_bool ?_, rfl⟩
        rw [HA.out, Bool.eq_iff_iff]
        simp
        try omega
theorem refGrp_at {l : Lev} {p : ByteArray} {k : Nat} (hk : k < l.labs.length) (hno : ∀ j, j < k → ∀ h : j < l.labs.length, l.labs[j].pre ≠ p) (h : l.labs[k].pre = p) : refGrp l p = l.labs[k].grp := by
  unfold refGrp labOf
  have : l.labs.find? (fun x => decide (x.pre = p)) = some l.labs[k] := by
    rw [List.find?_eq_some_iff_getElem]
    refine ⟨by simpa using h, k, hk, rfl, fun j hj => ?_⟩
    simpa using hno j hj (by omega)
  rw [this]; rfl
theorem refGrp_none {l : Lev} {p : ByteArray} (hno : ∀ j, j < l.labs.length → ∀ h : j < l.labs.length, l.labs[j].pre ≠ p) : refGrp l p = p := by
  unfold refGrp
  rw [labOf_none (fun i hi => hno i hi hi)]; rfl
set_option maxHeartbeats 2000000 in
theorem rGroup_any (l : Lev) (v : Value) (p : ByteArray) (w : World) (hl : l.labs.length ≤ 100000) (hv : RdLabs w v l.labs) :
    Calls Tryz.prog 72 #[lvA l v, .string p] w fun e w' => e = .returned (.string (refGrp l p)) ∧ Below w.heap.size w w' := by
  obtain ⟨a, cap, rfl, hc⟩ := hv
  have HC := Lib.hid hc
  have HB0 : Hid (Below w.heap.size w (w.alloc (.cells #[.string l.name, .int .i64 l.pre, .slice a l.labs.length cap, .int .i64 l.min, .int .i64 l.cents] 49))) := (Below.refl _ w).alloc (Nat.le_refl _) _
  clear hc
  unfold lvA
  go_enter Tryz.func72, Tryz.ntmps72
  go_wp2_with fail
  go_loop [5] (fun i => ∃ k : Nat, k ≤ l.labs.length ∧ i = .int .i64 k ∧ Hid (∀ j, j < k → ∀ h : j < l.labs.length, l.labs[j].pre ≠ p)) (fun i => l.labs.length - (intOf i).toNat)
  case atStart => exact ⟨0, Nat.zero_le _, rfl, fun j h => by omega⟩
  case round =>
    obtain ⟨k, hk, rfl, ha⟩ := hrel
    by_cases hlt : k < l.labs.length
    · obtain ⟨g, off, rfl, hg, hcc⟩ := HC.out (by omega)
      obtain ⟨c1, c2⟩ := hcc k hlt
      have HY : Hid (l.labs[k].pre = p → refGrp l p = l.labs[k].grp) := fun h => refGrp_at hlt ha.out h
      have HN : Hid (l.labs[k].pre ≠ p → ∀ j, j < k + 1 → ∀ h : j < l.labs.length, l.labs[j].pre ≠ p) := fun h => upto_succ (P := fun j => ∀ h : j < l.labs.length, l.labs[j].pre ≠ p) ha.out (fun _ => h)
      generalize l.labs[k] = x at c1 c2 HY HN
      have hd : decide ((k : Int) < (l.labs.length : Int)) = true := decide_eq_true (by omega)
      have hbe := ba_eq x.pre p
      clear hcc HC ha
      by_cases he : x.pre = p
      · rw [decide_eq_true he] at hbe
        have HE := Lib.hid (HY.out he)
        clear HY HN
        go_wp2_with fail
        go_ret
        exact ⟨ret_str HE.out.symm, HB0.out⟩
      · rw [decide_eq_false he] at hbe
        have HE := Lib.hid (HN.out he)
        clear HY HN
        go_wp2_with fail
        go_round
        case rel => exact ⟨k + 1, by omega, by go_num, HE.out⟩
        case measure => simp [intOf]; omega
    · obtain rfl : k = l.labs.length := by omega
      have HE := Lib.hid (refGrp_none (l := l) (p := p) ha.out)
      clear HC ha
      go_wp2_with fail
      go_ret
      exact ⟨ret_str HE.out.symm, HB0.out⟩
end Go.Proofs.YtpieagaggjngjaaGreat

/-! UQ -/
namespace Go.Proofs.YtpieagaggjngjaaGreat
open Go.RowKit Go.Sort
set_option linter.unusedVariables false
/-- A callee's contract that holds in every later world. -/
theorem regrown_in {P : Program} {f : FuncId} {args : Array Value} {w : World} {v : Value} (h : ∀ W, Below w.heap.size w W → Calls P f args W fun e w' => e = .returned v ∧ Below W.heap.size W w') (p : Regrown) :
    Calls P f args (grow (redrawn w p.d) p.os) fun e w'' => e = .returned v ∧ ∃ p : Regrown, w'' = grow (redrawn w p.d) p.os :=
  Calls.regrown_of (h _ (below_regrown w p.d p.os))
theorem cells_in {w : World} {a : Addr} {v : Value} (h : w.cell? a = some v) : ∀ p : Regrown, (grow (redrawn w p.d) p.os).cell? a = some v := fun p => cell_regrown h p.d p.os
theorem below_in (w : World) (p : Regrown) : Below w.heap.size w (grow (redrawn w p.d) p.os) := below_regrown w p.d p.os
end Go.Proofs.YtpieagaggjngjaaGreat

/-! U2 -/
namespace Go.Proofs.YtpieagaggjngjaaGreat
open Go.RowKit Go.Sort
set_option linter.unusedVariables false
set_option maxRecDepth 100000
set_option maxHeartbeats 2000000 in
theorem rLevel_head (l : Lev) (v : Value) (last : Bool) (w : World) (hf : LevFits l) (hh : headB l = false) :
    Calls Tryz.prog 51 #[lvA l v, .bool last] w fun e w' => e = .returned (.bool (levelB l last)) ∧ Below w.heap.size w w' := by
  obtain ⟨hn, hl, hx⟩ := hf
  have HF := Lib.hid (headB_false (last := last) hh)
  have hh' : nameB l.name = false ∨ (nameB l.name = true ∧ (l.pre < 0 ∨ (0 ≤ l.pre ∧ 10 < l.pre) ∨ ((0 ≤ l.pre ∧ l.pre ≤ 10) ∧ l.cents < 0) ∨ ((0 ≤ l.pre ∧ l.pre ≤ 10) ∧ 0 ≤ l.cents ∧ 1000000 < l.cents))) := by
    unfold headB at hh
    cases h : nameB l.name
    · exact .inl rfl
    · rw [h] at hh
      simp at hh
      exact .inr ⟨rfl, by omega⟩
  clear hh hl hx
  obtain ⟨name, pre, labs, min, cents⟩ := l
  dsimp only at hn hh'
  unfold lvA
  dsimp only
  generalize levelB _ _ = r at HF
  clear labs
  rcases hh' with h | ⟨h, h1 | ⟨h0, h1⟩ | ⟨⟨h0, h1⟩, h2⟩ | ⟨⟨h0, h1⟩, h2, h3⟩⟩
  all_goals
    go_enter Tryz.func51, Tryz.ntmps51
    go_wp2_with (go_at_call 70; refine (rName_any _ _ hn).mono ?_; rintro e w1 ⟨rfl, rfl⟩)
    go_ret
    exact ⟨ret_bool HF.out.symm, (Below.refl _ w).alloc (Nat.le_refl _) _⟩
set_option maxHeartbeats 2000000 in
theorem rLevel_min (l : Lev) (v : Value) (w : World) (hf : LevFits l) (hh : headB l = true) (hm : l.min < 1 ∨ 2000 < l.min) :
    Calls Tryz.prog 51 #[lvA l v, .bool false] w fun e w' => e = .returned (.bool (levelB l false)) ∧ Below w.heap.size w w' := by
  obtain ⟨hn, hl, hx⟩ := hf
  have HR : Hid (levelB l false = false) := levelB_false (fun h => by have := h.2; simp at this; omega)
  obtain ⟨h, h1, h2, h3, h4⟩ := head_parts hh
  clear hh hx
  obtain ⟨name, pre, labs, min, cents⟩ := l
  dsimp only at *
  unfold lvA
  dsimp only
  generalize levelB _ _ = r at HR
  rcases hm with hm | hm
  all_goals
    go_enter Tryz.func51, Tryz.ntmps51
    go_wp2_with (go_at_call 70; refine (rName_any _ _ hn).mono ?_; rintro e w1 ⟨rfl, rfl⟩)
    go_ret
    exact ⟨ret_bool HR.out.symm, (Below.refl _ w).alloc (Nat.le_refl _) _⟩
set_option maxHeartbeats 2000000 in
theorem rLevel_last (l : Lev) (v : Value) (w : World) (hf : LevFits l) (hh : headB l = true) (hv : ∃ a cap, v = .slice a l.labs.length cap) :
    Calls Tryz.prog 51 #[lvA l v, .bool true] w fun e w' => e = .returned (.bool (levelB l true)) ∧ Below w.heap.size w w' := by
  obtain ⟨hn, hl, hx⟩ := hf
  obtain ⟨a, cap, rfl⟩ := hv
  have HT : Hid (l.min = 0 → l.pre = 0 → l.labs.length = 0 → levelB l true = true) := fun h1 h2 h3 => levelB_iff.2 ⟨hh, by simp [h1, h2, h3]⟩
  have HF : Hid (¬ (l.min = 0 ∧ l.pre = 0 ∧ l.labs.length = 0) → levelB l true = false) := fun h => levelB_false (fun h' => h (by simpa using h'.2))
  obtain ⟨h, h1, h2, h3, h4⟩ := head_parts hh
  clear hh hx
  obtain ⟨name, pre, labs, min, cents⟩ := l
  dsimp only at *
  unfold lvA
  dsimp only
  generalize levelB _ _ = r at HT HF
  generalize labs.length = n at HT HF hl
  by_cases p0 : pre = 0
  · subst p0
    by_cases n0 : n = 0
    · subst n0
      by_cases m0 : min = 0
      · subst m0
        have HR := Lib.hid (HT.out rfl rfl rfl)
        clear HT HF
        go_enter Tryz.func51, Tryz.ntmps51
        go_wp2_with (go_at_call 70; refine (rName_any _ _ hn).mono ?_; rintro e w1 ⟨rfl, rfl⟩)
        go_loop [5] (fun i => i = .int .i64 0) (fun i => 0)
        case atStart => rfl
        case round =>
          subst hrel
          go_wp2_with fail
          go_ret
          exact ⟨ret_bool HR.out.symm, (Below.refl _ w).alloc (Nat.le_refl _) _⟩
      · have hne : (min != 0) = true := by simpa using m0
        have HR := Lib.hid (HF.out (fun h => m0 h.1))
        clear m0
        go_enter Tryz.func51, Tryz.ntmps51
        go_wp2_with (go_at_call 70; refine (rName_any _ _ hn).mono ?_; rintro e w1 ⟨rfl, rfl⟩)
        go_ret
        exact ⟨ret_bool HR.out.symm, (Below.refl _ w).alloc (Nat.le_refl _) _⟩
    · have hne : ((n : Int) != 0) = true := by simp; omega
      have HR := Lib.hid (HF.out (fun h => n0 h.2.2))
      clear n0
      go_enter Tryz.func51, Tryz.ntmps51
      go_wp2_with (go_at_call 70; refine (rName_any _ _ hn).mono ?_; rintro e w1 ⟨rfl, rfl⟩)
      go_ret
      exact ⟨ret_bool HR.out.symm, (Below.refl _ w).alloc (Nat.le_refl _) _⟩
  · have hne : (pre != 0) = true := by simpa using p0
    have HR := Lib.hid (HF.out (fun h => p0 h.2.1))
    clear p0
    go_enter Tryz.func51, Tryz.ntmps51
    go_wp2_with (go_at_call 70; refine (rName_any _ _ hn).mono ?_; rintro e w1 ⟨rfl, rfl⟩)
    go_ret
    exact ⟨ret_bool HR.out.symm, (Below.refl _ w).alloc (Nat.le_refl _) _⟩
set_option maxHeartbeats 8000000 in
theorem rLevel_labs (l : Lev) (v : Value) (w : World) (hf : LevFits l) (hh : headB l = true) (hm1 : 1 ≤ l.min) (hm2 : l.min ≤ 2000) (hr : RdLabs w v l.labs) :
    Calls Tryz.prog 51 #[lvA l v, .bool false] w fun e w' => e = .returned (.bool (levelB l false)) ∧ Below w.heap.size w w' := by
  obtain ⟨hn, hl, hx⟩ := hf
  obtain ⟨a, cap, rfl, hc⟩ := hr
  have HC := Lib.hid hc
  have HX := Lib.hid hx
  have HT : Hid (labsTo l l.labs.length → levelB l false = true) := fun h => levelB_iff.2 ⟨hh, by simp; exact ⟨⟨hm1, hm2⟩, h⟩⟩
  have HF1 : Hid (∀ k (hk : k < l.labs.length), labOk l l.labs[k] = false → levelB l false = false) := fun k hk => levelB_not_lab hk
  have HF2 : Hid (∀ j (hk : j + 1 < l.labs.length), ltB l.labs[j].pre l.labs[j + 1].pre = false → levelB l false = false) := fun j hk => levelB_not_sorted hk
  obtain ⟨h, h1, h2, h3, h4⟩ := head_parts hh
  clear hh hx hc
  generalize levelB l false = r at HT HF1 HF2
  unfold lvA
  go_enter Tryz.func51, Tryz.ntmps51
  go_wp2_with (go_at_call 70; refine (rName_any _ _ hn).mono ?_; rintro e w1 ⟨rfl, rfl⟩)
  go_loopw [5] (fun i wr => ∃ k : Nat, k ≤ l.labs.length ∧ i = .int .i64 k ∧ Hid (labsTo l k) ∧ Below (w.heap.size + 1) (w.alloc (.cells #[.string l.name, .int .i64 l.pre, .slice a l.labs.length cap, .int .i64 l.min, .int .i64 l.cents] 49)) wr) (fun i _ => l.labs.length - (intOf i).toNat)
  case atStart => exact ⟨0, Nat.zero_le _, rfl, fun j h => by omega, Below.refl _ _⟩
  case round =>
    obtain ⟨k, hk, rfl, ha, hB⟩ := hrel
    have hbx : w.heap.size < (w.alloc (.cells #[.string l.name, .int .i64 l.pre, .slice a l.labs.length cap, .int .i64 l.min, .int .i64 l.cents] 49)).heap.size := by simp
    have b1 : wr.cell? ⟨w.heap.size, 1, none⟩ = some (.int .i64 l.pre) := (hB.cell (p := ⟨w.heap.size, 1, none⟩) (Nat.lt_succ_self _)).trans (by simp [go_sem])
    have b2 : wr.cell? ⟨w.heap.size, 2, none⟩ = some (.slice a l.labs.length cap) := (hB.cell (p := ⟨w.heap.size, 2, none⟩) (Nat.lt_succ_self _)).trans (by simp [go_sem])
    have hsz : w.heap.size < wr.heap.size := Nat.lt_of_lt_of_le hbx hB.size
    have hend : Below w.heap.size w wr := ((Below.refl _ w).alloc (Nat.le_refl _) _).trans (hB.mono (Nat.le_succ _))
    by_cases hlt : k < l.labs.length
    · obtain ⟨g, off, rfl, hg, hcc⟩ := HC.out (by omega)
      have hgr : g < wr.heap.size := by omega
      have cl : ∀ o, wr.cell? ⟨g, o, none⟩ = w.cell? ⟨g, o, none⟩ := fun o => (hend.cell (p := ⟨g, o, none⟩) hg)
      have c1 : wr.cell? ⟨g, off + k * 2, none⟩ = some (.string l.labs[k].pre) := (cl _).trans (hcc k hlt).1
      have c2 : wr.cell? ⟨g, off + k * 2 + 1, none⟩ = some (.string l.labs[k].grp) := (cl _).trans (hcc k hlt).2
      have x1 := (HX.out _ (List.getElem_mem hlt)).1
      have x2 := (HX.out _ (List.getElem_mem hlt)).2
      have HN := Lib.hid (fun a b => labsTo_succ ha.out hlt a b)
      have HFK := Lib.hid (HF1.out k hlt)
      have hprev : Hid (∀ j, j + 1 = k → ∃ q : ByteArray, wr.cell? ⟨g, off + j * 2, none⟩ = some (.string q) ∧ (ltB q l.labs[k].pre = false → r = false) ∧ (ltB q l.labs[k].pre = true → ∀ j, j + 1 = k → ∀ h' : j < l.labs.length, ltB l.labs[j].pre l.labs[k].pre = true)) := fun j hj => by
        subst hj
        exact ⟨l.labs[j].pre, (cl _).trans (hcc j (by omega)).1, fun h => HF2.out j hlt h, fun h i hi _ => by
          obtain rfl : i = j := by omega
          exact h⟩
      have hlc := labOk_cases (l := l) (x := l.labs[k])
      have HLC := Lib.hid hlc
      clear cl hcc HC HX HF1 HF2 HT ha hlc
      generalize labOk l l.labs[k] = lok at HFK HN HLC
      generalize l.labs[k].pre = xp at c1 x1 HN HLC hprev
      generalize l.labs[k].grp = xg at c2 x2 HLC
      have hd : decide ((k : Int) < (l.labs.length : Int)) = true := decide_eq_true (by omega)
      go_wp2_with fail
      have q0 : (wr.alloc (.cells #[.string xp, .string xg] 95)).cell? ⟨wr.heap.size, 0, none⟩ = some (.string xp) := by rw [World.cell?_alloc_new]; rfl
      have q1 : (wr.alloc (.cells #[.string xp, .string xg] 95)).cell? ⟨wr.heap.size, 1, none⟩ = some (.string xg) := by rw [World.cell?_alloc_new]; rfl
      have d1 := (cell_alloc_old (.cells #[.string xp, .string xg] 95) hsz (i := 1)).trans b1
      have d2 := (cell_alloc_old (.cells #[.string xp, .string xg] 95) hsz (i := 2)).trans b2
      have hprev2 : Hid (∀ j, j + 1 = k → ∃ q : ByteArray, (wr.alloc (.cells #[.string xp, .string xg] 95)).cell? ⟨g, off + j * 2, none⟩ = some (.string q) ∧ (ltB q xp = false → r = false) ∧ (ltB q xp = true → ∀ j, j + 1 = k → ∀ h' : j < l.labs.length, ltB l.labs[j].pre xp = true)) := fun j hj => by
        obtain ⟨q, h1, h2, h3⟩ := hprev.out j hj
        exact ⟨q, (cell_alloc_old _ hgr).trans h1, h2, h3⟩
      have HBX : Hid (Below (w.heap.size + 1) (w.alloc (.cells #[.string l.name, .int .i64 l.pre, .slice (some ⟨g, off, none⟩) l.labs.length cap, .int .i64 l.min, .int .i64 l.cents] 49)) (wr.alloc (.cells #[.string xp, .string xg] 95))) := hB.alloc hsz _
      have HEX : Hid (Below w.heap.size w (wr.alloc (.cells #[.string xp, .string xg] 95))) := hend.alloc (Nat.le_of_lt hsz) _
      generalize wr.alloc (.cells #[.string xp, .string xg] 95) = wx at q0 q1 d1 d2 hprev2 HBX HEX ⊢
      have q0 := cells_in q0
      have q1 := cells_in q1
      have d1 := cells_in d1
      have d2 := cells_in d2
      clear hprev hB hend hsz hbx b1 b2 c1 c2 hgr
      have CP : Hid (∀ W, Below wx.heap.size wx W → Calls Tryz.prog 71 #[.string xp] W fun e w' => e = .returned (.bool (plainB xp)) ∧ Below W.heap.size W w') := fun W _ => (rPlain_any xp W x1).mono fun e w' ⟨a, b⟩ => ⟨a, by subst b; exact Below.refl _ _⟩
      have CN : Hid (∀ W, Below wx.heap.size wx W → Calls Tryz.prog 70 #[.string xg] W fun e w' => e = .returned (.bool (nameB xg)) ∧ Below W.heap.size W w') := fun W _ => (rName_any xg W x2).mono fun e w' ⟨a, b⟩ => ⟨a, by subst b; exact Below.refl _ _⟩
      generalize plainB xp = pb at CP HLC
      generalize nameB xg = nb at CN HLC
      clear x1 x2
      rcases HLC.out with ⟨rfl, hcs⟩ | ⟨rfl, t1, rfl, rfl⟩
      · have HR := Lib.hid (HFK.out rfl)
        clear HFK HN hprev2 HLC
        rcases hcs with t1 | ⟨t1, rfl⟩ | ⟨t1, rfl, rfl⟩
        · refine wp_region_quiet_below (by kernel_rfl) (by kernel_rfl) ?_
          repeat (go_big_quiet_step ((first | (with_reducible exact regrown_in CP.out _) | (with_reducible exact regrown_in CN.out _))))
          refine wpQuiet_nil ?_
          intro _ hw'
          obtain ⟨pp, hw''⟩ := hw'
          subst hw''
          go_wp2_with fail
          go_ret
          exact ⟨ret_bool HR.out.symm, HEX.out.trans ((below_in wx pp).mono HEX.out.size)⟩
        · refine wp_region_quiet_below (by kernel_rfl) (by kernel_rfl) ?_
          repeat (go_big_quiet_step ((first | (with_reducible exact regrown_in CP.out _) | (with_reducible exact regrown_in CN.out _))))
          refine wpQuiet_nil ?_
          intro _ hw'
          obtain ⟨pp, hw''⟩ := hw'
          subst hw''
          go_wp2_with fail
          go_ret
          exact ⟨ret_bool HR.out.symm, HEX.out.trans ((below_in wx pp).mono HEX.out.size)⟩
        · refine wp_region_quiet_below (by kernel_rfl) (by kernel_rfl) ?_
          repeat (go_big_quiet_step ((first | (with_reducible exact regrown_in CP.out _) | (with_reducible exact regrown_in CN.out _))))
          refine wpQuiet_nil ?_
          intro _ hw'
          obtain ⟨pp, hw''⟩ := hw'
          subst hw''
          go_wp2_with fail
          go_ret
          exact ⟨ret_bool HR.out.symm, HEX.out.trans ((below_in wx pp).mono HEX.out.size)⟩
      · have HN' := Lib.hid (HN.out rfl)
        clear HN HFK HLC
        by_cases k0 : 0 < k
        · obtain ⟨q, hq, hq1, hq2⟩ := hprev2.out (k - 1) (by omega)
          have HQ1 := Lib.hid hq1
          have HQ2 := Lib.hid hq2
          have hq := cells_in hq
          clear hq1 hq2 hprev2
          have hle := less_eq q xp
          have hle2 := leq_eq xp q
          have hd1 : decide (0 < k) = true := by simpa using k0
          have hd2 : decide ((0 : Int) < (k : Int)) = true := by simp; omega
          have hw2 : 0 ≤ (k : Int) - 1 := by omega
          have hw3 : ((k : Int) - 1).toNat = k - 1 := by omega
          have hw4 : (k : Int) - 1 < (l.labs.length : Int) := by omega
          have hw5 : 1 ≤ k := by omega
          have hw6 : k - 1 < l.labs.length := by omega
          have hw1 : IntKind.i64.wrap ((k : Int) - 1) = (k : Int) - 1 := IntWalk.i64_in _ (by omega)
          cases hqq : ltB q xp
          · rw [hqq] at hle hle2
            have HR := Lib.hid (HQ1.out hqq)
            refine wp_region_quiet_below (by kernel_rfl) (by kernel_rfl) ?_
            repeat (go_big_quiet_step ((first | (with_reducible exact regrown_in CP.out _) | (with_reducible exact regrown_in CN.out _))))
            refine wpQuiet_nil ?_
            intro _ hw'
            obtain ⟨pp, hw''⟩ := hw'
            subst hw''
            clear hw1
            go_wp2_with fail
            go_ret
            exact ⟨ret_bool HR.out.symm, HEX.out.trans ((below_in wx pp).mono HEX.out.size)⟩
          · rw [hqq] at hle hle2
            have HR := Lib.hid (HN'.out (HQ2.out hqq))
            refine wp_region_quiet_below (by kernel_rfl) (by kernel_rfl) ?_
            repeat (go_big_quiet_step ((first | (with_reducible exact regrown_in CP.out _) | (with_reducible exact regrown_in CN.out _))))
            refine wpQuiet_nil ?_
            intro _ hw'
            obtain ⟨pp, hw''⟩ := hw'
            subst hw''
            have HBN : Hid (Below (w.heap.size + 1) (w.alloc (.cells #[.string l.name, .int .i64 l.pre, .slice (some ⟨g, off, none⟩) l.labs.length cap, .int .i64 l.min, .int .i64 l.cents] 49)) (grow (redrawn wx pp.d) pp.os)) := HBX.out.trans ((below_in wx pp).mono (by have := HBX.out.size; simp at this; omega))
            clear hw1
            go_wp2_with fail
            go_roundw
            case rel => exact ⟨k + 1, by omega, by go_num, HR.out, HBN.out⟩
            case measure => simp [intOf]; omega
        · have hd1 : decide (0 < k) = false := by simp; omega
          have hd2 : decide ((0 : Int) < (k : Int)) = false := by simp; omega
          have HR := Lib.hid (HN'.out (fun j hj => by omega))
          clear hprev2
          refine wp_region_quiet_below (by kernel_rfl) (by kernel_rfl) ?_
          repeat (go_big_quiet_step ((first | (with_reducible exact regrown_in CP.out _) | (with_reducible exact regrown_in CN.out _))))
          refine wpQuiet_nil ?_
          intro _ hw'
          obtain ⟨pp, hw''⟩ := hw'
          subst hw''
          have HBN : Hid (Below (w.heap.size + 1) (w.alloc (.cells #[.string l.name, .int .i64 l.pre, .slice (some ⟨g, off, none⟩) l.labs.length cap, .int .i64 l.min, .int .i64 l.cents] 49)) (grow (redrawn wx pp.d) pp.os)) := HBX.out.trans ((below_in wx pp).mono (by have := HBX.out.size; simp at this; omega))
          go_wp2_with fail
          go_roundw
          case rel => exact ⟨k + 1, by omega, by go_num, HR.out, HBN.out⟩
          case measure => simp [intOf]; omega
    · have HR := Lib.hid (HT.out (by obtain rfl : k = l.labs.length := by omega
                                     exact ha.out))
      go_wp2_with fail
      go_ret
      exact ⟨ret_bool HR.out.symm, hend⟩
theorem rLevel_any (l : Lev) (v : Value) (last : Bool) (w : World) (hf : LevFits l) (hr : RdLabs w v l.labs) :
    Calls Tryz.prog 51 #[lvA l v, .bool last] w fun e w' => e = .returned (.bool (levelB l last)) ∧ Below w.heap.size w w' := by
  cases hh : headB l
  · exact rLevel_head l v last w hf hh
  · cases last
    · by_cases hm : l.min < 1 ∨ 2000 < l.min
      · exact rLevel_min l v w hf hh hm
      · exact rLevel_labs l v w hf hh (by omega) (by omega) hr
    · exact rLevel_last l v w hf hh (by obtain ⟨a, cap, h, _⟩ := hr; exact ⟨a, cap, h⟩)
end Go.Proofs.YtpieagaggjngjaaGreat

/-! U3 -/
namespace Go.Proofs.YtpieagaggjngjaaGreat
open Go.RowKit Go.Sort
set_option linter.unusedVariables false
set_option maxRecDepth 100000
def boxO (l : Lev) (v : Value) : Obj := .cells #[.string l.name, .int .i64 l.pre, v, .int .i64 l.min, .int .i64 l.cents] 49
theorem boxO_at (w : World) (l : Lev) (v : Value) : (w.alloc (boxO l v)).cell? ⟨w.heap.size, 0, none⟩ = some (.string l.name) ∧ (w.alloc (boxO l v)).cell? ⟨w.heap.size, 1, none⟩ = some (.int .i64 l.pre) ∧ (w.alloc (boxO l v)).cell? ⟨w.heap.size, 2, none⟩ = some v ∧
    (w.alloc (boxO l v)).cell? ⟨w.heap.size, 3, none⟩ = some (.int .i64 l.min) ∧ (w.alloc (boxO l v)).cell? ⟨w.heap.size, 4, none⟩ = some (.int .i64 l.cents) := by
  unfold boxO
  refine ⟨?_, ?_, ?_, ?_, ?_⟩ <;> (rw [World.cell?_alloc_new]; rfl)
/-- Two boxed levels, one behind the other. -/
structure Boxes (B : Nat) (l next : Lev) (v u : Value) (W : World) : Prop where
  l0 : W.cell? ⟨B, 0, none⟩ = some (.string l.name)
  l1 : W.cell? ⟨B, 1, none⟩ = some (.int .i64 l.pre)
  l2 : W.cell? ⟨B, 2, none⟩ = some v
  l3 : W.cell? ⟨B, 3, none⟩ = some (.int .i64 l.min)
  l4 : W.cell? ⟨B, 4, none⟩ = some (.int .i64 l.cents)
  n0 : W.cell? ⟨B + 1, 0, none⟩ = some (.string next.name)
  n1 : W.cell? ⟨B + 1, 1, none⟩ = some (.int .i64 next.pre)
  n2 : W.cell? ⟨B + 1, 2, none⟩ = some u
  n3 : W.cell? ⟨B + 1, 3, none⟩ = some (.int .i64 next.min)
  n4 : W.cell? ⟨B + 1, 4, none⟩ = some (.int .i64 next.cents)
theorem boxes_new (w : World) (l next : Lev) (v u : Value) : Boxes w.heap.size l next v u ((w.alloc (boxO l v)).alloc (boxO next u)) := by
  obtain ⟨a0, a1, a2, a3, a4⟩ := boxO_at w l v
  obtain ⟨b0, b1, b2, b3, b4⟩ := boxO_at (w.alloc (boxO l v)) next u
  have hz : (w.alloc (boxO l v)).heap.size = w.heap.size + 1 := by simp
  rw [hz] at b0 b1 b2 b3 b4
  have hlt : w.heap.size < (w.alloc (boxO l v)).heap.size := by omega
  exact ⟨(cell_alloc_old _ hlt).trans a0, (cell_alloc_old _ hlt).trans a1, (cell_alloc_old _ hlt).trans a2, (cell_alloc_old _ hlt).trans a3, (cell_alloc_old _ hlt).trans a4, b0, b1, b2, b3, b4⟩
theorem Boxes.below {B : Nat} {l next : Lev} {v u : Value} {W W' : World} (h : Boxes B l next v u W) (hb : Below (B + 2) W W') : Boxes B l next v u W' := by
  have c0 : ∀ o, W'.cell? ⟨B, o, none⟩ = W.cell? ⟨B, o, none⟩ := fun o => hb.cell (p := ⟨B, o, none⟩) (by show B < B + 2; omega)
  have c1 : ∀ o, W'.cell? ⟨B + 1, o, none⟩ = W.cell? ⟨B + 1, o, none⟩ := fun o => hb.cell (p := ⟨B + 1, o, none⟩) (by show B + 1 < B + 2; omega)
  exact ⟨(c0 _).trans h.l0, (c0 _).trans h.l1, (c0 _).trans h.l2, (c0 _).trans h.l3, (c0 _).trans h.l4, (c1 _).trans h.n0, (c1 _).trans h.n1, (c1 _).trans h.n2, (c1 _).trans h.n3, (c1 _).trans h.n4⟩
theorem allTo_size {l : Lev} (hp : ∀ x ∈ l.labs, (x.pre.size : Int) = l.pre) : ∀ a ∈ allL l, (a.size : Int) = l.pre := fun a ha => by
  obtain ⟨x, hx, rfl | ⟨hs, rfl⟩⟩ := mem_allL.1 ha
  · exact hp x hx
  · unfold selfB at hs
    simp at hs
    exact hs.1
theorem nestR_step {l next : Lev} {i : Nat} (h : nestR l next i) (h2 : ∀ k, k < i → fitN l next ((allL l).getD i ⟨#[]⟩) ((allL l).getD k ⟨#[]⟩)) : nestR l next (i + 1) := fun j k hk hj => by
  by_cases e : j = i
  · subst e; exact h2 k hk
  · exact h j k hk (by omega)
set_option maxHeartbeats 16000000 in
theorem rNested_any (l next : Lev) (v u : Value) (w : World) (hfl : LevFits l) (hfn : LevFits next) (hv : RdLabs w v l.labs) (hu : RdLabs w u next.labs) (hsort : sortedB l.labs) (hpre : ∀ x ∈ l.labs, (x.pre.size : Int) = l.pre)
    (h0 : 0 ≤ next.pre) (hle : next.pre ≤ l.pre) (h10 : l.pre ≤ 10) :
    Calls Tryz.prog 52 #[lvA l v, lvA next u] w fun e w' => e = .returned (.bool (nestedB l next)) ∧ Below w.heap.size w w' := by
  obtain ⟨i0, hi⟩ := info_parts Tryz.infoS
  have HI := Lib.hid hi
  clear hi
  have HAS := Lib.hid (allTo_size hpre)
  have hal : (allL l).length ≤ 200000 := by have := allTo_len l l.labs.length; have := hfl.2.1; unfold allL; omega
  have HYES : Hid (nestR l next (allL l).length → nestedB l next = true) := fun h => nestedB_iff.2 ((nest_ref hsort).1 h)
  have HNO : Hid (¬ nestR l next (allL l).length → nestedB l next = false) := fun h => nestedB_false (fun h' => h ((nest_ref hsort).2 h'))
  have HGL : Hid (∀ W p, Below w.heap.size w W → Calls Tryz.prog 72 #[lvA l v, .string p] W fun e w' => e = .returned (.string (refGrp l p)) ∧ Below W.heap.size W w') := fun W p hB => rGroup_any l v p W hfl.2.1 (hv.below hB)
  have HGN : Hid (∀ W p, Below w.heap.size w W → Calls Tryz.prog 72 #[lvA next u, .string p] W fun e w' => e = .returned (.string (refGrp next p)) ∧ Below W.heap.size W w') := fun W p hB => rGroup_any next u p W hfn.2.1 (hu.below hB)
  obtain ⟨np, hnp⟩ : ∃ np : Nat, next.pre = np := ⟨next.pre.toNat, by omega⟩
  have hbox := boxes_new w l next v u
  have HZ : Hid (((w.alloc (boxO l v)).alloc (boxO next u)).heap.size = w.heap.size + 2) := by show _ = _; simp
  have HB0 : Hid (Below w.heap.size w ((w.alloc (boxO l v)).alloc (boxO next u))) := ((Below.refl _ w).alloc (Nat.le_refl _) _).alloc (by simp) _
  have HXS := Lib.hid hfl.2.2
  have hl5 := hfl.2.1
  obtain ⟨a, cap, rfl, hc⟩ := hv
  have HC := Lib.hid hc
  unfold lvA at HGL HGN ⊢
  have HNP := Lib.hid hnp
  have HLE := Lib.hid hle
  have HPOS := Lib.hid h10
  clear hu hfl hfn hsort hpre hc h0 hnp hle h10
  obtain ⟨w2, hw2⟩ : ∃ w2 : World, (w.alloc (boxO l (.slice a l.labs.length cap))).alloc (boxO next u) = w2 := ⟨_, rfl⟩
  rw [hw2] at hbox HZ HB0
  unfold boxO at hw2
  have HBX := Lib.hid hbox
  clear hbox
  go_enter Tryz.func52, Tryz.ntmps52
  go_wp2_with fail
  try rw [hw2]
  clear hw2
  go_loopw [5, 6] (fun x i wr => ∃ k : Nat, k ≤ l.labs.length ∧ i = .int .i64 k ∧ OwnsT wr (w.heap.size + 2) x (allTo l k) ∧ Below (w.heap.size + 2) w2 wr) (fun _ i _ => l.labs.length - (intOf i).toNat)
  case atStart => exact ⟨0, Nat.zero_le _, rfl, OwnsT.nil _ _, Below.refl _ _⟩
  case round =>
    obtain ⟨k, hk, rfl, hown, hB⟩ := hrel
    have hbw := HBX.out.below hB
    have hwz : w.heap.size + 2 ≤ wr.heap.size := by have := hB.size; have := HZ.out; omega
    by_cases hlt : k < l.labs.length
    · obtain ⟨g, off, rfl, hg, hcc⟩ := HC.out (by omega)
      have hend : Below w.heap.size w wr := HB0.out.trans (hB.mono (by omega))
      have cl : ∀ o, wr.cell? ⟨g, o, none⟩ = w.cell? ⟨g, o, none⟩ := fun o => hend.cell (p := ⟨g, o, none⟩) hg
      have c1 : wr.cell? ⟨g, off + k * 2, none⟩ = some (.string l.labs[k].pre) := (cl _).trans (hcc k hlt).1
      have c2 : wr.cell? ⟨g, off + k * 2 + 1, none⟩ = some (.string l.labs[k].grp) := (cl _).trans (hcc k hlt).2
      have hgr : g < wr.heap.size := by omega
      have x2 := (HXS.out _ (List.getElem_mem hlt)).2
      have hal5 := allTo_len l k
      have HALL : Hid (allTo l (k + 1) = (allTo l k ++ [l.labs[k].pre]) ++ if selfB l l.labs[k] then [l.labs[k].grp] else []) := by
        show allTo l (k + 1) = _
        rw [allTo_succ l k hlt]; unfold allL1; simp
      have HSF : Hid (selfB l l.labs[k] = (decide ((l.labs[k].grp.size : Int) = l.pre) && plainB l.labs[k].grp)) := rfl
      have hl1 := hbw.l1
      have hl2 := hbw.l2
      clear cl hcc HC hbw HNO HYES HGL HGN HAS HXS
      generalize selfB l l.labs[k] = sf at HALL HSF
      generalize l.labs[k].pre = xp at c1 HALL
      generalize l.labs[k].grp = xg at c2 x2 HALL HSF
      generalize allTo l k = acc at hown HALL hal5
      have hd : decide ((k : Int) < (l.labs.length : Int)) = true := decide_eq_true (by omega)
      have STEP : Hid (∀ v4 w4, w4.ownsRow (w.heap.size + 2) 9 1 v4 (acc.length + 1) (acc.map Value.string ++ [.string xp]) → (wr.alloc (.cells #[.string xp] 9)).grownBy w4 u5.ownBlock →
          Hid (OwnsT w4 (w.heap.size + 2) v4 (acc ++ [xp])) ∧ Hid (Below (w.heap.size + 2) w2 w4) ∧ w4.cell? ⟨w.heap.size, 1, none⟩ = some (.int .i64 l.pre) ∧ w4.cell? ⟨w.heap.size, 2, none⟩ = some (.slice (some ⟨g, off, none⟩) l.labs.length cap) ∧ w4.cell? ⟨g, off + k * 2 + 1, none⟩ = some (.string xg) ∧ w.heap.size + 2 ≤ w4.heap.size) := fun v4 w4 ho hg4 => by
        have hb4 : Below (w.heap.size + 2) w2 w4 := (hB.alloc hwz _).grown hg4 (by simp; omega) (fun r e => (hown.lt r e).1)
        have hbw4 := HBX.out.below hb4
        have hend4 : Below w.heap.size w w4 := HB0.out.trans (hb4.mono (by omega))
        refine ⟨?_, hb4, hbw4.l1, hbw4.l2, ?_, by have := hb4.size; have := HZ.out; omega⟩
        · show w4.ownsRow _ _ _ _ _ _
          rw [List.length_append, List.map_append, List.length_singleton, List.map_singleton]
          exact ho
        · exact (hend4.cell (p := ⟨g, off + k * 2 + 1, none⟩) hg).trans ((hend.cell (p := ⟨g, off + k * 2 + 1, none⟩) hg).symm.trans c2)
      have hal7 : acc.length + 2 ≤ 300000 := by omega
      unfold OwnsT at hown
      clear hend hB hal
      cases hsz : ((xg.size : Int) == l.pre)
      · have hsf : sf = false := by rw [HSF.out, show decide ((xg.size : Int) = l.pre) = false by simpa using hsz]; rfl
        subst hsf
        have HA2 : Hid (allTo l (k + 1) = acc ++ [xp]) := by show _ = _; rw [HALL.out]; simp
        clear HALL HSF
        go_wp2_with (at_builtin; refine wpList_append_own _ rfl _ _ 50 rfl (w.heap.size + 2) 9 i0 (.string ⟨#[]⟩) 1 16 Tryz.underlying50 HI.out.1 HI.out.2.1 HI.out.2.2.1 HI.out.2.2.2 rfl (by decide) _ _ _ rfl (hown.alloc _) ⟨wr.heap.size, 0, none⟩ 1 1 [.string xp] rfl rfl (by have := cell_one_new wr (.string xp) 9; simpa using this) (by simp [Value.oneCell']) (by unfold maxLen; omega) (by omega) (by simp; omega) ?_; intro v4 w4 hown4 hgrow4 _; obtain ⟨HOWN4, HB4, hk1, hk2, c4, hwz4⟩ := STEP.out v4 w4 hown4 hgrow4; clear hown4 hgrow4 hown c1 c2 hl1 hl2)
        go_roundw
        case rel => exact ⟨k + 1, by omega, by go_num, by rw [HA2.out]; exact HOWN4.out, HB4.out⟩
        case measure => simp [intOf]; omega
      · have CP := Lib.hid (fun W => rPlain_any xg W x2)
        have hsf : sf = plainB xg := by rw [HSF.out, show decide ((xg.size : Int) = l.pre) = true by simpa using hsz]; rfl
        rw [← hsf] at CP
        clear hsf HSF
        cases sf
        · have HA2 : Hid (allTo l (k + 1) = acc ++ [xp]) := by show _ = _; rw [HALL.out]; simp
          clear HALL
          go_wp2_with (first | (at_builtin; refine wpList_append_own _ rfl _ _ 50 rfl (w.heap.size + 2) 9 i0 (.string ⟨#[]⟩) 1 16 Tryz.underlying50 HI.out.1 HI.out.2.1 HI.out.2.2.1 HI.out.2.2.2 rfl (by decide) _ _ _ rfl (hown.alloc _) ⟨wr.heap.size, 0, none⟩ 1 1 [.string xp] rfl rfl (by have := cell_one_new wr (.string xp) 9; simpa using this) (by simp [Value.oneCell']) (by unfold maxLen; omega) (by omega) (by simp; omega) ?_; intro v4 w4 hown4 hgrow4 _; obtain ⟨HOWN4, HB4, hk1, hk2, c4, hwz4⟩ := STEP.out v4 w4 hown4 hgrow4; clear hown4 hgrow4 hown c1 c2 hl1 hl2) | (go_at_call 71; refine (CP.out _).mono ?_; rintro e w5 ⟨rfl, rfl⟩))
          go_roundw
          case rel => exact ⟨k + 1, by omega, by go_num, by rw [HA2.out]; exact HOWN4.out, HB4.out⟩
          case measure => simp [intOf]; omega
        · have HA2 : Hid (allTo l (k + 1) = (acc ++ [xp]) ++ [xg]) := by show _ = _; rw [HALL.out]; simp
          clear HALL
          go_wp2_with (first | (at_builtin; refine wpList_append_own _ rfl _ _ 50 rfl (w.heap.size + 2) 9 i0 (.string ⟨#[]⟩) 1 16 Tryz.underlying50 HI.out.1 HI.out.2.1 HI.out.2.2.1 HI.out.2.2.2 rfl (by decide) _ _ _ rfl (hown.alloc _) ⟨wr.heap.size, 0, none⟩ 1 1 [.string xp] rfl rfl (by have := cell_one_new wr (.string xp) 9; simpa using this) (by simp [Value.oneCell']) (by unfold maxLen; omega) (by omega) (by simp; omega) ?_; intro v4 w4 hown4 hgrow4 _; obtain ⟨HOWN4, HB4, hk1, hk2, c4, hwz4⟩ := STEP.out v4 w4 hown4 hgrow4; clear hown4 hgrow4 hown c1 c2 hl1 hl2) | (go_at_call 71; refine (CP.out _).mono ?_; rintro e w5 ⟨rfl, rfl⟩) | (at_builtin; refine wpList_append_own _ rfl _ _ 50 rfl (w.heap.size + 2) 9 i0 (.string ⟨#[]⟩) 1 16 Tryz.underlying50 HI.out.1 HI.out.2.1 HI.out.2.2.1 HI.out.2.2.2 rfl (by decide) _ _ _ rfl ((show w4.ownsRow (w.heap.size + 2) 9 1 v4 _ _ from HOWN4.out).alloc _) ⟨w4.heap.size, 0, none⟩ 1 1 [.string xg] rfl rfl (by have := cell_one_new w4 (.string xg) 9; simpa using this) (by simp [Value.oneCell']) (by unfold maxLen; simp; omega) (by simp; omega) (by simp; omega) ?_; intro v6 w6 hown6 hgrow6 _))
          have hb6 : Below (w.heap.size + 2) w2 w6 := (HB4.out.alloc hwz4 _).grown hgrow6 (by simp; omega) (fun r e => (World.ownsRow.lt HOWN4.out r e).1)
          have HOWN6 : Hid (OwnsT w6 (w.heap.size + 2) v6 (allTo l (k + 1))) := by
            show w6.ownsRow _ _ _ _ _ _
            rw [HA2.out, List.length_append, List.map_append, List.length_singleton, List.map_singleton]
            exact hown6
          have HB6 := Lib.hid hb6
          clear hgrow6 hown6 hb6
          go_roundw
          case rel => exact ⟨k + 1, by omega, by go_num, HOWN6.out, HB6.out⟩
          case measure => simp [intOf]; omega
    · obtain rfl : k = l.labs.length := by omega
      obtain ⟨va, vcap, rfl, hread⟩ := ReadsT.of_row hown
      have hread0 : 0 < (allTo l l.labs.length).length → ∃ g off, va = some ⟨g, off, none⟩ ∧ g < wr.heap.size ∧ ∀ i (h : i < (allTo l l.labs.length).length), wr.cell? ⟨g, off + i, none⟩ = some (.string (allTo l l.labs.length)[i]) := hread
      have HRA : Hid (0 < (allL l).length → ∃ g off, va = some ⟨g, off, none⟩ ∧ g < wr.heap.size ∧ ∀ i (h : i < (allL l).length), wr.cell? ⟨g, off + i, none⟩ = some (.string ((allL l).getD i ⟨#[]⟩))) := fun h0 => by
        obtain ⟨g, off, e1, e2, e3⟩ := hread0 h0
        exact ⟨g, off, e1, e2, fun i hi => by rw [List.getD_eq_getElem?_getD, List.getElem?_eq_getElem hi]; exact e3 i hi⟩
      have hlen : (allTo l l.labs.length).length = (allL l).length := rfl
      rw [hlen]
      have HASZ : Hid (∀ i, i < (allL l).length → (((allL l).getD i ⟨#[]⟩).size : Int) = l.pre) := fun i hi => HAS.out _ (getD_mem hi)
      have HNF : Hid (∀ i k, k < i → i < (allL l).length → ¬ fitN l next ((allL l).getD i ⟨#[]⟩) ((allL l).getD k ⟨#[]⟩) → nestedB l next = false) := fun i k hk hi hn => HNO.out (fun h => hn (h i k hk hi))
      obtain ⟨N, hN⟩ : ∃ N, (allL l).length = N := ⟨_, rfl⟩
      rw [hN] at HRA HASZ HNF HYES hal ⊢
      obtain ⟨w3, rfl⟩ : ∃ w3 : World, w3 = wr := ⟨_, rfl⟩
      have HB3 := Lib.hid hB
      have HN1 : Hid (next.pre.toNat = np) := by have := HNP.out; show next.pre.toNat = np; omega
      rw [HNP.out] at HGN

      have hl2 := hbw.l2
      clear hread hread0 hown hbw hwz hlen hN HAS HNO HC hB HXS hk hlt
      go_wp2_with fail
      go_loopw [8] (fun x wr => ∃ i : Nat, i ≤ N ∧ x = .int .i64 i ∧ Hid (nestR l next i) ∧ Hid (Below w3.heap.size w3 wr)) (fun x _ => N - (intOf x).toNat)
      case atStart => exact ⟨0, Nat.zero_le _, rfl, fun i k hk hi => by omega, Below.refl _ _⟩
      case round =>
        obtain ⟨i, hi, rfl, hni, HBY⟩ := hrel
        by_cases hlt : i < N
        · have hd : decide ((i : Int) < (N : Int)) = true := decide_eq_true (by omega)
          obtain ⟨g3, off3, rfl, hg3, hcell⟩ := HRA.out (by omega)
          have HCE := Lib.hid hcell
          clear hcell HRA
          go_wp2_with fail
          go_loopw [9] (fun x wr => ∃ k : Nat, k ≤ i ∧ x = .int .i64 k ∧ Hid (∀ j, j < k → fitN l next ((allL l).getD i ⟨#[]⟩) ((allL l).getD j ⟨#[]⟩)) ∧ Hid (Below w3.heap.size w3 wr)) (fun x _ => i - (intOf x).toNat)
          case atStart => exact ⟨0, Nat.zero_le _, rfl, fun j h => by omega, HBY.out⟩
          case round =>
            obtain ⟨k, hk, rfl, hfk, HBZ⟩ := hrel
            clear HBY
            by_cases hlk : k < i
            · have hdk : decide ((k : Int) < (i : Int)) = true := decide_eq_true (by omega)
              have c1 := cells_in ((HBZ.out.cell (p := ⟨g3, off3 + i, none⟩) hg3).trans (HCE.out i (by omega)))
              have c2 := cells_in ((HBZ.out.cell (p := ⟨g3, off3 + k, none⟩) hg3).trans (HCE.out k (by omega)))
              have hsa := HASZ.out i (by omega)
              have hsb := HASZ.out k (by omega)
              have HFIT : Hid (fitN l next ((allL l).getD i ⟨#[]⟩) ((allL l).getD k ⟨#[]⟩) → ∀ j, j < k + 1 → fitN l next ((allL l).getD i ⟨#[]⟩) ((allL l).getD j ⟨#[]⟩)) := fun h => upto_succ hfk.out h
              have HBAD := Lib.hid (HNF.out i k hlk (by omega))
              have hwr : Below w.heap.size w wr := HB0.out.trans ((HB3.out.mono (by omega)).trans (HBZ.out.mono (by have := HB3.out.size; have := HZ.out; omega)))
              have HWR := Lib.hid hwr
              have hbz : Below (w.heap.size + 2) w2 wr := HB3.out.trans (HBZ.out.mono (by have := HB3.out.size; have := HZ.out; omega))
              have hbx := HBX.out.below hbz
              have l0 := cells_in hbx.l0
              have l1 := cells_in hbx.l1
              have l2 := cells_in hbx.l2
              have l3 := cells_in hbx.l3
              have l4 := cells_in hbx.l4
              have n0 := cells_in hbx.n0
              have n1 := hbx.n1
              rw [HNP.out] at n1
              have n1 := cells_in n1
              have n2 := cells_in hbx.n2
              have n3 := cells_in hbx.n3
              have n4 := cells_in hbx.n4
              clear hbx hbz hwr hfk HNF
              have HFE : Hid (∀ a b, fitN l next a b ↔ (refGrp l a = refGrp l b → refGrp next (a.extract 0 np) = refGrp next (b.extract 0 np))) := fun a b => by unfold fitN; rw [HN1.out]
              generalize (allL l).getD i ⟨#[]⟩ = ai at c1 hsa HFIT HBAD
              generalize (allL l).getD k ⟨#[]⟩ = ak at c2 hsb HFIT HBAD
              rw [HFE.out] at HFIT HBAD
              have hna : (np : Int) ≤ (ai.size : Int) := by rw [hsa, ← HNP.out]; exact HLE.out
              have hnb : (np : Int) ≤ (ak.size : Int) := by rw [hsb, ← HNP.out]; exact HLE.out
              have hna' : np ≤ ai.size := by omega
              have hnb' : np ≤ ak.size := by omega
              have C1 : Hid (∀ W, Below wr.heap.size wr W → Calls Tryz.prog 72 #[.agg #[.string l.name, .int .i64 l.pre, .slice a l.labs.length cap, .int .i64 l.min, .int .i64 l.cents], .string ai] W fun e w' => e = .returned (.string (refGrp l ai)) ∧ Below W.heap.size W w') := fun W hW => HGL.out W ai (HWR.out.trans (hW.mono HWR.out.size))
              have C2 : Hid (∀ W, Below wr.heap.size wr W → Calls Tryz.prog 72 #[.agg #[.string l.name, .int .i64 l.pre, .slice a l.labs.length cap, .int .i64 l.min, .int .i64 l.cents], .string ak] W fun e w' => e = .returned (.string (refGrp l ak)) ∧ Below W.heap.size W w') := fun W hW => HGL.out W ak (HWR.out.trans (hW.mono HWR.out.size))
              have C3 : Hid (∀ W, Below wr.heap.size wr W → Calls Tryz.prog 72 #[.agg #[.string next.name, .int .i64 (np : Nat), u, .int .i64 next.min, .int .i64 next.cents], .string (ai.extract 0 np)] W fun e w' => e = .returned (.string (refGrp next (ai.extract 0 np))) ∧ Below W.heap.size W w') := fun W hW => HGN.out W _ (HWR.out.trans (hW.mono HWR.out.size))
              have C4 : Hid (∀ W, Below wr.heap.size wr W → Calls Tryz.prog 72 #[.agg #[.string next.name, .int .i64 (np : Nat), u, .int .i64 next.min, .int .i64 next.cents], .string (ak.extract 0 np)] W fun e w' => e = .returned (.string (refGrp next (ak.extract 0 np))) ∧ Below W.heap.size W w') := fun W hW => HGN.out W _ (HWR.out.trans (hW.mono HWR.out.size))
              generalize refGrp l ai = ga at C1 HFIT HBAD
              generalize refGrp l ak = gb at C2 HFIT HBAD
              generalize refGrp next (ai.extract 0 np) = gc at C3 HFIT HBAD
              generalize refGrp next (ak.extract 0 np) = gd at C4 HFIT HBAD
              clear HGL HGN HFE hsa hsb HASZ HCE
              have hb1 := ba_eq ga gb
              have hb2 := ba_eq gc gd
              have HNEXT : Hid (∀ pp : Regrown, Below w3.heap.size w3 (grow (redrawn wr pp.d) pp.os)) := fun pp => HBZ.out.trans ((below_in wr pp).mono HBZ.out.size)
              have HENDS : Hid (∀ pp : Regrown, Below w.heap.size w (grow (redrawn wr pp.d) pp.os)) := fun pp => HWR.out.trans ((below_in wr pp).mono HWR.out.size)
              by_cases e1 : ga = gb
              · rw [decide_eq_true e1] at hb1
                by_cases e2 : gc = gd
                · rw [decide_eq_true e2] at hb2
                  have HFN := Lib.hid (HFIT.out (fun _ => e2))
                  clear HFIT HBAD e1 e2
                  go_wp2_with fail
                  refine wp_region_quiet_below (by kernel_rfl) (by kernel_rfl) ?_
                  repeat (go_big_quiet_step ((first | (with_reducible exact regrown_in C1.out _) | (with_reducible exact regrown_in C2.out _) | (with_reducible exact regrown_in C3.out _) | (with_reducible exact regrown_in C4.out _))))
                  refine wpQuiet_nil ?_
                  intro _ hw'
                  obtain ⟨pp, hw''⟩ := hw'
                  subst hw''
                  go_wp2_with fail
                  go_roundw
                  case rel => exact ⟨k + 1, by omega, by go_num, HFN.out, HNEXT.out pp⟩
                  case measure => simp [intOf]; omega
                · rw [decide_eq_false e2] at hb2
                  have HR := Lib.hid (HBAD.out (fun h => e2 (h e1)))
                  clear HFIT HBAD e1 e2
                  go_wp2_with fail
                  refine wp_region_quiet_below (by kernel_rfl) (by kernel_rfl) ?_
                  repeat (go_big_quiet_step ((first | (with_reducible exact regrown_in C1.out _) | (with_reducible exact regrown_in C2.out _) | (with_reducible exact regrown_in C3.out _) | (with_reducible exact regrown_in C4.out _))))
                  refine wpQuiet_nil ?_
                  intro _ hw'
                  obtain ⟨pp, hw''⟩ := hw'
                  subst hw''
                  go_wp2_with fail
                  go_ret
                  exact ⟨ret_bool HR.out.symm, HENDS.out pp⟩
              · rw [decide_eq_false e1] at hb1
                have HFN := Lib.hid (HFIT.out (fun h => absurd h e1))
                clear HFIT HBAD e1
                go_wp2_with fail
                refine wp_region_quiet_below (by kernel_rfl) (by kernel_rfl) ?_
                repeat (go_big_quiet_step ((first | (with_reducible exact regrown_in C1.out _) | (with_reducible exact regrown_in C2.out _) | (with_reducible exact regrown_in C3.out _) | (with_reducible exact regrown_in C4.out _))))
                refine wpQuiet_nil ?_
                intro _ hw'
                obtain ⟨pp, hw''⟩ := hw'
                subst hw''
                go_wp2_with fail
                go_roundw
                case rel => exact ⟨k + 1, by omega, by go_num, HFN.out, HNEXT.out pp⟩
                case measure => simp [intOf]; omega
            · obtain rfl : k = i := by omega
              have hdk : decide ((k : Int) < (k : Int)) = false := decide_eq_false (by omega)
              have HNX := Lib.hid (nestR_step hni hfk.out)
              go_wp2_with fail
              go_roundw
              case rel => exact ⟨k + 1, by omega, by go_num, HNX.out, HBZ.out⟩
              case measure => simp [intOf]; omega
        · obtain rfl : i = N := by omega
          have HR := Lib.hid (HYES.out hni.out)
          have HE : Hid (Below w.heap.size w wr) := HB0.out.trans ((HB3.out.mono (by omega)).trans (HBY.out.mono (by have := HB3.out.size; have := HZ.out; omega)))
          go_wp2_with fail
          go_ret
          exact ⟨ret_bool HR.out.symm, HE.out⟩
end Go.Proofs.YtpieagaggjngjaaGreat

/-! U4 -/
namespace Go.Proofs.YtpieagaggjngjaaGreat
open Go.RowKit Go.Sort
set_option linter.unusedVariables false
set_option maxRecDepth 100000
theorem sumTo_bound {ls : List Lev} (hf : ∀ l ∈ ls, LevFits l) : ∀ k, sumTo ls k ≤ k * 100000
  | 0 => by simp [sumTo]
  | k + 1 => by
    have ih := sumTo_bound hf k
    by_cases h : k < ls.length
    · rw [sumTo_succ ls k h]
      have := (hf _ (List.getElem_mem h)).2.1
      omega
    · have : sumTo ls (k + 1) = sumTo ls k := by unfold sumTo; rw [List.take_of_length_le (by omega), List.take_of_length_le (by omega)]
      omega
/-- What the reference has checked of the first levels. -/
def okR (ls : List Lev) (k : Nat) : Prop := okTo ls k ∧ ∀ i, i + 1 < k → ∀ h : i + 1 < ls.length, nestedB ls[i] ls[i + 1] = true
theorem right_small (ls : List Lev) (v : Value) (w : World) (hv : ∃ a cap, v = .slice a ls.length cap) (h : ls.length < 1 ∨ 6 < ls.length) (hl : ls.length ≤ maxLen) :
    Calls Tryz.prog 30 #[v] w fun e w' => e = .returned (.bool (rightB ls)) ∧ Below w.heap.size w w' := by
  obtain ⟨a, cap, rfl⟩ := hv
  have HR : Hid (rightB ls = false) := rightB_false (fun h' => by have := h'.1; have := h'.2.1; omega)
  unfold maxLen at hl
  generalize rightB ls = r at HR
  generalize ls.length = n at h hl
  rcases h with h | h
  · have d1 : decide ((n : Int) < 1) = true := decide_eq_true (by omega)
    clear h
    go_enter Tryz.func30, Tryz.ntmps30
    go_wp2_with fail
    go_ret
    exact ⟨ret_bool HR.out.symm, Below.refl _ _⟩
  · have d1 : decide ((n : Int) < 1) = false := decide_eq_false (by omega)
    have d2 : decide (6 < (n : Int)) = true := decide_eq_true (by omega)
    clear h
    go_enter Tryz.func30, Tryz.ntmps30
    go_wp2_with fail
    go_ret
    exact ⟨ret_bool HR.out.symm, Below.refl _ _⟩
set_option maxHeartbeats 16000000 in
theorem rRight_main (ls : List Lev) (v : Value) (w : World) (hr : RdLevs w v ls) (hf : ∀ l ∈ ls, LevFits l) (h1 : 1 ≤ ls.length) (h6 : ls.length ≤ 6) :
    Calls Tryz.prog 30 #[v] w fun e w' => e = .returned (.bool (rightB ls)) ∧ Below w.heap.size w w' := by
  obtain ⟨a, cap, rfl, hc⟩ := hr
  obtain ⟨g, off, rfl, hg, hcc⟩ := hc (by omega)
  have HC := Lib.hid hcc
  have HF := Lib.hid hf
  have d1 : decide ((ls.length : Int) < 1) = false := decide_eq_false (by omega)
  have d2 : decide (6 < (ls.length : Int)) = false := decide_eq_false (by omega)
  clear hcc hf hc
  go_enter Tryz.func30, Tryz.ntmps30
  go_wp2_with fail
  go_loop [3, 4] (fun s i => ∃ k : Nat, k ≤ ls.length ∧ i = .int .i64 k ∧ s = .int .i64 (sumTo ls k : Nat)) (fun _ i => ls.length - (intOf i).toNat)
  case atStart => exact ⟨0, Nat.zero_le _, rfl, rfl⟩
  case round =>
    obtain ⟨k, hk, rfl, rfl⟩ := hrel
    by_cases hlt : k < ls.length
    · obtain ⟨sv, hlab, hat⟩ := HC.out k hlt
      obtain ⟨t0, t1, t2, t3, t4⟩ := hat
      obtain ⟨la, lc, rfl, _⟩ := hlab
      have hsb := sumTo_bound HF.out k
      have hll := (HF.out _ (List.getElem_mem hlt)).2.1
      have HS := Lib.hid (sumTo_succ ls k hlt)
      generalize ls[k].labs.length = m at t2 HS hll
      generalize sumTo ls k = sk at hsb HS ⊢
      have hd : decide ((k : Int) < (ls.length : Int)) = true := decide_eq_true (by omega)
      clear t0 t1 t3 t4 HC
      go_wp2_with fail
      go_round
      case rel => exact ⟨k + 1, by omega, by go_num, by rw [HS.out]; first | rfl | (congr 1; omega)⟩
      case measure => simp [intOf]; omega
    · obtain rfl : k = ls.length := by omega
      by_cases hsum : 200 < sumTo ls ls.length
      · have hd2 : decide (200 < ((sumTo ls ls.length : Nat) : Int)) = true := decide_eq_true (by omega)
        have HR : Hid (rightB ls = false) := rightB_false (fun h' => by have := h'.2.2.1.1; omega)
        generalize sumTo ls ls.length = sk at hd2 ⊢
        go_wp2_with fail
        go_ret
        exact ⟨ret_bool HR.out.symm, Below.refl _ _⟩
      · have hd2 : decide (200 < ((sumTo ls ls.length : Nat) : Int)) = false := decide_eq_false (by omega)
        have HSUM : Hid (∀ k, k ≤ ls.length → sumTo ls k ≤ 200) := fun k hk => by have := sumTo_mono ls hk; omega
        generalize sumTo ls ls.length = sk at hd2 ⊢
        clear hsum
        go_wp2_with fail
        go_loopw [5] (fun i wr => ∃ k : Nat, k ≤ ls.length ∧ i = .int .i64 k ∧ Hid (okR ls k) ∧ Hid (Below w.heap.size w wr)) (fun i _ => ls.length - (intOf i).toNat)
        case atStart => exact ⟨0, Nat.zero_le _, rfl, ⟨⟨HSUM.out 0 (Nat.zero_le _), fun i h => by omega, fun i h => by omega, fun i h => by omega⟩, fun i h => by omega⟩, Below.refl _ _⟩
        case round =>
          obtain ⟨k, hk, rfl, hok, HB⟩ := hrel
          clear hlt hd2
          by_cases hlt : k < ls.length
          · have hlab0 := HC.out k hlt
            obtain ⟨sv, hlab, hat⟩ := hlab0
            obtain ⟨t0, t1, t2, t3, t4⟩ := hat.below HB.out hg
            have hlf := HF.out _ (List.getElem_mem hlt)
            have N3 := Lib.hid (not_right_level hlt)
            have N2 : Hid (∀ j (hj : j < k), (ls[j]'(by omega)).name = ls[k].name → rightB ls = false) := fun j hj h => not_right_name hlt hj h
            have OKK : Hid (levelB ls[k] (decide (k + 1 = ls.length)) = true → (∀ j, j < k → ∀ h' : j < ls.length, ls[j].name ≠ ls[k].name) → (∀ j, j + 1 = k → ∀ h' : j < ls.length, ls[k].pre ≤ ls[j].pre) → (∀ j, j + 1 = k → ∀ h' : j < ls.length, nestedB ls[j] ls[k] = true) → okR ls (k + 1)) := fun a b c d =>
              ⟨okTo_succ hok.out.1 hlt (HSUM.out (k + 1) hlt) a b c, fun i hi h => by
                by_cases e : i + 1 = k
                · have := d i e (by omega)
                  subst e; exact this
                · exact hok.out.2 i (by omega) h⟩
            have hlevels : Hid (∀ j, j < k → ∀ h' : j < ls.length, levelB ls[j] (decide (j + 1 = ls.length)) = true) := hok.out.1.2.1
            have HPREV : Hid (∀ j, j + 1 = k → levelB ls[k] (decide (k + 1 = ls.length)) = true → ∃ (m : Lev) (sm : Value), RdLabs w sm m.labs ∧ LevAt w g (off + j * 5) m sm ∧ LevFits m ∧ (m.pre < ls[k].pre → rightB ls = false) ∧ (nestedB m ls[k] = false → rightB ls = false) ∧
                (ls[k].pre ≤ m.pre → ∀ W, Below w.heap.size w W → Calls Tryz.prog 52 #[lvA m sm, lvA ls[k] sv] W fun e w' => e = .returned (.bool (nestedB m ls[k])) ∧ Below W.heap.size W w') ∧
                (ls[k].pre ≤ m.pre → nestedB m ls[k] = true → (∀ j, j + 1 = k → ∀ h' : j < ls.length, ls[k].pre ≤ ls[j].pre) ∧ (∀ j, j + 1 = k → ∀ h' : j < ls.length, nestedB ls[j] ls[k] = true))) := fun j hj hlev => by
              have hjl : j < ls.length := by omega
              obtain ⟨sm, hm, hmat⟩ := HC.out j hjl
              obtain ⟨f1, f2, f3, f4⟩ := level_facts (hlevels.out j (by omega) hjl)
              obtain ⟨k1, k2, k3, k4⟩ := level_facts hlev
              refine ⟨ls[j], sm, hm, hmat, HF.out _ (List.getElem_mem hjl), fun h => ?_, fun h => ?_, fun h W hW => rNested_any ls[j] ls[k] sm sv W (HF.out _ (List.getElem_mem hjl)) hlf (hm.below hW) (hlab.below hW) f1 f2 k3 h f4, fun h h' => ⟨fun i hi hi' => ?_, fun i hi hi' => ?_⟩⟩
              · subst hj; exact not_right_pre hlt h
              · subst hj; exact not_right_nest hlt h
              · obtain rfl : i = j := by omega
                exact h
              · obtain rfl : i = j := by omega
                exact h'
            have hlt2 : ((k : Int) == (ls.length : Int) - 1) = decide (k + 1 = ls.length) := by rw [Bool.eq_iff_iff]; simp; omega
            have HLV := Lib.hid (rLevel_any ls[k] sv (decide (k + 1 = ls.length)) wr hlf (hlab.below HB.out))
            have HNM : Hid (∀ j, j < k → ∃ q : ByteArray, w.cell? ⟨g, off + j * 5, none⟩ = some (.string q) ∧ (q = ls[k].name → rightB ls = false) ∧ (q ≠ ls[k].name → ∀ h' : j < ls.length, ls[j].name ≠ ls[k].name)) := fun j hj => by
              obtain ⟨_, _, hm⟩ := HC.out j (by omega)
              exact ⟨_, hm.1, fun h => N2.out j hj h, fun h _ => h⟩
            have hat0 := hat
            obtain ⟨s0, s1, s2, s3, s4⟩ := hat
            have HS0 := Lib.hid s0
            have HAT := Lib.hid hat0
            clear hat0 s0 s1 s2 s3 s4 N2 hlevels hok HSUM hlab hlf
            unfold lvA at HLV HPREV
            have HNAME : Hid (∀ j, j < k + 1 → (∀ i, i < j → ∀ h' : i < ls.length, ls[i].name ≠ ls[k].name) → (∀ h' : j < ls.length, ls[j].name ≠ ls[k].name) → ∀ i, i < j + 1 → ∀ h' : i < ls.length, ls[i].name ≠ ls[k].name) := fun j _ h h2 => upto_succ (P := fun i => ∀ h' : i < ls.length, ls[i].name ≠ ls[k].name) h h2
            generalize decide (k + 1 = ls.length) = lastB at hlt2 N3 OKK HPREV HLV
            obtain ⟨l, hl⟩ : ∃ l, ls[k] = l := ⟨_, rfl⟩
            rw [hl] at t0 t1 t3 t4 N3 OKK HPREV HLV HNM HS0 HAT HNAME
            clear hl HC HF
            have hd : decide ((k : Int) < (ls.length : Int)) = true := decide_eq_true (by omega)
            have hgr : g < wr.heap.size := Nat.lt_of_lt_of_le hg HB.out.size
            have hk1 : 1 ≤ (ls.length : Int) := by omega
            cases hlev : levelB l lastB
            · have HR := Lib.hid (N3.out hlev)
              rw [hlev] at HLV
              clear N3 OKK HPREV HNM HNAME
              go_wp2_with fail
              refine HLV.out.mono ?_
              rintro e w2 ⟨rfl, hb2⟩
              have HB2 := Lib.hid (HB.out.trans (hb2.mono HB.out.size))
              clear hb2
              go_wp2_with fail
              go_ret
              exact ⟨ret_bool HR.out.symm, HB2.out⟩
            · rw [hlev] at HLV
              have OK2 := Lib.hid (OKK.out hlev)
              have HP2 := Lib.hid (fun j hj => HPREV.out j hj hlev)
              clear N3 OKK HPREV hlev
              go_wp2_with fail
              refine HLV.out.mono ?_
              rintro e w2 ⟨rfl, hb2⟩
              have HB2 := Lib.hid (HB.out.trans (hb2.mono HB.out.size))
              clear hb2 HLV t0 t1 t2 t3 t4 HB hgr
              go_wp2_with fail
              go_loopw [6] (fun i wr => ∃ j : Nat, j ≤ k ∧ i = .int .i64 j ∧ Hid (∀ i, i < j → ∀ h' : i < ls.length, ls[i].name ≠ l.name) ∧ Hid (Below w.heap.size w wr)) (fun i _ => k - (intOf i).toNat)
              case atStart => exact ⟨0, Nat.zero_le _, rfl, fun i h => by omega, HB2.out⟩
              case round =>
                obtain ⟨j, hj, rfl, hnm, HB3⟩ := hrel
                clear hlt2
                by_cases hjk : j < k
                · obtain ⟨q, hq, hq1, hq2⟩ := HNM.out j hjk
                  have c1 := cells_in ((HB3.out.cell (p := ⟨g, off + j * 5, none⟩) hg).trans hq)
                  have c2 := cells_in ((HB3.out.cell (p := ⟨g, off + k * 5, none⟩) hg).trans HS0.out)
                  have hdj : decide ((j : Int) < (k : Int)) = true := decide_eq_true (by omega)
                  have hjn : j < ls.length := by omega
                  have hbe := ba_eq q l.name
                  have HBN : Hid (∀ pp : Regrown, Below w.heap.size w (grow (redrawn wr pp.d) pp.os)) := fun pp => HB3.out.trans ((below_in wr pp).mono HB3.out.size)
                  clear HNM hq
                  by_cases he : q = l.name
                  · rw [decide_eq_true he] at hbe
                    have HR := Lib.hid (hq1 he)
                    clear hq1 hq2 hnm he
                    go_wp2_with fail
                    refine wp_region_quiet_below (by kernel_rfl) (by kernel_rfl) ?_
                    repeat (go_big_quiet_step (fail))
                    refine wpQuiet_nil ?_
                    intro _ hw'
                    obtain ⟨pp, hw''⟩ := hw'
                    subst hw''
                    go_wp2_with fail
                    go_ret
                    exact ⟨ret_bool HR.out.symm, HBN.out pp⟩
                  · rw [decide_eq_false he] at hbe
                    have HR := Lib.hid (HNAME.out j (by omega) hnm.out (hq2 he))
                    clear hq1 hq2 hnm he
                    go_wp2_with fail
                    refine wp_region_quiet_below (by kernel_rfl) (by kernel_rfl) ?_
                    repeat (go_big_quiet_step (fail))
                    refine wpQuiet_nil ?_
                    intro _ hw'
                    obtain ⟨pp, hw''⟩ := hw'
                    subst hw''
                    go_wp2_with fail
                    go_roundw
                    case rel => exact ⟨j + 1, by omega, by go_num, HR.out, HBN.out pp⟩
                    case measure => simp [intOf]; omega
                · obtain rfl : j = k := by omega
                  have OK3 := Lib.hid (OK2.out hnm.out)
                  have hdj : decide ((j : Int) < (j : Int)) = false := decide_eq_false (by omega)
                  have HBN : Hid (∀ pp : Regrown, Below w.heap.size w (grow (redrawn wr pp.d) pp.os)) := fun pp => HB3.out.trans ((below_in wr pp).mono HB3.out.size)
                  obtain ⟨t0, t1, t2, t3, t4⟩ := HAT.out.below HB3.out hg
                  have t0 := cells_in t0
                  have t1 := cells_in t1
                  have t2 := cells_in t2
                  have t3 := cells_in t3
                  have t4 := cells_in t4
                  clear hnm OK2 HNM HNAME hj hjk
                  by_cases k0 : 0 < j
                  · obtain ⟨m, sm, hm, hmat, hmf, hm1, hm2, hm3, hm4⟩ := HP2.out (j - 1) (by omega)
                    obtain ⟨p0, p1, p2, p3, p4⟩ := hmat.below HB3.out hg
                    have p0 := cells_in p0
                    have p1 := cells_in p1
                    have p2 := cells_in p2
                    have p3 := cells_in p3
                    have p4 := cells_in p4
                    have HM1 := Lib.hid hm1
                    have HM2 := Lib.hid hm2
                    have HM3 := Lib.hid hm3
                    have HM4 := Lib.hid hm4
                    have hd1 : decide (0 < j) = true := by simpa using k0
                    have hd2 : decide ((0 : Int) < (j : Int)) = true := by simp; omega
                    have hv2 : 0 ≤ (j : Int) - 1 := by omega
                    have hv3 : ((j : Int) - 1).toNat = j - 1 := by omega
                    have hv4 : (j : Int) - 1 < (ls.length : Int) := by omega
                    have hv5 : 1 ≤ j := by omega
                    have hv6 : j - 1 < ls.length := by omega
                    have hv1 : IntKind.i64.wrap ((j : Int) - 1) = (j : Int) - 1 := IntWalk.i64_in _ (by omega)
                    clear hm hmat hmf hm1 hm2 hm3 hm4 HP2
                    by_cases hlp : m.pre < l.pre
                    · have hlp2 : decide (m.pre < l.pre) = true := decide_eq_true hlp
                      have HE := Lib.hid (HM1.out hlp)
                      clear HM1 HM2 HM3 HM4 OK3
                      go_wp2_with fail
                      refine wp_region_quiet_below (by kernel_rfl) (by kernel_rfl) ?_
                      repeat (go_big_quiet_step (fail))
                      refine wpQuiet_nil ?_
                      intro _ hw'
                      obtain ⟨pp, hw''⟩ := hw'
                      subst hw''
                      clear hv1
                      go_wp2_with fail
                      go_ret
                      exact ⟨ret_bool HE.out.symm, HBN.out pp⟩
                    · have hlp2 : decide (m.pre < l.pre) = false := decide_eq_false hlp
                      have hle : l.pre ≤ m.pre := by omega
                      have CN : Hid (∀ W, Below wr.heap.size wr W → Calls Tryz.prog 52 #[.agg #[.string m.name, .int .i64 m.pre, sm, .int .i64 m.min, .int .i64 m.cents], .agg #[.string l.name, .int .i64 l.pre, sv, .int .i64 l.min, .int .i64 l.cents]] W fun e w' => e = .returned (.bool (nestedB m l)) ∧ Below W.heap.size W w') := fun W hW => HM3.out hle W (HB3.out.trans (hW.mono HB3.out.size))
                      have HM5 := Lib.hid (HM4.out hle)
                      generalize nestedB m l = nb at CN HM2 HM5
                      clear HM3 HM4 HM1
                      cases nb
                      · have HE := Lib.hid (HM2.out rfl)
                        clear HM2 HM5 OK3 hlp hle
                        go_wp2_with fail
                        refine wp_region_quiet_below (by kernel_rfl) (by kernel_rfl) ?_
                        repeat (go_big_quiet_step ((with_reducible exact regrown_in CN.out _)))
                        refine wpQuiet_nil ?_
                        intro _ hw'
                        obtain ⟨pp, hw''⟩ := hw'
                        subst hw''
                        clear hv1
                        go_wp2_with fail
                        go_ret
                        exact ⟨ret_bool HE.out.symm, HBN.out pp⟩
                      · have HE := Lib.hid (OK3.out (HM5.out rfl).1 (HM5.out rfl).2)
                        clear HM2 HM5 OK3 hlp hle
                        go_wp2_with fail
                        refine wp_region_quiet_below (by kernel_rfl) (by kernel_rfl) ?_
                        repeat (go_big_quiet_step ((with_reducible exact regrown_in CN.out _)))
                        refine wpQuiet_nil ?_
                        intro _ hw'
                        obtain ⟨pp, hw''⟩ := hw'
                        subst hw''
                        clear hv1
                        go_wp2_with fail
                        go_roundw
                        case rel => exact ⟨j + 1, by omega, by go_num, HE.out, HBN.out pp⟩
                        case measure => simp [intOf]; omega
                  · have hd1 : decide (0 < j) = false := by simp; omega
                    have hd2 : decide ((0 : Int) < (j : Int)) = false := by simp; omega
                    have HE := Lib.hid (OK3.out (fun i hi => by omega) (fun i hi => by omega))
                    clear OK3 HP2
                    go_wp2_with fail
                    refine wp_region_quiet_below (by kernel_rfl) (by kernel_rfl) ?_
                    repeat (go_big_quiet_step (fail))
                    refine wpQuiet_nil ?_
                    intro _ hw'
                    obtain ⟨pp, hw''⟩ := hw'
                    subst hw''
                    go_wp2_with fail
                    go_roundw
                    case rel => exact ⟨j + 1, by omega, by go_num, HE.out, HBN.out pp⟩
                    case measure => simp [intOf]; omega
          · obtain rfl : k = ls.length := by omega
            have HR : Hid (rightB ls = true) := rightB_iff.2 ⟨h1, h6, hok.out.1, fun i hi => hok.out.2 i hi hi⟩
            go_wp2_with fail
            go_ret
            exact ⟨ret_bool HR.out.symm, HB.out⟩
theorem rRight_any (ls : List Lev) (v : Value) (w : World) (hr : RdLevs w v ls) (hf : ∀ l ∈ ls, LevFits l) (hl : ls.length ≤ maxLen) :
    Calls Tryz.prog 30 #[v] w fun e w' => e = .returned (.bool (rightB ls)) ∧ Below w.heap.size w w' := by
  by_cases h : ls.length < 1 ∨ 6 < ls.length
  · exact right_small ls v w (by obtain ⟨a, cap, h, _⟩ := hr; exact ⟨a, cap, h⟩) h hl
  · exact rRight_main ls v w hr hf (by omega) (by omega)
end Go.Proofs.YtpieagaggjngjaaGreat

/-! U5 -/
namespace Go.Proofs.YtpieagaggjngjaaGreat
end Go.Proofs.YtpieagaggjngjaaGreat

/-! U6 -/
namespace Go.Proofs.YtpieagaggjngjaaGreat
open Go.RowKit Go.Sort
set_option linter.unusedVariables false
set_option maxRecDepth 100000
def markB (j : Nat) : ByteArray := ⟨#[35, 1, 0, 0, 47, UInt8.ofNat j, 0, 0]⟩
theorem mark_conv (w : World) (l : List UInt8) (cs : Array Value) (hcs : cs.toList = l.map fun b => .int .u8 (b.toNat : Int)) (n : Nat) (hn : l.length = n) :
    Sem.run Tryz.prog (convert 111 9 (.slice (some ⟨w.heap.size, 0, none⟩) n n)) (w.alloc (.cells cs 5)) = .ok (.string ⟨l.toArray⟩) (w.alloc (.cells cs 5)) := by
  subst hn
  refine run_convert_bytes_back (P := Tryz.prog) _ 111 9 5 ⟨w.heap.size, 0, none⟩ l.length l Tryz.underlying111 Tryz.underlying5 Tryz.underlying9 (fun j hj => ?_)
  have ea : (⟨w.heap.size, 0, none⟩ : Addr).add j = ⟨w.heap.size, j, none⟩ := by unfold Addr.add; split <;> simp_all
  rw [ea, cell_of_row _ w.heap.size j _ _ _ (World.alloc_heap_new w _)]
  have : cs[j]? = cs.toList[j]? := by simp
  rw [this, hcs, List.getElem?_map, List.getElem?_eq_getElem hj]
  rfl
set_option maxHeartbeats 4000000 in
theorem markText_any (j : Nat) (hj : j < 12) (w : World) : Calls Tryz.prog 93 #[.int .i64 1, .int .i64 j] w fun e w' => e = .returned (.string (markB j)) ∧ Below w.heap.size w w' := by
  have hcase : j = 0 ∨ j = 1 ∨ j = 2 ∨ j = 3 ∨ j = 4 ∨ j = 5 ∨ j = 6 ∨ j = 7 ∨ j = 8 ∨ j = 9 ∨ j = 10 ∨ j = 11 := by omega
  rcases hcase with rfl | rfl | rfl | rfl | rfl | rfl | rfl | rfl | rfl | rfl | rfl | rfl
  · have hk := mark_conv w [35, 1, 0, 0, 47, 0, 0, 0] #[.int .u8 35, .int .u8 1, .int .u8 0, .int .u8 0, .int .u8 47, .int .u8 0, .int .u8 0, .int .u8 0] rfl 8 rfl
    go_enter Tryz.func93, Tryz.ntmps93
    go_wp2_with fail
    go_ret
    exact ⟨rfl, (Below.refl _ w).alloc (Nat.le_refl _) _⟩
  · have hk := mark_conv w [35, 1, 0, 0, 47, 1, 0, 0] #[.int .u8 35, .int .u8 1, .int .u8 0, .int .u8 0, .int .u8 47, .int .u8 1, .int .u8 0, .int .u8 0] rfl 8 rfl
    go_enter Tryz.func93, Tryz.ntmps93
    go_wp2_with fail
    go_ret
    exact ⟨rfl, (Below.refl _ w).alloc (Nat.le_refl _) _⟩
  · have hk := mark_conv w [35, 1, 0, 0, 47, 2, 0, 0] #[.int .u8 35, .int .u8 1, .int .u8 0, .int .u8 0, .int .u8 47, .int .u8 2, .int .u8 0, .int .u8 0] rfl 8 rfl
    go_enter Tryz.func93, Tryz.ntmps93
    go_wp2_with fail
    go_ret
    exact ⟨rfl, (Below.refl _ w).alloc (Nat.le_refl _) _⟩
  · have hk := mark_conv w [35, 1, 0, 0, 47, 3, 0, 0] #[.int .u8 35, .int .u8 1, .int .u8 0, .int .u8 0, .int .u8 47, .int .u8 3, .int .u8 0, .int .u8 0] rfl 8 rfl
    go_enter Tryz.func93, Tryz.ntmps93
    go_wp2_with fail
    go_ret
    exact ⟨rfl, (Below.refl _ w).alloc (Nat.le_refl _) _⟩
  · have hk := mark_conv w [35, 1, 0, 0, 47, 4, 0, 0] #[.int .u8 35, .int .u8 1, .int .u8 0, .int .u8 0, .int .u8 47, .int .u8 4, .int .u8 0, .int .u8 0] rfl 8 rfl
    go_enter Tryz.func93, Tryz.ntmps93
    go_wp2_with fail
    go_ret
    exact ⟨rfl, (Below.refl _ w).alloc (Nat.le_refl _) _⟩
  · have hk := mark_conv w [35, 1, 0, 0, 47, 5, 0, 0] #[.int .u8 35, .int .u8 1, .int .u8 0, .int .u8 0, .int .u8 47, .int .u8 5, .int .u8 0, .int .u8 0] rfl 8 rfl
    go_enter Tryz.func93, Tryz.ntmps93
    go_wp2_with fail
    go_ret
    exact ⟨rfl, (Below.refl _ w).alloc (Nat.le_refl _) _⟩
  · have hk := mark_conv w [35, 1, 0, 0, 47, 6, 0, 0] #[.int .u8 35, .int .u8 1, .int .u8 0, .int .u8 0, .int .u8 47, .int .u8 6, .int .u8 0, .int .u8 0] rfl 8 rfl
    go_enter Tryz.func93, Tryz.ntmps93
    go_wp2_with fail
    go_ret
    exact ⟨rfl, (Below.refl _ w).alloc (Nat.le_refl _) _⟩
  · have hk := mark_conv w [35, 1, 0, 0, 47, 7, 0, 0] #[.int .u8 35, .int .u8 1, .int .u8 0, .int .u8 0, .int .u8 47, .int .u8 7, .int .u8 0, .int .u8 0] rfl 8 rfl
    go_enter Tryz.func93, Tryz.ntmps93
    go_wp2_with fail
    go_ret
    exact ⟨rfl, (Below.refl _ w).alloc (Nat.le_refl _) _⟩
  · have hk := mark_conv w [35, 1, 0, 0, 47, 8, 0, 0] #[.int .u8 35, .int .u8 1, .int .u8 0, .int .u8 0, .int .u8 47, .int .u8 8, .int .u8 0, .int .u8 0] rfl 8 rfl
    go_enter Tryz.func93, Tryz.ntmps93
    go_wp2_with fail
    go_ret
    exact ⟨rfl, (Below.refl _ w).alloc (Nat.le_refl _) _⟩
  · have hk := mark_conv w [35, 1, 0, 0, 47, 9, 0, 0] #[.int .u8 35, .int .u8 1, .int .u8 0, .int .u8 0, .int .u8 47, .int .u8 9, .int .u8 0, .int .u8 0] rfl 8 rfl
    go_enter Tryz.func93, Tryz.ntmps93
    go_wp2_with fail
    go_ret
    exact ⟨rfl, (Below.refl _ w).alloc (Nat.le_refl _) _⟩
  · have hk := mark_conv w [35, 1, 0, 0, 47, 10, 0, 0] #[.int .u8 35, .int .u8 1, .int .u8 0, .int .u8 0, .int .u8 47, .int .u8 10, .int .u8 0, .int .u8 0] rfl 8 rfl
    go_enter Tryz.func93, Tryz.ntmps93
    go_wp2_with fail
    go_ret
    exact ⟨rfl, (Below.refl _ w).alloc (Nat.le_refl _) _⟩
  · have hk := mark_conv w [35, 1, 0, 0, 47, 11, 0, 0] #[.int .u8 35, .int .u8 1, .int .u8 0, .int .u8 0, .int .u8 47, .int .u8 11, .int .u8 0, .int .u8 0] rfl 8 rfl
    go_enter Tryz.func93, Tryz.ntmps93
    go_wp2_with fail
    go_ret
    exact ⟨rfl, (Below.refl _ w).alloc (Nat.le_refl _) _⟩

def markLab (j : Nat) : Lab := ⟨⟨#[]⟩, markB j⟩
def markLv (j : Nat) : Lev := ⟨⟨#[]⟩, 0, [], 8000024 + (j : Int), 0⟩
def marksL (k : Nat) : List Lab := (List.range k).map markLab
theorem marksL_succ (k : Nat) : marksL (k + 1) = marksL k ++ [markLab k] := by unfold marksL; rw [List.range_succ]; simp
theorem marksL_len (k : Nat) : (marksL k).length = k := by unfold marksL; simp
theorem markLabel_any (j : Nat) (hj : j < 12) (w : World) : Calls Tryz.prog 69 #[.int .i64 1, .int .i64 j] w fun e w' => e = .returned (.agg #[.string ⟨#[]⟩, .string (markB j)]) ∧ Below w.heap.size w w' := by
  have HM := Lib.hid (fun W => markText_any j hj W)
  generalize markB j = mk at HM
  have hj1 : (j : Int) ≤ 11 := by omega
  have hj0 : (0 : Int) ≤ (j : Int) := by omega
  go_enter Tryz.func69, Tryz.ntmps69
  go_wp2_with fail
  refine (HM.out _).mono ?_
  rintro e w1 ⟨rfl, hb1⟩
  have hz1 : w.heap.size < w1.heap.size := by have := hb1.size; simp at this; omega
  have c0 : w1.cell? ⟨w.heap.size, 0, none⟩ = some (.string ⟨#[]⟩) := (hb1.cell (p := ⟨w.heap.size, 0, none⟩) (by simp)).trans (by simp [go_sem])
  have c1 : w1.cell? ⟨w.heap.size, 1, none⟩ = some (.string ⟨#[]⟩) := (hb1.cell (p := ⟨w.heap.size, 1, none⟩) (by simp)).trans (by simp [go_sem])
  have f0 : w1.frozen? ⟨w.heap.size, 0, none⟩ = false := (hb1.frozen (p := ⟨w.heap.size, 0, none⟩) (by simp)).trans (by simp [go_sem])
  have f1 : w1.frozen? ⟨w.heap.size, 1, none⟩ = false := (hb1.frozen (p := ⟨w.heap.size, 1, none⟩) (by simp)).trans (by simp [go_sem])
  have hB1 : Below w.heap.size w w1 := ((Below.refl _ w).alloc (Nat.le_refl _) _).trans (hb1.mono (by simp))
  clear hb1
  go_wp2_with fail
  exact bodyPost_ret (v := .agg #[.string ⟨#[]⟩, .string mk]) (by simp [results, Tryz.results69, go_sem, c0, c1]) rfl ⟨rfl, (hB1.setCell (p := ⟨w.heap.size, 0, none⟩) (Nat.le_refl _) _).setCell (p := ⟨w.heap.size, 1, none⟩) (Nat.le_refl _) _⟩
def markLvV (j : Nat) : Value := .agg #[.string ⟨#[]⟩, .int .i64 0, .slice none 0 0, .int .i64 (8000024 + (j : Int)), .int .i64 0]
theorem mark_any (j : Nat) (hj : j < 12) (w : World) : Calls Tryz.prog 29 #[.int .i64 1, .int .i64 j] w fun e w' => e = .returned (.int .i64 (8000024 + (j : Int))) ∧ w = w' := by
  have hj1 : (j : Int) ≤ 11 := by omega
  have hj0 : (0 : Int) ≤ (j : Int) := by omega
  go_enter Tryz.func29, Tryz.ntmps29
  go_wp2_with fail
  go_ret
  exact ⟨rfl, rfl⟩
theorem markLevel_any (j : Nat) (hj : j < 12) (w : World) : Calls Tryz.prog 28 #[.int .i64 1, .int .i64 j] w fun e w' => e = .returned (markLvV j) ∧ Below w.heap.size w w' := by
  have HM := Lib.hid (fun W => mark_any j hj W)
  unfold markLvV
  generalize 8000024 + (j : Int) = mk at HM ⊢
  have hj1 : (j : Int) ≤ 11 := by omega
  have hj0 : (0 : Int) ≤ (j : Int) := by omega
  go_enter Tryz.func28, Tryz.ntmps28
  go_wp2_with fail
  refine (HM.out _).mono ?_
  rintro e w1 ⟨rfl, rfl⟩
  go_wp2_with fail
  exact bodyPost_ret (v := .agg #[.string ⟨#[]⟩, .int .i64 0, .slice none 0 0, .int .i64 mk, .int .i64 0]) (by simp [results, Tryz.results28, go_sem]) rfl ⟨rfl, (Below.refl _ w).alloc (Nat.le_refl _) _⟩
end Go.Proofs.YtpieagaggjngjaaGreat

/-! U7 -/
namespace Go.Proofs.YtpieagaggjngjaaGreat
open Go.RowKit Go.Sort
set_option linter.unusedVariables false
set_option maxRecDepth 100000
/-- A slice that is nil has no room. -/
def NilOk (v : Value) : Prop := ∀ l c, v = .slice none l c → l = 0 ∧ c = 0
/-- A lent slice of labels: the labels, and twelve marks behind them. -/
def LentLab (W : World) (base : Nat) (v : Value) (labs : List Lab) : Prop :=
  ∃ g, v = .slice (some ⟨g, 0, none⟩) labs.length (labs.length + 12) ∧ base ≤ g ∧ g < W.heap.size ∧ ∀ i (h : i < (labs ++ marksL 12).length), W.cell? ⟨g, i * 2, none⟩ = some (.string (labs ++ marksL 12)[i].pre) ∧ W.cell? ⟨g, i * 2 + 1, none⟩ = some (.string (labs ++ marksL 12)[i].grp)
theorem LentLab.grown {W W' : World} {base C : Nat} {v : Value} {labs : List Lab} (h : LentLab W base v labs) (hg : W.grownBy W' (some C)) (hC : C < base) : LentLab W' base v labs := by
  obtain ⟨g, rfl, h1, h2, h3⟩ := h
  exact ⟨g, rfl, h1, Nat.lt_of_lt_of_le h2 hg.size, fun i hi => ⟨hg.cell (h3 i hi).1 (by simp; omega), hg.cell (h3 i hi).2 (by simp; omega)⟩⟩
theorem LentLab.below {W W' : World} {base : Nat} {v : Value} {labs : List Lab} (h : LentLab W base v labs) (hb : Below W.heap.size W W') : LentLab W' base v labs := by
  obtain ⟨g, rfl, h1, h2, h3⟩ := h
  exact ⟨g, rfl, h1, Nat.lt_of_lt_of_le h2 hb.size, fun i hi => ⟨(hb.cell (p := ⟨g, i * 2, none⟩) h2).trans (h3 i hi).1, (hb.cell (p := ⟨g, i * 2 + 1, none⟩) h2).trans (h3 i hi).2⟩⟩
theorem LentLab.mono {W : World} {base base' : Nat} {v : Value} {labs : List Lab} (h : LentLab W base v labs) (hb : base' ≤ base) : LentLab W base' v labs := by
  obtain ⟨g, rfl, h1, h2, h3⟩ := h
  exact ⟨g, rfl, by omega, h2, h3⟩
theorem LentLab.reads {W : World} {base : Nat} {v : Value} {labs : List Lab} (h : LentLab W base v labs) : RdLabs W v labs := by
  obtain ⟨g, rfl, h1, h2, h3⟩ := h
  refine ⟨_, _, rfl, fun h0 => ⟨g, 0, rfl, h2, fun i hi => ?_⟩⟩
  have := h3 i (by rw [List.length_append]; omega)
  rw [List.getElem_append_left hi] at this
  rw [Nat.zero_add]
  exact this
theorem lab_cells {w w1 : World} {a : Option Addr} {labs : List Lab} (hc : 0 < labs.length → ∃ g off, a = some ⟨g, off, none⟩ ∧ g < w.heap.size ∧ ∀ i (h : i < labs.length), w.cell? ⟨g, off + i * 2, none⟩ = some (.string labs[i].pre) ∧ w.cell? ⟨g, off + i * 2 + 1, none⟩ = some (.string labs[i].grp)) (hB : Below w.heap.size w w1) :
    ∀ ad, a = some ad → ∀ j u, (labs.flatMap labCell)[j]? = some u → w1.cell? (ad.add j) = some u := by
  intro ad had j u hu
  have hlen : (labs.flatMap labCell).length = labs.length * 2 := by
    clear hc hu
    induction labs with
    | nil => rfl
    | cons x r ih => rw [List.flatMap_cons, List.length_append, ih, List.length_cons]; show 2 + _ = _; omega
  have hj : j < labs.length * 2 := by
    have := (List.getElem?_eq_some_iff.1 hu).1
    omega
  obtain ⟨k, r, hr, rfl⟩ : ∃ k r, r < 2 ∧ j = k * 2 + r := ⟨j / 2, j % 2, by omega, by omega⟩
  have hk : k < labs.length := by omega
  obtain ⟨g, off, e, hg, hcc⟩ := hc (by omega)
  rw [e] at had
  obtain rfl := Option.some.inj had
  rw [labCells_get labs k r hk hr] at hu
  have ea : (⟨g, off, none⟩ : Addr).add (k * 2 + r) = ⟨g, off + (k * 2 + r), none⟩ := by unfold Addr.add; split <;> simp_all
  rw [ea]
  refine (hB.cell (p := ⟨g, off + (k * 2 + r), none⟩) hg).trans ?_
  have : r = 0 ∨ r = 1 := by omega
  rcases this with rfl | rfl
  · rw [Nat.add_zero, (hcc k hk).1]; exact hu
  · rw [← Nat.add_assoc, (hcc k hk).2]; exact hu
theorem lab_one (labs : List Lab) : ∀ u ∈ labs.flatMap labCell, u.oneCell' = true := by
  intro u hu
  obtain ⟨x, _, hx⟩ := List.mem_flatMap.1 hu
  rcases List.mem_cons.1 hx with rfl | hx
  · rfl
  · rcases List.mem_cons.1 hx with rfl | hx
    · rfl
    · cases hx
theorem lab_len (labs : List Lab) : (labs.flatMap labCell).length = labs.length * 2 := by
  induction labs with
  | nil => rfl
  | cons x r ih => rw [List.flatMap_cons, List.length_append, ih, List.length_cons]; show 2 + _ = _; omega
set_option maxHeartbeats 8000000 in
theorem lentLabels_any (labs : List Lab) (v : Value) (w : World) (hr : RdLabs w v labs) (hnil : NilOk v) (hl : labs.length ≤ 100000) :
    Calls Tryz.prog 50 #[v] w fun e w' => ∃ u, e = .returned u ∧ LentLab w' w.heap.size u labs ∧ Below w.heap.size w w' := by
  obtain ⟨a, cap, rfl, hc⟩ := hr
  obtain ⟨i0, hi⟩ := info_parts Tryz.infoB
  have HI := Lib.hid hi
  have HC := Lib.hid hc
  have HNIL := Lib.hid hnil
  have HL := Lib.hid (lab_len labs)
  clear hi hc hnil
  go_enter Tryz.func50, Tryz.ntmps50
  go_wp2_with (first
    | (at_make; refine wpList_make_own _ rfl _ _ 47 rfl w.heap.size 95 i0 (.agg #[.string ⟨#[]⟩, .string ⟨#[]⟩]) 2 Tryz.underlying47 HI.out.1 HI.out.2.1 HI.out.2.2.1 _ _ _ (labs.length + 12) rfl (by first | rfl | simp) rfl (by rw [HI.out.2.2.2]; omega) (by unfold maxLen; omega) (Nat.le_refl _) ?_; intro w1 hown hgrow; have hB : Below w.heap.size w w1 := (Below.refl _ w).grown hgrow (Nat.le_refl _) (fun _ e => by cases e); clear hgrow)
    | (at_builtin; refine wpList_append_fits_any w1 rfl _ _ 47 rfl w.heap.size 95 i0 2 Tryz.underlying47 HI.out.1 HI.out.2.2.1 w.heap.size 0 (labs.length + 12) [] rfl hown a labs.length cap (labs.flatMap labCell) rfl HL.out (fun e => HNIL.out _ _ (by rw [e])) (lab_cells HC.out hB) (lab_one labs) (by omega) ?_; intro w2 hown2 hgrow2; replace hB : Below w.heap.size w w2 := hB.grown hgrow2 hB.size (fun r e => by cases e; exact Nat.le_refl _); clear hown hgrow2))
  rw [Nat.zero_add, List.nil_append] at hown2
  go_loopw [3, 4] (fun x i wr => ∃ k : Nat, k ≤ 12 ∧ i = .int .i64 k ∧ x = .slice (some ⟨w.heap.size, 0, none⟩) (labs.length + k) (labs.length + 12) ∧ Below w.heap.size w wr ∧ wr.ownsRow w.heap.size 95 2 (.slice (some ⟨w.heap.size, 0, none⟩) (labs.length + k) (labs.length + 12)) (labs.length + k) ((labs ++ marksL k).flatMap labCell)) (fun _ i _ => 12 - (intOf i).toNat)
  case atStart => exact ⟨0, Nat.zero_le _, rfl, by simp, hB, by simpa [marksL] using hown2⟩
  case round =>
    clear hB hown2
    obtain ⟨k, hk, rfl, rfl, hB, hown⟩ := hrel
    by_cases hlt : k < 12
    · have HSU : Hid ((labs ++ marksL (k + 1)).flatMap labCell = (labs ++ marksL k).flatMap labCell ++ [.string ⟨#[]⟩, .string (markB k)]) := by
        show _ = _
        rw [marksL_succ, ← List.append_assoc, List.flatMap_append]
        rfl
      have hmt := fun W => markLabel_any k hlt W
      generalize markB k = mk at HSU hmt
      have HMT := Lib.hid hmt
      clear hmt
      go_wp2_with (first
        | (go_at_call 69; refine (HMT.out _).mono ?_; rintro e w3 ⟨rfl, hb3⟩; replace hown := hown.kept (grown_none hb3) (Classical.em _); replace hB := hB.trans (hb3.mono hB.size); clear hb3)
        | (at_builtin; refine wpList_append_fits _ rfl _ _ 47 rfl w.heap.size 95 i0 2 Tryz.underlying47 HI.out.1 HI.out.2.2.1 w.heap.size (labs.length + k) (labs.length + 12) _ rfl (hown.alloc _) ⟨w3.heap.size, 0, none⟩ 1 1 [.string ⟨#[]⟩, .string mk] rfl rfl (cells_new _ _ _) (by simp [Value.oneCell']) (by omega) ?_; intro w4 hown4 hgrow4))
      have hb4 : Below w.heap.size w w4 := (hB.alloc hB.size _).grown hgrow4 (by have := hB.size; simp; omega) (fun r e => by cases e; exact Nat.le_refl _)
      clear hgrow4
      go_roundw
      case rel => exact ⟨k + 1, by omega, by go_num, by rw [Nat.add_assoc], hb4, by rw [HSU.out, ← Nat.add_assoc]; exact hown4⟩
      case measure => simp [intOf]; omega
    · obtain rfl : k = 12 := by omega
      have hbw := (hown.lt w.heap.size rfl).2
      have HO := Lib.hid hown
      go_wp2_with fail
      go_ret
      refine ⟨_, rfl, ⟨w.heap.size, rfl, Nat.le_refl _, hbw, fun i h => ?_⟩, hB⟩
      have hm := marksL_len 12
      have h' : i < labs.length + 12 := by rw [List.length_append, hm] at h; exact h
      constructor
      · rw [HO.out.cellAt _ (by omega), show i * 2 = i * 2 + 0 from rfl, labCells_get (labs ++ marksL 12) i 0 h (by omega)]; rfl
      · rw [HO.out.cellAt _ (by omega), labCells_get (labs ++ marksL 12) i 1 h (by omega)]; rfl
set_option maxHeartbeats 4000000 in
theorem lentLevel_any (l : Lev) (v : Value) (w : World) (hr : RdLabs w v l.labs) (hnil : NilOk v) (hl : l.labs.length ≤ 100000) :
    Calls Tryz.prog 27 #[lvA l v] w fun e w' => ∃ u, e = .returned (lvA l u) ∧ LentLab w' w.heap.size u l.labs ∧ Below w.heap.size w w' := by
  obtain ⟨a, cap, rfl, hc⟩ := hr
  have HLL : Hid (∀ W, Below w.heap.size w W → Calls Tryz.prog 50 #[.slice a l.labs.length cap] W fun e w' => ∃ u, e = .returned u ∧ LentLab w' W.heap.size u l.labs ∧ Below W.heap.size W w') := fun W hW =>
    lentLabels_any l.labs _ W (RdLabs.below ⟨a, cap, rfl, hc⟩ hW) hnil hl
  have HB : Hid (∀ o1 o2, Below w.heap.size w ((w.alloc o1).alloc o2)) := fun o1 o2 => ((Below.refl _ w).alloc (Nat.le_refl _) _).alloc (by simp) _
  unfold lvA
  clear hc hnil hl
  go_enter Tryz.func27, Tryz.ntmps27
  go_wp2_with fail
  refine (HLL.out _ (HB.out _ _)).mono ?_
  rintro e w1 ⟨u, rfl, hu, hb1⟩
  have hz2 : ((w.alloc (.cells #[.string l.name, .int .i64 l.pre, .slice a l.labs.length cap, .int .i64 l.min, .int .i64 l.cents] 49)).alloc (.cells #[.string ⟨#[]⟩, .int .i64 0, .slice none 0 0, .int .i64 0, .int .i64 0] 49)).heap.size = w.heap.size + 2 := by simp
  have hz1 : w.heap.size + 2 ≤ w1.heap.size := by have := hb1.size; omega
  have hzl : (w.alloc (.cells #[.string l.name, .int .i64 l.pre, .slice a l.labs.length cap, .int .i64 l.min, .int .i64 l.cents] 49)).heap.size = w.heap.size + 1 := by simp
  have c00 : w1.cell? ⟨w.heap.size, 0, none⟩ = some (.string l.name) := (hb1.cell (p := ⟨w.heap.size, 0, none⟩) (by rw [hz2]; show w.heap.size < w.heap.size + 2; omega)).trans ((cell_alloc_old (.cells #[.string ⟨#[]⟩, .int .i64 0, .slice none 0 0, .int .i64 0, .int .i64 0] 49) (W := w.alloc (.cells #[.string l.name, .int .i64 l.pre, .slice a l.labs.length cap, .int .i64 l.min, .int .i64 l.cents] 49)) (b := w.heap.size) (i := 0) (by omega)).trans (by rw [World.cell?_alloc_new]; rfl))
  have f00 : w1.frozen? ⟨w.heap.size, 0, none⟩ = false := (hb1.frozen (p := ⟨w.heap.size, 0, none⟩) (by rw [hz2]; show w.heap.size < w.heap.size + 2; omega)).trans (by simp [go_sem])
  have c01 : w1.cell? ⟨w.heap.size, 1, none⟩ = some (.int .i64 l.pre) := (hb1.cell (p := ⟨w.heap.size, 1, none⟩) (by rw [hz2]; show w.heap.size < w.heap.size + 2; omega)).trans ((cell_alloc_old (.cells #[.string ⟨#[]⟩, .int .i64 0, .slice none 0 0, .int .i64 0, .int .i64 0] 49) (W := w.alloc (.cells #[.string l.name, .int .i64 l.pre, .slice a l.labs.length cap, .int .i64 l.min, .int .i64 l.cents] 49)) (b := w.heap.size) (i := 1) (by omega)).trans (by rw [World.cell?_alloc_new]; rfl))
  have f01 : w1.frozen? ⟨w.heap.size, 1, none⟩ = false := (hb1.frozen (p := ⟨w.heap.size, 1, none⟩) (by rw [hz2]; show w.heap.size < w.heap.size + 2; omega)).trans (by simp [go_sem])
  have c02 : w1.cell? ⟨w.heap.size, 2, none⟩ = some (.slice a l.labs.length cap) := (hb1.cell (p := ⟨w.heap.size, 2, none⟩) (by rw [hz2]; show w.heap.size < w.heap.size + 2; omega)).trans ((cell_alloc_old (.cells #[.string ⟨#[]⟩, .int .i64 0, .slice none 0 0, .int .i64 0, .int .i64 0] 49) (W := w.alloc (.cells #[.string l.name, .int .i64 l.pre, .slice a l.labs.length cap, .int .i64 l.min, .int .i64 l.cents] 49)) (b := w.heap.size) (i := 2) (by omega)).trans (by rw [World.cell?_alloc_new]; rfl))
  have f02 : w1.frozen? ⟨w.heap.size, 2, none⟩ = false := (hb1.frozen (p := ⟨w.heap.size, 2, none⟩) (by rw [hz2]; show w.heap.size < w.heap.size + 2; omega)).trans (by simp [go_sem])
  have c03 : w1.cell? ⟨w.heap.size, 3, none⟩ = some (.int .i64 l.min) := (hb1.cell (p := ⟨w.heap.size, 3, none⟩) (by rw [hz2]; show w.heap.size < w.heap.size + 2; omega)).trans ((cell_alloc_old (.cells #[.string ⟨#[]⟩, .int .i64 0, .slice none 0 0, .int .i64 0, .int .i64 0] 49) (W := w.alloc (.cells #[.string l.name, .int .i64 l.pre, .slice a l.labs.length cap, .int .i64 l.min, .int .i64 l.cents] 49)) (b := w.heap.size) (i := 3) (by omega)).trans (by rw [World.cell?_alloc_new]; rfl))
  have f03 : w1.frozen? ⟨w.heap.size, 3, none⟩ = false := (hb1.frozen (p := ⟨w.heap.size, 3, none⟩) (by rw [hz2]; show w.heap.size < w.heap.size + 2; omega)).trans (by simp [go_sem])
  have c04 : w1.cell? ⟨w.heap.size, 4, none⟩ = some (.int .i64 l.cents) := (hb1.cell (p := ⟨w.heap.size, 4, none⟩) (by rw [hz2]; show w.heap.size < w.heap.size + 2; omega)).trans ((cell_alloc_old (.cells #[.string ⟨#[]⟩, .int .i64 0, .slice none 0 0, .int .i64 0, .int .i64 0] 49) (W := w.alloc (.cells #[.string l.name, .int .i64 l.pre, .slice a l.labs.length cap, .int .i64 l.min, .int .i64 l.cents] 49)) (b := w.heap.size) (i := 4) (by omega)).trans (by rw [World.cell?_alloc_new]; rfl))
  have f04 : w1.frozen? ⟨w.heap.size, 4, none⟩ = false := (hb1.frozen (p := ⟨w.heap.size, 4, none⟩) (by rw [hz2]; show w.heap.size < w.heap.size + 2; omega)).trans (by simp [go_sem])
  have c10 : w1.cell? ⟨w.heap.size + 1, 0, none⟩ = some (.string ⟨#[]⟩) := (hb1.cell (p := ⟨w.heap.size + 1, 0, none⟩) (by rw [hz2]; show w.heap.size + 1 < w.heap.size + 2; omega)).trans (by rw [← hzl, World.cell?_alloc_new]; rfl)
  have f10 : w1.frozen? ⟨w.heap.size + 1, 0, none⟩ = false := (hb1.frozen (p := ⟨w.heap.size + 1, 0, none⟩) (by rw [hz2]; show w.heap.size + 1 < w.heap.size + 2; omega)).trans (by simp [go_sem])
  have c11 : w1.cell? ⟨w.heap.size + 1, 1, none⟩ = some (.int .i64 0) := (hb1.cell (p := ⟨w.heap.size + 1, 1, none⟩) (by rw [hz2]; show w.heap.size + 1 < w.heap.size + 2; omega)).trans (by rw [← hzl, World.cell?_alloc_new]; rfl)
  have f11 : w1.frozen? ⟨w.heap.size + 1, 1, none⟩ = false := (hb1.frozen (p := ⟨w.heap.size + 1, 1, none⟩) (by rw [hz2]; show w.heap.size + 1 < w.heap.size + 2; omega)).trans (by simp [go_sem])
  have c12 : w1.cell? ⟨w.heap.size + 1, 2, none⟩ = some (.slice none 0 0) := (hb1.cell (p := ⟨w.heap.size + 1, 2, none⟩) (by rw [hz2]; show w.heap.size + 1 < w.heap.size + 2; omega)).trans (by rw [← hzl, World.cell?_alloc_new]; rfl)
  have f12 : w1.frozen? ⟨w.heap.size + 1, 2, none⟩ = false := (hb1.frozen (p := ⟨w.heap.size + 1, 2, none⟩) (by rw [hz2]; show w.heap.size + 1 < w.heap.size + 2; omega)).trans (by simp [go_sem])
  have c13 : w1.cell? ⟨w.heap.size + 1, 3, none⟩ = some (.int .i64 0) := (hb1.cell (p := ⟨w.heap.size + 1, 3, none⟩) (by rw [hz2]; show w.heap.size + 1 < w.heap.size + 2; omega)).trans (by rw [← hzl, World.cell?_alloc_new]; rfl)
  have f13 : w1.frozen? ⟨w.heap.size + 1, 3, none⟩ = false := (hb1.frozen (p := ⟨w.heap.size + 1, 3, none⟩) (by rw [hz2]; show w.heap.size + 1 < w.heap.size + 2; omega)).trans (by simp [go_sem])
  have c14 : w1.cell? ⟨w.heap.size + 1, 4, none⟩ = some (.int .i64 0) := (hb1.cell (p := ⟨w.heap.size + 1, 4, none⟩) (by rw [hz2]; show w.heap.size + 1 < w.heap.size + 2; omega)).trans (by rw [← hzl, World.cell?_alloc_new]; rfl)
  have f14 : w1.frozen? ⟨w.heap.size + 1, 4, none⟩ = false := (hb1.frozen (p := ⟨w.heap.size + 1, 4, none⟩) (by rw [hz2]; show w.heap.size + 1 < w.heap.size + 2; omega)).trans (by simp [go_sem])
  have hB1 : Below w.heap.size w w1 := (HB.out _ _).trans (hb1.mono (by rw [hz2]; omega))
  rw [hz2] at hu
  have HU := Lib.hid hu
  obtain ⟨g, hg, hgb, hgl, hgc⟩ := hu
  subst hg
  clear hb1 hgc
  go_wp2_with fail
  have hset : ∀ {W : World} {o : Nat} {b : Nat} {x : Value}, LentLab W (w.heap.size + 2) (.slice (some ⟨g, 0, none⟩) l.labs.length (l.labs.length + 12)) l.labs → b < w.heap.size + 2 → LentLab (W.setCell ⟨b, o, none⟩ x) (w.heap.size + 2) (.slice (some ⟨g, 0, none⟩) l.labs.length (l.labs.length + 12)) l.labs := fun h hb => h.grown (set_grown _ _ _) hb
  have hx : w.heap.size < w.heap.size + 2 := by omega
  have hy : w.heap.size + 1 < w.heap.size + 2 := by omega
  have hbs : ∀ {W : World} {o : Nat} {b : Nat} {x : Value}, Below w.heap.size w W → w.heap.size ≤ b → Below w.heap.size w (W.setCell ⟨b, o, none⟩ x) := fun h hb => h.setCell (p := ⟨_, _, none⟩) hb _
  have hz : w.heap.size ≤ w.heap.size + 1 := by omega
  exact bodyPost_ret (v := .agg #[.string l.name, .int .i64 l.pre, .slice (some ⟨g, 0, none⟩) l.labs.length (l.labs.length + 12), .int .i64 l.min, .int .i64 l.cents])
    (by simp [results, Tryz.results27, go_sem, c10, c11, c12, c13, c14]) rfl
    ⟨_, rfl, (hset (hset (hset (hset (hset (hset HU.out hx) hy) hy) hy) hy) hy).mono (by omega), hbs (hbs (hbs (hbs (hbs (hbs hB1 (Nat.le_refl _)) hz) hz) hz) hz) hz⟩
end Go.Proofs.YtpieagaggjngjaaGreat

/-! U8 -/
namespace Go.Proofs.YtpieagaggjngjaaGreat
open Go.RowKit Go.Sort
set_option linter.unusedVariables false
set_option maxRecDepth 100000
/-- A slice reads as levels; nil slices in it have no room. -/
def RdLevN (w : World) (v : Value) (ls : List Lev) : Prop :=
  ∃ a cap, v = .slice a ls.length cap ∧ (0 < ls.length → ∃ g off, a = some ⟨g, off, none⟩ ∧ g < w.heap.size ∧ ∀ i (h : i < ls.length), ∃ sv, RdLabs w sv ls[i].labs ∧ NilOk sv ∧ LevAt w g (off + i * 5) ls[i] sv)
theorem RdLevN.reads {w : World} {v : Value} {ls : List Lev} (h : RdLevN w v ls) : RdLevs w v ls := by
  obtain ⟨a, cap, rfl, hc⟩ := h
  exact ⟨a, cap, rfl, fun h0 => by
    obtain ⟨g, off, e, hg, hcc⟩ := hc h0
    exact ⟨g, off, e, hg, fun i h => by
      obtain ⟨sv, a1, _, a3⟩ := hcc i h
      exact ⟨sv, a1, a3⟩⟩⟩
/-- A lent slice of levels: each with labels of its own, and twelve marks behind them. -/
def LentLevs (W : World) (base : Nat) (v : Value) (ls : List Lev) : Prop :=
  ∃ g, v = .slice (some ⟨g, 0, none⟩) ls.length (ls.length + 12) ∧ base ≤ g ∧ g < W.heap.size ∧ (∀ i (h : i < ls.length), ∃ sv, LentLab W base sv ls[i].labs ∧ LevAt W g (i * 5) ls[i] sv) ∧ ∀ j, j < 12 → LevAt W g ((ls.length + j) * 5) (markLv j) (.slice none 0 0)
theorem LentLevs.below {W W' : World} {base : Nat} {v : Value} {ls : List Lev} (h : LentLevs W base v ls) (hb : Below W.heap.size W W') : LentLevs W' base v ls := by
  obtain ⟨g, rfl, h1, h2, h3, h4⟩ := h
  exact ⟨g, rfl, h1, Nat.lt_of_lt_of_le h2 hb.size, fun i hi => by
    obtain ⟨sv, a, b⟩ := h3 i hi
    exact ⟨sv, a.below hb, b.below hb h2⟩, fun j hj => (h4 j hj).below hb h2⟩
theorem LentLevs.reads {W : World} {base : Nat} {v : Value} {ls : List Lev} (h : LentLevs W base v ls) : RdLevs W v ls := by
  obtain ⟨g, rfl, h1, h2, h3, h4⟩ := h
  exact ⟨_, _, rfl, fun h0 => ⟨g, 0, rfl, h2, fun i hi => by
    obtain ⟨sv, a, b⟩ := h3 i hi
    exact ⟨sv, a.reads, by rw [Nat.zero_add]; exact b⟩⟩⟩
def mkP (j : Nat) : Lev × Value := (markLv j, .slice none 0 0)
def marksP (k : Nat) : List (Lev × Value) := (List.range k).map mkP
theorem marksP_succ (k : Nat) : marksP (k + 1) = marksP k ++ [mkP k] := by unfold marksP; rw [List.range_succ]; simp
theorem marksP_len (k : Nat) : (marksP k).length = k := by unfold marksP; simp
theorem marksP_at (n : Nat) (h : n < (marksP 12).length) : (marksP 12)[n] = mkP n := by simp [marksP]
theorem cells_newN (W : World) (n : Nat) (hn : n = W.heap.size) (cs : List Value) (T : TypeId) : ∀ j u, cs[j]? = some u → (W.alloc (.cells cs.toArray T)).cell? ((⟨n, 0, none⟩ : Addr).add j) = some u := by subst hn; exact cells_new W cs T
theorem lev_at_row {W : World} {base g n cap : Nat} {L : List (Lev × Value)} (ho : W.ownsRow base 49 5 (.slice (some ⟨g, 0, none⟩) n cap) n (L.flatMap lCell)) (hn : L.length = n) {i : Nat} (hi : i < n) : LevAt W g (i * 5) (L[i]'(by omega)).1 (L[i]'(by omega)).2 := by
  have hi' : i < L.length := by omega
  refine ⟨?_, ?_, ?_, ?_, ?_⟩
  · rw [ho.cellAt _ (by omega), show i * 5 = i * 5 + 0 from rfl, lCells_get L i 0 hi' (by omega)]; rfl
  · rw [ho.cellAt _ (by omega), lCells_get L i 1 hi' (by omega)]; rfl
  · rw [ho.cellAt _ (by omega), lCells_get L i 2 hi' (by omega)]; rfl
  · rw [ho.cellAt _ (by omega), lCells_get L i 3 hi' (by omega)]; rfl
  · rw [ho.cellAt _ (by omega), lCells_get L i 4 hi' (by omega)]; rfl
set_option maxHeartbeats 8000000 in
theorem lentLevels_any (ls : List Lev) (v : Value) (w : World) (hr : RdLevN w v ls) (hf : ∀ l ∈ ls, l.labs.length ≤ 100000) (hl : ls.length ≤ 1000) :
    Calls Tryz.prog 14 #[v] w fun e w' => ∃ u, e = .returned u ∧ LentLevs w' w.heap.size u ls ∧ Below w.heap.size w w' := by
  obtain ⟨a, cap, rfl, hc⟩ := hr
  obtain ⟨i0, hi⟩ := info_parts Tryz.infoL
  have HI := Lib.hid hi
  have HC := Lib.hid hc
  have HF := Lib.hid hf
  clear hi hc hf
  go_enter Tryz.func14, Tryz.ntmps14
  go_wp2_with (at_make; refine wpList_make_own _ rfl _ _ 22 rfl w.heap.size 49 i0 (.agg #[.string ⟨#[]⟩, .int .i64 0, .slice none 0 0, .int .i64 0, .int .i64 0]) 5 Tryz.underlying22 HI.out.1 HI.out.2.1 HI.out.2.2.1 _ _ _ (ls.length + 12) rfl (by first | rfl | simp) rfl (by rw [HI.out.2.2.2]; omega) (by unfold maxLen; omega) (Nat.le_refl _) ?_; intro w1 hown hgrow; have hB : Below w.heap.size w w1 := (Below.refl _ w).grown hgrow (Nat.le_refl _) (fun _ e => by cases e); clear hgrow)
  go_loopw [3, 4] (fun x i wr => ∃ (k : Nat) (L : List (Lev × Value)), k ≤ ls.length ∧ i = .int .i64 k ∧ x = .slice (some ⟨w.heap.size, 0, none⟩) k (ls.length + 12) ∧ Hid (L.map Prod.fst = ls.take k) ∧ Hid (∀ p ∈ L, LentLab wr (w.heap.size + 1) p.2 p.1.labs) ∧ Below w.heap.size w wr ∧ wr.ownsRow w.heap.size 49 5 (.slice (some ⟨w.heap.size, 0, none⟩) k (ls.length + 12)) k (L.flatMap lCell)) (fun _ i _ => ls.length - (intOf i).toNat)
  case atStart => exact ⟨0, [], Nat.zero_le _, rfl, rfl, by show _ = _; simp, (fun p hp => by cases hp), hB, hown⟩
  case round =>
    clear hB hown
    obtain ⟨k, L, hk, rfl, rfl, HL, HLB, hB, hown⟩ := hrel
    have hbw := (hown.lt w.heap.size rfl).2
    by_cases hlt : k < ls.length
    · obtain ⟨g, off, rfl, hg, hcc⟩ := HC.out (by omega)
      obtain ⟨sv, hlab, hnil, hat⟩ := hcc k hlt
      obtain ⟨t0, t1, t2, t3, t4⟩ := hat.below hB hg
      have HLV := Lib.hid (lentLevel_any ls[k] sv wr (hlab.below hB) hnil (HF.out _ (List.getElem_mem hlt)))
      have HL2 : Hid (∀ u, (L ++ [(ls[k], u)]).map Prod.fst = ls.take (k + 1)) := fun u => by rw [List.map_append, HL.out, List.take_succ_eq_append_getElem hlt]; rfl
      have hgr : g < wr.heap.size := by omega
      have hd : decide ((k : Int) < (ls.length : Int)) = true := decide_eq_true (by omega)
      unfold lvA at HLV
      generalize ls[k] = l at t0 t1 t2 t3 t4 HLV HL2
      clear hcc hlab hnil hat HC HF
      go_wp2_with (first
        | (go_at_call 27; refine HLV.out.mono ?_; rintro e w3 ⟨u, rfl, hu, hb3⟩; have HU := Lib.hid hu; obtain ⟨gu, hgu, hgb, hgl, hgc⟩ := hu; subst hgu; clear hgc; replace hown := hown.kept (grown_none hb3) (Classical.em _); replace hB := hB.trans (hb3.mono hB.size); have HB3 := Lib.hid hb3; clear hb3)
        | (at_builtin; refine wpList_append_fits _ rfl _ _ 22 rfl w.heap.size 49 i0 5 Tryz.underlying22 HI.out.1 HI.out.2.2.1 w.heap.size k (ls.length + 12) _ rfl ((hown.alloc _).alloc _) ⟨w3.heap.size + 1, 0, none⟩ 1 1 [.string l.name, .int .i64 l.pre, .slice (some ⟨gu, 0, none⟩) l.labs.length (l.labs.length + 12), .int .i64 l.min, .int .i64 l.cents] rfl rfl (cells_newN _ _ (by simp) _ _) (by simp [Value.oneCell']) (by omega) ?_; intro w4 hown4 hgrow4))
      have hb4 : Below w.heap.size w w4 := ((hB.alloc hB.size _).alloc (by have := hB.size; simp; omega) _).grown hgrow4 (by have := hB.size; simp; omega) (fun r e => by cases e; exact Nat.le_refl _)
      have hkeep : ∀ {x : Value} {labs : List Lab}, LentLab w3 (w.heap.size + 1) x labs → LentLab w4 (w.heap.size + 1) x labs := fun h =>
        ((h.below ((Below.refl _ w3).alloc (Nat.le_refl _) _)).below ((Below.refl _ _).alloc (Nat.le_refl _) _)).grown hgrow4 (by omega)
      have HLB4 : Hid (∀ p ∈ L ++ [(l, Value.slice (some ⟨gu, 0, none⟩) l.labs.length (l.labs.length + 12))], LentLab w4 (w.heap.size + 1) p.2 p.1.labs) := fun p hp => by
        rcases List.mem_append.1 hp with hp | hp
        · exact hkeep ((HLB.out p hp).below HB3.out)
        · obtain rfl := List.mem_singleton.1 hp
          exact hkeep (HU.out.mono (by omega))
      have HOW : Hid (w4.ownsRow w.heap.size 49 5 (.slice (some ⟨w.heap.size, 0, none⟩) (k + 1) (ls.length + 12)) (k + 1) ((L ++ [(l, Value.slice (some ⟨gu, 0, none⟩) l.labs.length (l.labs.length + 12))]).flatMap lCell)) := by
        show World.ownsRow _ _ _ _ _ _ _
        rw [List.flatMap_append]
        exact hown4
      have HL3 := Lib.hid (HL2.out (.slice (some ⟨gu, 0, none⟩) l.labs.length (l.labs.length + 12)))
      clear hgrow4 hown4 hown hB hkeep HLB HU HB3 HLV HL2
      go_roundw
      case rel => exact ⟨k + 1, _, by omega, by go_num, rfl, HL3.out, HLB4.out, hb4, HOW.out⟩
      case measure => simp [intOf]; omega
    · obtain rfl : k = ls.length := by omega
      have HLS : Hid (L.map Prod.fst = ls) := by show _ = _; rw [HL.out, List.take_of_length_le (Nat.le_refl _)]
      have HLN : Hid (L.length = ls.length) := by have := congrArg List.length HLS.out; rw [List.length_map] at this; exact this
      clear HC HF HL hlt hk
      obtain ⟨w3, rfl⟩ : ∃ w3 : World, w3 = wr := ⟨_, rfl⟩
      go_wp2_with fail
      go_loopw [3, 6] (fun x i wr => ∃ k : Nat, k ≤ 12 ∧ i = .int .i64 k ∧ x = .slice (some ⟨w.heap.size, 0, none⟩) (ls.length + k) (ls.length + 12) ∧ Hid (∀ p ∈ L, LentLab wr (w.heap.size + 1) p.2 p.1.labs) ∧ Below w.heap.size w wr ∧ wr.ownsRow w.heap.size 49 5 (.slice (some ⟨w.heap.size, 0, none⟩) (ls.length + k) (ls.length + 12)) (ls.length + k) ((L ++ marksP k).flatMap lCell)) (fun _ i _ => 12 - (intOf i).toNat)
      case atStart => exact ⟨0, Nat.zero_le _, rfl, rfl, HLB.out, hB, by simpa [marksP] using hown⟩
      case round =>
        clear hB hown hbw HLB
        obtain ⟨k, hk, rfl, rfl, HLB, hB, hown⟩ := hrel
        have hbw := (hown.lt w.heap.size rfl).2
        by_cases hlt : k < 12
        · have HSU : Hid ((L ++ marksP (k + 1)).flatMap lCell = (L ++ marksP k).flatMap lCell ++ [.string ⟨#[]⟩, .int .i64 0, .slice none 0 0, .int .i64 (8000024 + (k : Int)), .int .i64 0]) := by
            show _ = _
            rw [marksP_succ, ← List.append_assoc, List.flatMap_append]
            rfl
          have hmt := fun W => markLevel_any k hlt W
          unfold markLvV at hmt
          generalize 8000024 + (k : Int) = mk at HSU hmt
          have HMT := Lib.hid hmt
          clear hmt
          go_wp2_with (first
            | (go_at_call 28; refine (HMT.out _).mono ?_; rintro e w5 ⟨rfl, hb5⟩; replace hown := hown.kept (grown_none hb5) (Classical.em _); replace hB := hB.trans (hb5.mono hB.size); replace HLB := Lib.hid (fun p hp => (HLB.out p hp).below hb5); clear hb5)
            | (at_builtin; refine wpList_append_fits _ rfl _ _ 22 rfl w.heap.size 49 i0 5 Tryz.underlying22 HI.out.1 HI.out.2.2.1 w.heap.size (ls.length + k) (ls.length + 12) _ rfl (hown.alloc _) ⟨w5.heap.size, 0, none⟩ 1 1 [.string ⟨#[]⟩, .int .i64 0, .slice none 0 0, .int .i64 mk, .int .i64 0] rfl rfl (cells_new _ _ _) (by simp [Value.oneCell']) (by omega) ?_; intro w6 hown6 hgrow6))
          have hb6 : Below w.heap.size w w6 := (hB.alloc hB.size _).grown hgrow6 (by have := hB.size; simp; omega) (fun r e => by cases e; exact Nat.le_refl _)
          have HLB6 : Hid (∀ p ∈ L, LentLab w6 (w.heap.size + 1) p.2 p.1.labs) := fun p hp => ((HLB.out p hp).below ((Below.refl _ w5).alloc (Nat.le_refl _) _)).grown hgrow6 (by omega)
          clear hgrow6 HLB
          go_roundw
          case rel => exact ⟨k + 1, by omega, by go_num, by rw [Nat.add_assoc], HLB6.out, hb6, by rw [HSU.out, ← Nat.add_assoc]; exact hown6⟩
          case measure => simp [intOf]; omega
        · obtain rfl : k = 12 := by omega
          have HO := Lib.hid hown
          clear hown
          go_wp2_with fail
          go_ret
          have hm := marksP_len 12
          have hln := HLN.out
          have hlen : (L ++ marksP 12).length = ls.length + 12 := by rw [List.length_append, hm, hln]
          refine ⟨_, rfl, ⟨w.heap.size, rfl, Nat.le_refl _, hbw, fun i h => ?_, fun j hj => ?_⟩, hB⟩
          · have h' : i < L.length := by omega
            have e1 : (L[i]'h').1 = ls[i] := by
              have : (L.map Prod.fst)[i]? = ls[i]? := by rw [HLS.out]
              rw [List.getElem?_map, List.getElem?_eq_getElem h', List.getElem?_eq_getElem h] at this
              exact Option.some.inj this
            refine ⟨(L[i]'h').2, ?_, ?_⟩
            · rw [← e1]; exact (HLB.out _ (List.getElem_mem h')).mono (by omega)
            · have := lev_at_row HO.out hlen (i := i) (by omega)
              rw [List.getElem_append_left h'] at this
              rw [← e1]; exact this
          · have := lev_at_row HO.out hlen (i := ls.length + j) (by omega)
            rw [List.getElem_append_right (by omega)] at this
            have e2 : ∀ h, (marksP 12)[ls.length + j - L.length]'h = mkP j := fun h => by
              rw [marksP_at]
              congr 1; omega
            rw [e2] at this
            exact this
end Go.Proofs.YtpieagaggjngjaaGreat

/-! U9 -/
namespace Go.Proofs.YtpieagaggjngjaaGreat
open Go.RowKit Go.Sort
set_option linter.unusedVariables false
set_option maxRecDepth 100000
set_option maxHeartbeats 4000000 in
theorem sameLabels_true (labs : List Lab) (va vb : Value) (w : World) (ha : RdLabs w va labs) (hb : RdLabs w vb labs) (hl : labs.length ≤ 100000) :
    Calls Tryz.prog 54 #[va, vb] w fun e w' => e = .returned (.bool true) ∧ Below w.heap.size w w' := by
  obtain ⟨a, ca, rfl, hca⟩ := ha
  obtain ⟨b, cb, rfl, hcb⟩ := hb
  have HA := Lib.hid hca
  have HB := Lib.hid hcb
  have hne : ((labs.length : Int) != (labs.length : Int)) = false := by simp
  clear hca hcb
  go_enter Tryz.func54, Tryz.ntmps54
  go_wp2_with fail
  go_loopw [5] (fun i wr => ∃ k : Nat, k ≤ labs.length ∧ i = .int .i64 k ∧ Hid (Below w.heap.size w wr)) (fun i _ => labs.length - (intOf i).toNat)
  case atStart => exact ⟨0, Nat.zero_le _, rfl, Below.refl _ _⟩
  case round =>
    obtain ⟨k, hk, rfl, HBW⟩ := hrel
    by_cases hlt : k < labs.length
    · obtain ⟨g, off, rfl, hg, hcc⟩ := HA.out (by omega)
      obtain ⟨g2, off2, rfl, hg2, hcc2⟩ := HB.out (by omega)
      have c1 := cells_in ((HBW.out.cell (p := ⟨g, off + k * 2, none⟩) hg).trans (hcc k hlt).1)
      have c2 := cells_in ((HBW.out.cell (p := ⟨g, off + k * 2 + 1, none⟩) hg).trans (hcc k hlt).2)
      have c3 := cells_in ((HBW.out.cell (p := ⟨g2, off2 + k * 2, none⟩) hg2).trans (hcc2 k hlt).1)
      have c4 := cells_in ((HBW.out.cell (p := ⟨g2, off2 + k * 2 + 1, none⟩) hg2).trans (hcc2 k hlt).2)
      generalize labs[k].pre = xp at c1 c3
      generalize labs[k].grp = xg at c2 c4
      have hb1 := ba_eq xp xp
      have hb2 := ba_eq xg xg
      rw [decide_eq_true rfl] at hb1 hb2
      have hd : decide ((k : Int) < (labs.length : Int)) = true := decide_eq_true (by omega)
      have HBN : Hid (∀ pp : Regrown, Below w.heap.size w (grow (redrawn wr pp.d) pp.os)) := fun pp => HBW.out.trans ((below_in wr pp).mono HBW.out.size)
      clear hcc hcc2 HA HB
      go_wp2_with fail
      refine wp_region_quiet_below (by kernel_rfl) (by kernel_rfl) ?_
      repeat (go_big_quiet_step (fail))
      refine wpQuiet_nil ?_
      intro _ hw'
      obtain ⟨pp, hw''⟩ := hw'
      subst hw''
      go_wp2_with fail
      go_roundw
      case rel => exact ⟨k + 1, by omega, by go_num, HBN.out pp⟩
      case measure => simp [intOf]; omega
    · obtain rfl : k = labs.length := by omega
      go_wp2_with fail
      go_ret
      exact ⟨rfl, HBW.out⟩
set_option maxHeartbeats 8000000 in
theorem keptLabels_true (labs : List Lab) (u v : Value) (base : Nat) (w : World) (hu : LentLab w base u labs) (hv : RdLabs w v labs) (hl : labs.length ≤ 100000) :
    Calls Tryz.prog 53 #[u, v] w fun e w' => e = .returned (.bool true) ∧ Below w.heap.size w w' := by
  obtain ⟨g, rfl, _, hg, hgc⟩ := hu
  obtain ⟨b, cb, rfl, hcb⟩ := hv
  have HG := Lib.hid hgc
  have HB := Lib.hid hcb
  have hne : ((labs.length : Int) != (labs.length : Int)) = false := by simp
  clear hgc hcb
  go_enter Tryz.func53, Tryz.ntmps53
  go_wp2_with fail
  go_loopw [6] (fun i wr => ∃ k : Nat, k ≤ labs.length + 12 ∧ i = .int .i64 k ∧ Hid (Below w.heap.size w wr)) (fun i _ => labs.length + 12 - (intOf i).toNat)
  case atStart => exact ⟨0, Nat.zero_le _, rfl, Below.refl _ _⟩
  case round =>
    obtain ⟨k, hk, rfl, HBW⟩ := hrel
    by_cases hlt : k < labs.length + 12
    · have hkl : k < (labs ++ marksL 12).length := by rw [List.length_append, marksL_len]; exact hlt
      have c1 := cells_in ((HBW.out.cell (p := ⟨g, k * 2, none⟩) hg).trans (HG.out k hkl).1)
      have c2 := cells_in ((HBW.out.cell (p := ⟨g, k * 2 + 1, none⟩) hg).trans (HG.out k hkl).2)
      have hd : decide ((k : Int) < ((labs.length : Int) + 12)) = true := decide_eq_true (by omega)
      have HBN : Hid (∀ pp : Regrown, Below w.heap.size w (grow (redrawn wr pp.d) pp.os)) := fun pp => HBW.out.trans ((below_in wr pp).mono HBW.out.size)
      by_cases hkn : k < labs.length
      · obtain ⟨g2, off2, rfl, hg2, hcc2⟩ := HB.out (by omega)
        rw [List.getElem_append_left hkn] at c1 c2
        have c3 := cells_in ((HBW.out.cell (p := ⟨g2, off2 + k * 2, none⟩) hg2).trans (hcc2 k hkn).1)
        have c4 := cells_in ((HBW.out.cell (p := ⟨g2, off2 + k * 2 + 1, none⟩) hg2).trans (hcc2 k hkn).2)
        generalize labs[k].pre = xp at c1 c3
        generalize labs[k].grp = xg at c2 c4
        have hb1 := ba_eq xp xp
        have hb2 := ba_eq xg xg
        rw [decide_eq_true rfl] at hb1 hb2
        have hd1 : decide ((k : Int) < (labs.length : Int)) = true := decide_eq_true (by omega)
        have hd2 : decide ((labs.length : Int) ≤ (k : Int)) = false := decide_eq_false (by omega)
        have hd3 : decide (k < labs.length) = true := decide_eq_true hkn
        have hd4 : decide (labs.length ≤ k) = false := decide_eq_false (by omega)
        clear hcc2 HG HB
        go_wp2_with fail
        refine wp_region_quiet_below (by kernel_rfl) (by kernel_rfl) ?_
        repeat (go_big_quiet_step (fail))
        refine wpQuiet_nil ?_
        intro _ hw'
        obtain ⟨pp, hw''⟩ := hw'
        subst hw''
        go_wp2_with fail
        go_roundw
        case rel => exact ⟨k + 1, by omega, by go_num, HBN.out pp⟩
        case measure => simp [intOf]; omega
      · obtain ⟨j, hj⟩ : ∃ j, k - labs.length = j := ⟨_, rfl⟩
        have hml : ∀ h, (marksL 12)[k - labs.length]'h = markLab j := fun h => by subst hj; simp [marksL]
        rw [List.getElem_append_right (by omega), hml] at c1 c2
        have hj12 : j < 12 := by omega
        have CM : Hid (∀ W, Below wr.heap.size wr W → Calls Tryz.prog 69 #[.int .i64 1, .int .i64 (j : Nat)] W fun e w' => e = .returned (.agg #[.string ⟨#[]⟩, .string (markB j)]) ∧ Below W.heap.size W w') := fun W _ => markLabel_any j hj12 W
        unfold markLab at c1 c2
        dsimp only at c1 c2
        have hb1 := ba_eq (markB j) (markB j)
        rw [decide_eq_true rfl] at hb1
        generalize markB j = mk at c1 c2 CM hb1
        have hd1 : decide ((k : Int) < (labs.length : Int)) = false := decide_eq_false (by omega)
        have hd2 : decide ((labs.length : Int) ≤ (k : Int)) = true := decide_eq_true (by omega)
        have hd3 : decide (k < labs.length) = false := decide_eq_false hkn
        have hd4 : decide (labs.length ≤ k) = true := decide_eq_true (by omega)
        have hji : (k : Int) - (labs.length : Int) = (j : Int) := by omega
        have hjw : IntKind.i64.wrap ((k : Int) - (labs.length : Int)) = (j : Int) := by rw [IntWalk.i64_in _ (by omega)]; omega
        clear HG HB hml
        go_wp2_with fail
        refine wp_region_quiet_below (by kernel_rfl) (by kernel_rfl) ?_
        repeat (go_big_quiet_step ((with_reducible exact regrown_in CM.out _)))
        refine wpQuiet_nil ?_
        intro _ hw'
        obtain ⟨pp, hw''⟩ := hw'
        subst hw''
        clear hjw hji
        go_wp2_with fail
        go_roundw
        case rel => exact ⟨k + 1, by omega, by go_num, HBN.out pp⟩
        case measure => simp [intOf]; omega
    · obtain rfl : k = labs.length + 12 := by omega
      go_wp2_with fail
      go_ret
      exact ⟨rfl, HBW.out⟩
theorem boxes_at {w w1 : World} {l next : Lev} {v u : Value} {w2 : World} (hw2 : (w.alloc (boxO l v)).alloc (boxO next u) = w2) (hb : Below w2.heap.size w2 w1) : Boxes w.heap.size l next v u w1 := by
  have hz : w2.heap.size = w.heap.size + 2 := by rw [← hw2]; simp
  have := boxes_new w l next v u
  rw [hw2] at this
  exact this.below (by rw [← hz]; exact hb)
set_option maxHeartbeats 4000000 in
theorem sameLevel_true (l : Lev) (va vb : Value) (w : World) (ha : RdLabs w va l.labs) (hb : RdLabs w vb l.labs) (hl : l.labs.length ≤ 100000) :
    Calls Tryz.prog 32 #[lvA l va, lvA l vb] w fun e w' => e = .returned (.bool true) ∧ Below w.heap.size w w' := by
  have HS : Hid (∀ W, Below w.heap.size w W → Calls Tryz.prog 54 #[va, vb] W fun e w' => e = .returned (.bool true) ∧ Below W.heap.size W w') := fun W hW => sameLabels_true l.labs va vb W (ha.below hW) (hb.below hW) hl
  obtain ⟨w2, hw2⟩ : ∃ w2 : World, (w.alloc (boxO l va)).alloc (boxO l vb) = w2 := ⟨_, rfl⟩
  have HB2 : Hid (Below w.heap.size w w2) := by rw [← hw2]; exact ((Below.refl _ w).alloc (Nat.le_refl _) _).alloc (by simp) _
  have HBX : Hid (∀ w1, Below w2.heap.size w2 w1 → Boxes w.heap.size l l va vb w1) := fun w1 h => boxes_at hw2 h
  have hbx := HBX.out w2 (Below.refl _ _)
  have a0 := hbx.l0
  have a1 := hbx.l1
  have a2 := hbx.l2
  have b0 := hbx.n0
  have b1 := hbx.n1
  have b2 := hbx.n2
  obtain ⟨sa, ca, rfl, _⟩ := ha
  obtain ⟨sb, cb, rfl, _⟩ := hb
  have hbe := ba_eq l.name l.name
  rw [decide_eq_true rfl] at hbe
  unfold boxO at hw2
  unfold lvA
  clear hbx
  go_enter Tryz.func32, Tryz.ntmps32
  go_wp2_with fail
  refine (HS.out _ HB2.out).mono ?_
  rintro e w3 ⟨rfl, hb3⟩
  have hby := HBX.out w3 hb3
  have a3 := hby.l3
  have a4 := hby.l4
  have b3 := hby.n3
  have b4 := hby.n4
  have HB3 := Lib.hid (HB2.out.trans (hb3.mono HB2.out.size))
  clear hby hb3
  go_wp2_with fail
  go_ret
  exact ⟨rfl, HB3.out⟩
set_option maxHeartbeats 4000000 in
theorem keptLevel_true (l : Lev) (u v : Value) (base : Nat) (w : World) (hu : LentLab w base u l.labs) (hv : RdLabs w v l.labs) (hl : l.labs.length ≤ 100000) :
    Calls Tryz.prog 31 #[lvA l u, lvA l v] w fun e w' => e = .returned (.bool true) ∧ Below w.heap.size w w' := by
  have HS : Hid (∀ W, Below w.heap.size w W → Calls Tryz.prog 32 #[lvA l u, lvA l v] W fun e w' => e = .returned (.bool true) ∧ Below W.heap.size W w') := fun W hW => sameLevel_true l u v W (hu.reads.below hW) (hv.below hW) hl
  have HK : Hid (∀ W, Below w.heap.size w W → Calls Tryz.prog 53 #[u, v] W fun e w' => e = .returned (.bool true) ∧ Below W.heap.size W w') := fun W hW => by
    obtain ⟨g, hg, h1, h2, h3⟩ := hu
    exact keptLabels_true l.labs u v base W ⟨g, hg, h1, Nat.lt_of_lt_of_le h2 hW.size, fun i hi => ⟨(hW.cell (p := ⟨g, i * 2, none⟩) h2).trans (h3 i hi).1, (hW.cell (p := ⟨g, i * 2 + 1, none⟩) h2).trans (h3 i hi).2⟩⟩ (hv.below hW) hl
  obtain ⟨w2, hw2⟩ : ∃ w2 : World, (w.alloc (boxO l u)).alloc (boxO l v) = w2 := ⟨_, rfl⟩
  have HB2 : Hid (Below w.heap.size w w2) := by rw [← hw2]; exact ((Below.refl _ w).alloc (Nat.le_refl _) _).alloc (by simp) _
  have HBX : Hid (∀ w1, Below w2.heap.size w2 w1 → Boxes w.heap.size l l u v w1) := fun w1 h => boxes_at hw2 h
  have hbx := HBX.out w2 (Below.refl _ _)
  obtain ⟨a0, a1, a2, a3, a4, b0, b1, b2, b3, b4⟩ := hbx
  obtain ⟨gu, rfl, _⟩ := hu
  obtain ⟨sb, cb, rfl, _⟩ := hv
  unfold boxO at hw2
  unfold lvA at HS ⊢
  go_enter Tryz.func31, Tryz.ntmps31
  go_wp2_with fail
  refine (HS.out _ HB2.out).mono ?_
  rintro e w3 ⟨rfl, hb3⟩
  have hby := HBX.out w3 hb3
  have c2 := hby.l2
  have d2 := hby.n2
  have HB3 := Lib.hid (HB2.out.trans (hb3.mono HB2.out.size))
  clear hby hb3 a0 a1 a2 a3 a4 b0 b1 b2 b3 b4
  go_wp2_with fail
  refine (HK.out _ HB3.out).mono ?_
  rintro e w4 ⟨rfl, hb4⟩
  have HB4 := Lib.hid (HB3.out.trans (hb4.mono HB3.out.size))
  clear hb4
  go_wp2_with fail
  go_ret
  exact ⟨rfl, HB4.out⟩
set_option maxHeartbeats 8000000 in
theorem keptLevels_true (ls : List Lev) (u v : Value) (base : Nat) (w : World) (hu : LentLevs w base u ls) (hv : RdLevs w v ls) (hf : ∀ l ∈ ls, l.labs.length ≤ 100000) (hl : ls.length ≤ 1000) :
    Calls Tryz.prog 17 #[u, v] w fun e w' => e = .returned (.bool true) ∧ Below w.heap.size w w' := by
  obtain ⟨g, rfl, _, hg, hgc, hgm⟩ := hu
  obtain ⟨b, cb, rfl, hcb⟩ := hv
  have HG := Lib.hid hgc
  have HM := Lib.hid hgm
  have HB := Lib.hid hcb
  have HF := Lib.hid hf
  have hne : ((ls.length : Int) != (ls.length : Int)) = false := by simp
  clear hgc hcb hgm hf
  go_enter Tryz.func17, Tryz.ntmps17
  go_wp2_with fail
  go_loopw [6] (fun i wr => ∃ k : Nat, k ≤ ls.length + 12 ∧ i = .int .i64 k ∧ Hid (Below w.heap.size w wr)) (fun i _ => ls.length + 12 - (intOf i).toNat)
  case atStart => exact ⟨0, Nat.zero_le _, rfl, Below.refl _ _⟩
  case round =>
    obtain ⟨k, hk, rfl, HBW⟩ := hrel
    by_cases hlt : k < ls.length + 12
    · have hd : decide ((k : Int) < ((ls.length : Int) + 12)) = true := decide_eq_true (by omega)
      have HBN : Hid (∀ pp : Regrown, Below w.heap.size w (grow (redrawn wr pp.d) pp.os)) := fun pp => HBW.out.trans ((below_in wr pp).mono HBW.out.size)
      by_cases hkn : k < ls.length
      · obtain ⟨g2, off2, rfl, hg2, hcc2⟩ := HB.out (by omega)
        obtain ⟨su, hsu, hau⟩ := HG.out k hkn
        obtain ⟨sv, hsv, hav⟩ := hcc2 k hkn
        obtain ⟨c0, c1, c2, c3, c4⟩ := hau.below HBW.out hg
        obtain ⟨e0, e1, e2, e3, e4⟩ := hav.below HBW.out hg2
        have CK : Hid (∀ W, Below wr.heap.size wr W → Calls Tryz.prog 31 #[lvA ls[k] su, lvA ls[k] sv] W fun e w' => e = .returned (.bool true) ∧ Below W.heap.size W w') := fun W hW => by
          have hw : Below w.heap.size w W := HBW.out.trans (hW.mono HBW.out.size)
          exact keptLevel_true ls[k] su sv base W (hsu.below hw) (hsv.below hw) (HF.out _ (List.getElem_mem hkn))
        have c0 := cells_in c0
        have c1 := cells_in c1
        have c2 := cells_in c2
        have c3 := cells_in c3
        have c4 := cells_in c4
        have e0 := cells_in e0
        have e1 := cells_in e1
        have e2 := cells_in e2
        have e3 := cells_in e3
        have e4 := cells_in e4
        unfold lvA at CK
        generalize ls[k] = l at c0 c1 c2 c3 c4 e0 e1 e2 e3 e4 CK
        have hd1 : decide ((k : Int) < (ls.length : Int)) = true := decide_eq_true (by omega)
        have hd2 : decide ((ls.length : Int) ≤ (k : Int)) = false := decide_eq_false (by omega)
        have hd3 : decide (k < ls.length) = true := decide_eq_true hkn
        have hd4 : decide (ls.length ≤ k) = false := decide_eq_false (by omega)
        clear hcc2 HG HB HM HF hsu hau hsv hav
        go_wp2_with fail
        refine wp_region_quiet_below (by kernel_rfl) (by kernel_rfl) ?_
        repeat (go_big_quiet_step ((with_reducible exact regrown_in CK.out _)))
        refine wpQuiet_nil ?_
        intro _ hw'
        obtain ⟨pp, hw''⟩ := hw'
        subst hw''
        go_wp2_with fail
        go_roundw
        case rel => exact ⟨k + 1, by omega, by go_num, HBN.out pp⟩
        case measure => simp [intOf]; omega
      · obtain ⟨j, hj⟩ : ∃ j, k - ls.length = j := ⟨_, rfl⟩
        have hj12 : j < 12 := by omega
        have hkj : ls.length + j = k := by omega
        have hlm := HM.out j hj12
        rw [hkj] at hlm
        obtain ⟨c0, c1, c2, c3, c4⟩ := hlm.below HBW.out hg
        have c0 := cells_in c0
        have c1 := cells_in c1
        have c2 := cells_in c2
        have c3 := cells_in c3
        have c4 := cells_in c4
        have CM : Hid (∀ W, Below wr.heap.size wr W → Calls Tryz.prog 28 #[.int .i64 1, .int .i64 (j : Nat)] W fun e w' => e = .returned (markLvV j) ∧ Below W.heap.size W w') := fun W _ => markLevel_any j hj12 W
        have CS : Hid (∀ W, Below wr.heap.size wr W → Calls Tryz.prog 32 #[lvA (markLv j) (.slice none 0 0), lvA (markLv j) (.slice none 0 0)] W fun e w' => e = .returned (.bool true) ∧ Below W.heap.size W w') := fun W hW => sameLevel_true (markLv j) _ _ W (rd_nil W) (rd_nil W) (Nat.zero_le _)
        unfold lvA markLv at CS
        unfold markLvV at CM
        unfold markLv at c0 c1 c2 c3 c4
        dsimp only at c0 c1 c2 c3 c4 CS
        have hd1 : decide ((k : Int) < (ls.length : Int)) = false := decide_eq_false (by omega)
        have hd2 : decide ((ls.length : Int) ≤ (k : Int)) = true := decide_eq_true (by omega)
        have hd3 : decide (k < ls.length) = false := decide_eq_false hkn
        have hd4 : decide (ls.length ≤ k) = true := decide_eq_true (by omega)
        have hji : (k : Int) - (ls.length : Int) = (j : Int) := by omega
        have hjw : IntKind.i64.wrap ((k : Int) - (ls.length : Int)) = (j : Int) := by rw [IntWalk.i64_in _ (by omega)]; omega
        generalize 8000024 + (j : Int) = mk at c0 c1 c2 c3 c4 CM CS
        clear HG HB HM HF hlm
        go_wp2_with fail
        refine wp_region_quiet_below (by kernel_rfl) (by kernel_rfl) ?_
        repeat (go_big_quiet_step ((first | (with_reducible exact regrown_in CM.out _) | (with_reducible exact regrown_in CS.out _))))
        refine wpQuiet_nil ?_
        intro _ hw'
        obtain ⟨pp, hw''⟩ := hw'
        subst hw''
        clear hjw hji
        go_wp2_with fail
        go_roundw
        case rel => exact ⟨k + 1, by omega, by go_num, HBN.out pp⟩
        case measure => simp [intOf]; omega
    · obtain rfl : k = ls.length + 12 := by omega
      go_wp2_with fail
      go_ret
      exact ⟨rfl, HBW.out⟩
end Go.Proofs.YtpieagaggjngjaaGreat
