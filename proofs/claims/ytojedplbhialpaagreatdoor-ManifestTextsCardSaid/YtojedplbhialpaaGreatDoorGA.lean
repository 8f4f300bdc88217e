import Derived.Test.YtojedplbhialpaaGreatDoorProg
import Derived.WalkKit
import Derived.WalkSpells
import Derived.WalkLawsBesides
import Derived.Outline
import Derived.Below
import Derived.OneCell
import Derived.OwnWalk
import Derived.Deep.QuietTactic
import Derived.BigQuiet
import Derived.Lib.Hide
import Derived.RegionTactic
import Derived.ChangeAlike
import Derived.Deep.RegionWith
import Derived.Deep.DeepCutAuto
import Derived.Deep.RegionHeld3
import Derived.Maps.OwnOps
import Derived.Maps.OwnSet
import Derived.Maps.StringElems
import Derived.WideShapes
import Derived.Carry
import Derived.StringKeys
import Derived.Lib.Strings
import Derived.DeepKeys4
import Derived.WideKeyPair
/-! S0 -/
namespace Go.Proofs.YtojedplbhialpaaGreatDoor
open Go.RowKit
set_option linter.unusedVariables false
theorem ret_bool {a b : Bool} (h : a = b) : Ending.returned (.bool a) = .returned (.bool b) := by rw [h]
theorem ret_int {k : IntKind} {a b : Int} (h : a = b) : Ending.returned (.int k a) = .returned (.int k b) := by rw [h]
theorem ret_str {a b : ByteArray} (h : a = b) : Ending.returned (.string a) = .returned (.string b) := by rw [h]
theorem grown_none {A B : World} (h : Below A.heap.size A B) : A.grownBy B none := ⟨h.os, h.tape, h.output, h.size, fun k hk _ => h.block k hk⟩
theorem upto_succ {P : Nat → Prop} {k : Nat} (h : ∀ j, j < k → P j) (hk : P k) : ∀ j, j < k + 1 → P j := fun j hj => by
  by_cases e : j = k
  · subst e; exact hk
  · exact h j (by omega)
theorem alloc_new (w : World) (o : Obj) : (w.alloc o).heap[w.heap.size]? = some o := by
  show (w.heap.push o)[w.heap.size]? = some o
  simp
theorem ba_inj {a b : ByteArray} (h : a.data.toList = b.data.toList) : a = b := WideShapes.bytes_inj h
theorem ba_eq (a b : ByteArray) : (a.toList == b.toList) = decide (a = b) := by
  rw [ByteArray.toList_eq, ByteArray.toList_eq, Bool.eq_iff_iff]
  simp only [beq_iff_eq, decide_eq_true_eq]
  exact ⟨fun h => ba_inj h, fun h => by rw [h]⟩
theorem cell_lt {W : World} {b o : Nat} {v : Value} (h : W.cell? ⟨b, o, none⟩ = some v) : b < W.heap.size := by
  rcases Nat.lt_or_ge b W.heap.size with h' | h'
  · exact h'
  · have : W.heap[b]? = none := Array.getElem?_eq_none h'
    simp [World.cell?, this] at h
theorem bcell {W w1 : World} (hb : Below W.heap.size W w1) : (∀ b o, b < W.heap.size → w1.cell? ⟨b, o, none⟩ = W.cell? ⟨b, o, none⟩) ∧ (∀ b o, b < W.heap.size → w1.frozen? ⟨b, o, none⟩ = W.frozen? ⟨b, o, none⟩) :=
  ⟨fun b o h => hb.cell (p := ⟨b, o, none⟩) h, fun b o h => hb.frozen (p := ⟨b, o, none⟩) h⟩
theorem conv_bytes (W : World) (t : ByteArray) : ∃ (cap : Nat) (C : Array Value), t.size ≤ cap ∧
    Sem.run Tryz.prog (convert 9 123 (.string t)) W = .ok (.slice (some ⟨W.heap.size, 0, none⟩) t.size cap) (W.drew.alloc (.cells C 5 (C.size, C.size + 1))) ∧
    ∀ j (h : j < t.size), (W.alloc (.cells C 5 (C.size, C.size + 1))).cell? ⟨W.heap.size, j, none⟩ = some (.int .u8 (t[j].toNat : Int)) := by
  have hcap := grownCap_ge W t.size 0 5
  have hconv := run_bytes_of_string (P := Tryz.prog) W 9 123 5 t Tryz.underlying9 Tryz.underlying123 Tryz.underlying5
  generalize grownCap W t.size 0 5 = cap at hcap hconv
  have hC : ∀ j (h : j < t.size), (bytesRow t cap)[j]? = some (.int .u8 (t[j].toNat : Int)) := fun j h => by
    unfold bytesRow
    rw [Array.getElem?_append_left (by simpa using h), Array.getElem?_map, Array.getElem?_eq_getElem h]
    rfl
  generalize bytesRow t cap = C at hconv hC
  have hblk : (W.alloc (.cells C 5 (C.size, C.size + 1))).heap[W.heap.size]? = some (.cells C 5 (C.size, C.size + 1)) := alloc_new W _
  exact ⟨cap, C, hcap, hconv, fun j h => by simp only [World.cell?, hblk]; exact hC j h⟩
def allB (p : Int → Bool) (s : ByteArray) : Bool := s.data.toList.all (fun c => p c.toNat)
theorem allB_true {p : Int → Bool} {s : ByteArray} (h : ∀ j, j < s.size → ∀ h : j < s.size, p s[j].toNat = true) : allB p s = true := by
  unfold allB
  rw [List.all_eq_true]
  intro c hc
  obtain ⟨j, hj, rfl⟩ := List.mem_iff_getElem.1 hc
  have hj' : j < s.size := by simpa using hj
  exact h j hj' hj'
theorem allB_false {p : Int → Bool} {s : ByteArray} {k : Nat} (hk : k < s.size) (h : p s[k].toNat = false) : allB p s = false := by
  unfold allB
  rw [List.all_eq_false]
  exact ⟨s[k], Array.mem_toList_iff.2 (Array.getElem_mem (xs := s.data) hk), by rw [h]; simp⟩
def plainC (n : Int) : Bool := decide (65 ≤ n ∧ n ≤ 90) || decide (48 ≤ n ∧ n ≤ 57)
def plainB (s : ByteArray) : Bool := allB plainC s
def nameC (n : Int) : Bool := decide (33 ≤ n ∧ n ≤ 126)
def codeB (s : ByteArray) : Bool := decide (1 ≤ s.size) && decide (s.size ≤ 10) && plainB s
def nameB (s : ByteArray) : Bool := decide (1 ≤ s.size) && decide (s.size ≤ 20) && allB nameC s
structure Lab where
  pre : ByteArray
  grp : ByteArray
structure Lev where
  name : ByteArray
  pre : Int
  labs : List Lab
  min : Int
  cents : Int
def ltB (a b : ByteArray) : Bool := decide (a.data.toList < b.data.toList)
theorem bytesLess_lt : ∀ (x y : List UInt8), Op.bytesLess x y = decide (x < y)
  | [], [] => by simp [Op.bytesLess]
  | _ :: _, [] => by simp [Op.bytesLess]
  | [], _ :: _ => by simp [Op.bytesLess]
  | a :: x, b :: y => by
    rw [Op.bytesLess, bytesLess_lt x y]
    simp only [List.cons_lt_cons_iff]
    by_cases h1 : a < b <;> by_cases h2 : a = b <;> by_cases h3 : x < y <;> simp [h1, h2, h3]
theorem less_eq (a b : ByteArray) : Op.bytesLess a.toList b.toList = ltB a b := by
  rw [ByteArray.toList_eq, ByteArray.toList_eq, bytesLess_lt]; rfl
theorem ltB_irrefl (a : ByteArray) : ltB a a = false := by unfold ltB; simp [List.lt_irrefl]
theorem ltB_trans {a b c : ByteArray} (h : ltB a b = true) (h' : ltB b c = true) : ltB a c = true := by
  unfold ltB at *
  simp only [decide_eq_true_eq] at *
  exact List.lt_trans h h'
theorem ltB_asymm {a b : ByteArray} (h : ltB a b = true) : ltB b a = false := by
  cases h' : ltB b a
  · rfl
  · have := ltB_trans h h'; rw [ltB_irrefl] at this; cases this
theorem ltB_tri (a b : ByteArray) : ltB a b = true ∨ a = b ∨ ltB b a = true := by
  unfold ltB
  simp only [decide_eq_true_eq]
  rcases Classical.em (a.data.toList < b.data.toList) with h | h
  · exact .inl h
  · rcases Classical.em (b.data.toList < a.data.toList) with h' | h'
    · exact .inr (.inr h')
    · exact .inr (.inl (ba_inj (List.le_antisymm (List.not_lt.1 h') (List.not_lt.1 h))))
theorem leq_eq (a b : ByteArray) : (Op.bytesLess a.toList b.toList || a.toList == b.toList) = !ltB b a := by
  rw [less_eq, ba_eq]
  rcases ltB_tri a b with h | h | h
  · rw [h, ltB_asymm h]; rfl
  · subst h; rw [ltB_irrefl]; simp
  · rw [h, ltB_asymm h]
    simp
    rintro rfl
    rw [ltB_irrefl] at h; cases h
theorem ltB_ne {a b : ByteArray} (h : ltB a b = true) : a ≠ b := by rintro rfl; rw [ltB_irrefl] at h; cases h
end Go.Proofs.YtojedplbhialpaaGreatDoor

/-! S1 -/
namespace Go.Proofs.YtojedplbhialpaaGreatDoor
open Go.RowKit
set_option linter.unusedVariables false
set_option maxRecDepth 100000
theorem plainC_true {n : Int} (h : 65 ≤ n ∧ n ≤ 90 ∨ 48 ≤ n ∧ n ≤ 57) : plainC n = true := by unfold plainC; simp; omega
theorem plainC_false {n : Int} (h : ¬ (65 ≤ n ∧ n ≤ 90 ∨ 48 ≤ n ∧ n ≤ 57)) : plainC n = false := by unfold plainC; simp; omega
set_option maxHeartbeats 1000000 in
theorem isPlain_any (s : ByteArray) (w : World) (hs : s.size ≤ maxLen) :
    Calls Tryz.prog 178 #[.string s] w fun e w' => e = .returned (.bool (plainB s)) ∧ Below w.heap.size w w' := by
  unfold maxLen at hs
  obtain ⟨cap, C, hcap, hconv, hcell⟩ := conv_bytes w s
  have HC := Lib.hid hcell
  clear hcell
  go_enter Tryz.func178, Tryz.ntmps178
  go_wp2_with fail
  go_loop [8] (fun i => ∃ k : Nat, k ≤ s.size ∧ i = .int .i64 k ∧ Hid (∀ j, j < k → ∀ h : j < s.size, plainC s[j].toNat = true)) (fun i => s.size - (intOf i).toNat)
  case atStart => exact ⟨0, Nat.zero_le _, rfl, fun j h => by omega⟩
  case round =>
    obtain ⟨k, hk, rfl, ha⟩ := hrel
    by_cases hlt : k < s.size
    · have c := HC.out k hlt
      have hn : Hid (plainC s[k].toNat = true → ∀ j, j < k + 1 → ∀ h : j < s.size, plainC s[j].toNat = true) := fun h1 j hj h => by
        by_cases e : j = k
        · subst e; exact h1
        · exact ha j (by omega) h
      have hf : Hid (plainC s[k].toNat = false → plainB s = false) := fun h1 => allB_false hlt h1
      generalize (s[k].toNat : Int) = n at c hn hf
      go_wp2_with fail
      all_goals first
        | (go_ret; exact ⟨ret_bool (hf.out (plainC_false (by omega))).symm, ((Below.refl _ w).drew).alloc (Nat.le_refl _) _⟩)
        | (go_round
           case rel => exact ⟨k + 1, by omega, by go_num, hn.out (plainC_true (by omega))⟩
           case measure => simp [intOf]; omega)
    · go_wp2_with fail
      go_ret
      exact ⟨ret_bool (allB_true fun j hj h => ha j (by omega) h).symm, ((Below.refl _ w).drew).alloc (Nat.le_refl _) _⟩
theorem code_any (s : ByteArray) (w : World) (hs : s.size ≤ maxLen) :
    Calls Tryz.prog 171 #[.string s] w fun e w' => e = .returned (.bool (codeB s)) ∧ Below w.heap.size w w' := by
  have hm := hs
  unfold maxLen at hs
  by_cases h : 1 ≤ s.size ∧ s.size ≤ 10
  · obtain ⟨h1, h2⟩ := h
    have hf : codeB s = plainB s := by unfold codeB; simp [h1, h2]
    have HF := Lib.hid hf
    clear hf
    go_enter Tryz.func171, Tryz.ntmps171
    go_wp2_with (go_at_call 178; refine (isPlain_any _ _ hm).mono ?_; rintro e w' ⟨rfl, hb⟩)
    go_ret
    exact ⟨ret_bool HF.out.symm, hb⟩
  · have hf : codeB s = false := by unfold codeB; simp; intro a b; exact absurd ⟨a, b⟩ h
    have HF := Lib.hid hf
    clear hf
    have h' : s.size < 1 ∨ 10 < s.size := by omega
    clear h
    rcases h' with h | h
    all_goals
      go_enter Tryz.func171, Tryz.ntmps171
      go_wp2_with fail
      go_ret
      exact ⟨ret_bool HF.out.symm, Below.refl _ _⟩
theorem isName1_any (n : Int) (w : World) :
    Calls Tryz.prog 212 #[.int .u8 n] w fun e w' => e = .returned (.bool (!nameC n)) ∧ w = w' := by
  go_enter Tryz.func212, Tryz.ntmps212
  go_wp2
  all_goals (go_ret; refine ⟨ret_bool ?_, rfl⟩; unfold nameC; rw [Bool.eq_iff_iff]; simp; try omega)
set_option maxHeartbeats 1000000 in
theorem indexBytes_any (s : ByteArray) (B cap : Nat) (w : World) (hs : s.size ≤ maxLen) (hc : ∀ j (h : j < s.size), w.cell? ⟨B, j, none⟩ = some (.int .u8 (s[j].toNat : Int))) :
    Calls Tryz.prog 229 #[.slice (some ⟨B, 0, none⟩) s.size cap, .func (.func 212) #[] #[]] w fun e w' => ∃ i : Int, e = .returned (.int .i64 i) ∧ decide (0 ≤ i) = !allB nameC s ∧ w = w' := by
  unfold maxLen at hs
  have HC := Lib.hid hc
  clear hc
  go_enter Tryz.func229, Tryz.ntmps229
  go_wp2_with fail
  go_loop [8] (fun i => ∃ k : Nat, k ≤ s.size ∧ i = .int .i64 k ∧ Hid (∀ j, j < k → ∀ h : j < s.size, nameC s[j].toNat = true)) (fun i => s.size - (intOf i).toNat)
  case atStart => exact ⟨0, Nat.zero_le _, rfl, fun j h => by omega⟩
  case round =>
    obtain ⟨k, hk, rfl, ha⟩ := hrel
    by_cases hlt : k < s.size
    · have c := HC.out k hlt
      have hn : Hid (nameC s[k].toNat = true → ∀ j, j < k + 1 → ∀ h : j < s.size, nameC s[j].toNat = true) := fun h1 j hj h => by
        by_cases e : j = k
        · subst e; exact h1
        · exact ha j (by omega) h
      have hf : Hid (nameC s[k].toNat = false → allB nameC s = false) := fun h1 => allB_false hlt h1
      generalize (s[k].toNat : Int) = n at c hn hf
      cases hd : nameC n
      all_goals go_wp2_with (go_at_call 212; refine (isName1_any _ _).mono ?_; rintro e w' ⟨rfl, rfl⟩)
      · go_ret
        exact ⟨_, rfl, by rw [hf.out hd]; simp, rfl⟩
      · go_round
        case rel => exact ⟨k + 1, by omega, by go_num, hn.out hd⟩
        case measure => simp [intOf]; omega
    · go_wp2_with fail
      go_ret
      exact ⟨_, rfl, by rw [allB_true fun j hj h => ha j (by omega) h]; rfl, rfl⟩
theorem containsBytes_any (s : ByteArray) (B cap : Nat) (w : World) (hs : s.size ≤ maxLen) (hc : ∀ j (h : j < s.size), w.cell? ⟨B, j, none⟩ = some (.int .u8 (s[j].toNat : Int))) :
    Calls Tryz.prog 211 #[.slice (some ⟨B, 0, none⟩) s.size cap, .func (.func 212) #[] #[]] w fun e w' => e = .returned (.bool (!allB nameC s)) ∧ w = w' := by
  have HC := Lib.hid hc
  clear hc
  go_enter Tryz.func211, Tryz.ntmps211
  go_wp2_with (go_at_call 229; refine (indexBytes_any _ _ _ _ hs HC.out).mono ?_; rintro e w' ⟨i, rfl, hi, rfl⟩; have HI := Lib.hid hi; clear hi)
  go_ret
  exact ⟨ret_bool HI.out, rfl⟩
theorem isName_any (s : ByteArray) (w : World) (hs : s.size ≤ maxLen) :
    Calls Tryz.prog 177 #[.string s] w fun e w' => e = .returned (.bool (nameB s)) ∧ Below w.heap.size w w' := by
  have hm := hs
  unfold maxLen at hs
  by_cases h : 1 ≤ s.size ∧ s.size ≤ 20
  · obtain ⟨h1, h2⟩ := h
    have hf : nameB s = allB nameC s := by unfold nameB; simp [h1, h2]
    have HF := Lib.hid hf
    clear hf
    obtain ⟨cap, C, hcap, hconv, hcell⟩ := conv_bytes w s
    have HC := Lib.hid hcell
    clear hcell
    go_enter Tryz.func177, Tryz.ntmps177
    go_wp2_with (go_at_call 211; refine (containsBytes_any s _ _ (w.alloc (.cells C 5 (C.size, C.size + 1))).drew hm (fun j h => HC.out j h)).mono ?_; rintro e w1 ⟨rfl, rfl⟩)
    go_ret
    exact ⟨ret_bool (by rw [HF.out]), ((Below.refl _ w).drew).alloc (Nat.le_refl _) _⟩
  · have hf : nameB s = false := by unfold nameB; simp; intro a b; exact absurd ⟨a, b⟩ h
    have HF := Lib.hid hf
    clear hf
    have h' : s.size < 1 ∨ 20 < s.size := by omega
    clear h
    rcases h' with h | h
    all_goals
      go_enter Tryz.func177, Tryz.ntmps177
      go_wp2_with fail
      go_ret
      exact ⟨ret_bool HF.out.symm, Below.refl _ _⟩
end Go.Proofs.YtojedplbhialpaaGreatDoor

/-! S2 -/
namespace Go.Proofs.YtojedplbhialpaaGreatDoor
open Go.RowKit
set_option linter.unusedVariables false
set_option maxRecDepth 100000
def RdLabs (w : World) (v : Value) (labs : List Lab) : Prop :=
  ∃ a cap, v = .slice a labs.length cap ∧ (0 < labs.length → ∃ g off, a = some ⟨g, off, none⟩ ∧ g < w.heap.size ∧ ∀ i (h : i < labs.length), w.cell? ⟨g, off + i * 2, none⟩ = some (.string labs[i].pre) ∧ w.cell? ⟨g, off + i * 2 + 1, none⟩ = some (.string labs[i].grp))
theorem RdLabs.below {w w' : World} {v : Value} {ls : List Lab} (h : RdLabs w v ls) (hb : Below w.heap.size w w') : RdLabs w' v ls := by
  obtain ⟨a, cap, hv, hc⟩ := h
  exact ⟨a, cap, hv, fun h0 => by
    obtain ⟨g, off, ha, hg, hcc⟩ := hc h0
    exact ⟨g, off, ha, Nat.lt_of_lt_of_le hg hb.size, fun i h => ⟨(hb.cell (p := ⟨g, off + i * 2, none⟩) hg).trans (hcc i h).1, (hb.cell (p := ⟨g, off + i * 2 + 1, none⟩) hg).trans (hcc i h).2⟩⟩⟩
def lvA (l : Lev) (v : Value) : Value := .agg #[.string l.name, .int .i64 l.pre, v, .int .i64 l.min, .int .i64 l.cents]
def LevFits (l : Lev) : Prop := l.name.size ≤ maxLen ∧ l.labs.length ≤ 100000 ∧ ∀ x ∈ l.labs, x.pre.size ≤ maxLen ∧ x.grp.size ≤ maxLen
def labOk (l : Lev) (x : Lab) : Bool := decide ((x.pre.size : Int) = l.pre) && plainB x.pre && nameB x.grp
def sortedB (labs : List Lab) : Prop := ∀ i, (h : i + 1 < labs.length) → ltB labs[i].pre labs[i + 1].pre = true
def labsTo (l : Lev) (k : Nat) : Prop := ∀ i, i < k → ∀ h : i < l.labs.length, labOk l l.labs[i] = true ∧ ∀ j, j + 1 = i → ∀ h' : j < l.labs.length, ltB l.labs[j].pre l.labs[i].pre = true
def headB (l : Lev) : Bool := nameB l.name && decide (0 ≤ l.pre ∧ l.pre ≤ 10 ∧ 0 ≤ l.cents ∧ l.cents ≤ 1000000)
def levelP (l : Lev) (last : Bool) : Prop := headB l = true ∧ if last then (l.min = 0 ∧ l.pre = 0 ∧ l.labs.length = 0) else ((1 ≤ l.min ∧ l.min ≤ 2000) ∧ labsTo l l.labs.length)
open Classical in
noncomputable def levelB (l : Lev) (last : Bool) : Bool := decide (levelP l last)
theorem levelB_iff {l : Lev} {last : Bool} : levelB l last = true ↔ levelP l last := by unfold levelB; simp
theorem levelB_false {l : Lev} {last : Bool} (h : ¬ levelP l last) : levelB l last = false := by unfold levelB; simp [h]
theorem headB_false {l : Lev} {last : Bool} (h : headB l = false) : levelB l last = false := levelB_false (fun h' => by rw [h'.1] at h; cases h)
set_option maxHeartbeats 2000000 in
theorem isLevel_head (l : Lev) (v : Value) (last : Bool) (w : World) (hf : LevFits l) (hh : headB l = false) :
    Calls Tryz.prog 108 #[lvA l v, .bool last] w fun e w' => e = .returned (.bool (levelB l last)) ∧ Below w.heap.size w w' := by
  obtain ⟨hn, hl, hx⟩ := hf
  have HF := Lib.hid (headB_false (last := last) hh)
  have hh' : nameB l.name = false ∨ (nameB l.name = true ∧ (l.pre < 0 ∨ (0 ≤ l.pre ∧ 10 < l.pre) ∨ ((0 ≤ l.pre ∧ l.pre ≤ 10) ∧ l.cents < 0) ∨ ((0 ≤ l.pre ∧ l.pre ≤ 10) ∧ 0 ≤ l.cents ∧ 1000000 < l.cents))) := by
    unfold headB at hh
    cases h : nameB l.name
    · exact .inl rfl
    · rw [h] at hh
      simp at hh
      exact .inr ⟨rfl, by omega⟩
  clear hh hl hx
  obtain ⟨name, pre, labs, min, cents⟩ := l
  dsimp only at hn hh'
  unfold lvA
  dsimp only
  generalize levelB _ _ = r at HF
  clear labs
  rcases hh' with h | ⟨h, h1 | ⟨h0, h1⟩ | ⟨⟨h0, h1⟩, h2⟩ | ⟨⟨h0, h1⟩, h2, h3⟩⟩
  all_goals
    go_enter Tryz.func108, Tryz.ntmps108
    go_wp2_with (go_at_call 177; refine (isName_any _ _ hn).mono ?_; rintro e w1 ⟨rfl, hb⟩; obtain ⟨hc1, hf1⟩ := bcell hb)
    go_ret
    exact ⟨ret_bool HF.out.symm, ((Below.refl _ w).alloc (Nat.le_refl _) _).trans (hb.mono (by simp))⟩
end Go.Proofs.YtojedplbhialpaaGreatDoor

/-! S3 -/
namespace Go.Proofs.YtojedplbhialpaaGreatDoor
open Go.RowKit
set_option linter.unusedVariables false
set_option maxRecDepth 100000
theorem cell_alloc_old {W : World} {b i : Nat} (o : Obj) (h : b < W.heap.size) : (W.alloc o).cell? ⟨b, i, none⟩ = W.cell? ⟨b, i, none⟩ :=
  ((Below.refl _ W).alloc (Nat.le_refl _) o).cell (p := ⟨b, i, none⟩) h
theorem below_ac {B : Nat} {w wr w2 : World} {o : Obj} (h : Below B w wr) (hB : B ≤ wr.heap.size) (h2 : Below (wr.alloc o).heap.size (wr.alloc o) w2) : Below B w w2 :=
  (h.alloc hB o).trans (h2.mono (by simp; omega))
theorem below_c {B : Nat} {w wr w2 : World} (h : Below B w wr) (hB : B ≤ wr.heap.size) (h2 : Below wr.heap.size wr w2) : Below B w w2 := h.trans (h2.mono hB)
theorem head_parts {l : Lev} (h : headB l = true) : nameB l.name = true ∧ 0 ≤ l.pre ∧ l.pre ≤ 10 ∧ 0 ≤ l.cents ∧ l.cents ≤ 1000000 := by
  unfold headB at h
  simpa using h
set_option maxHeartbeats 2000000 in
theorem isLevel_last (l : Lev) (v : Value) (w : World) (hf : LevFits l) (hh : headB l = true) (hv : ∃ a cap, v = .slice a l.labs.length cap) :
    Calls Tryz.prog 108 #[lvA l v, .bool true] w fun e w' => e = .returned (.bool (levelB l true)) ∧ Below w.heap.size w w' := by
  obtain ⟨hn, hl, hx⟩ := hf
  obtain ⟨a, cap, rfl⟩ := hv
  have HT : Hid (l.min = 0 → l.pre = 0 → l.labs.length = 0 → levelB l true = true) := fun h1 h2 h3 => levelB_iff.2 ⟨hh, by simp [h1, h2, h3]⟩
  have HF : Hid (¬ (l.min = 0 ∧ l.pre = 0 ∧ l.labs.length = 0) → levelB l true = false) := fun h => levelB_false (fun h' => h (by simpa using h'.2))
  obtain ⟨h, h1, h2, h3, h4⟩ := head_parts hh
  clear hh hx
  obtain ⟨name, pre, labs, min, cents⟩ := l
  dsimp only at *
  unfold lvA
  dsimp only
  generalize levelB _ _ = r at HT HF
  generalize labs.length = n at HT HF hl
  by_cases m0 : min = 0
  · subst m0
    by_cases p0 : pre = 0
    · subst p0
      by_cases n0 : n = 0
      · subst n0
        have HR := Lib.hid (HT.out rfl rfl rfl)
        clear HT HF
        go_enter Tryz.func108, Tryz.ntmps108
        go_wp2_with (go_at_call 177; refine (isName_any _ _ hn).mono ?_; rintro e w1 ⟨rfl, hb⟩; obtain ⟨hc1, hf1⟩ := bcell hb)
        go_ret
        exact ⟨ret_bool HR.out.symm, ((Below.refl _ w).alloc (Nat.le_refl _) _).trans (hb.mono (by simp))⟩
      · have hne : ((n : Int) == 0) = false := by simp; omega
        have HR := Lib.hid (HF.out (fun h => n0 h.2.2))
        clear n0
        go_enter Tryz.func108, Tryz.ntmps108
        go_wp2_with (go_at_call 177; refine (isName_any _ _ hn).mono ?_; rintro e w1 ⟨rfl, hb⟩; obtain ⟨hc1, hf1⟩ := bcell hb)
        go_ret
        exact ⟨ret_bool HR.out.symm, ((Below.refl _ w).alloc (Nat.le_refl _) _).trans (hb.mono (by simp))⟩
    · have hne : (pre == 0) = false := by simpa using p0
      have HR := Lib.hid (HF.out (fun h => p0 h.2.1))
      clear p0
      go_enter Tryz.func108, Tryz.ntmps108
      go_wp2_with (go_at_call 177; refine (isName_any _ _ hn).mono ?_; rintro e w1 ⟨rfl, hb⟩; obtain ⟨hc1, hf1⟩ := bcell hb)
      go_ret
      exact ⟨ret_bool HR.out.symm, ((Below.refl _ w).alloc (Nat.le_refl _) _).trans (hb.mono (by simp))⟩
  · have hne : (min == 0) = false := by simpa using m0
    have HR := Lib.hid (HF.out (fun h => m0 h.1))
    clear m0
    go_enter Tryz.func108, Tryz.ntmps108
    go_wp2_with (go_at_call 177; refine (isName_any _ _ hn).mono ?_; rintro e w1 ⟨rfl, hb⟩; obtain ⟨hc1, hf1⟩ := bcell hb)
    go_ret
    exact ⟨ret_bool HR.out.symm, ((Below.refl _ w).alloc (Nat.le_refl _) _).trans (hb.mono (by simp))⟩
set_option maxHeartbeats 2000000 in
theorem isLevel_min (l : Lev) (v : Value) (w : World) (hf : LevFits l) (hh : headB l = true) (hm : l.min < 1 ∨ 2000 < l.min) :
    Calls Tryz.prog 108 #[lvA l v, .bool false] w fun e w' => e = .returned (.bool (levelB l false)) ∧ Below w.heap.size w w' := by
  obtain ⟨hn, hl, hx⟩ := hf
  have HR : Hid (levelB l false = false) := levelB_false (fun h => by have := h.2; simp at this; omega)
  obtain ⟨h, h1, h2, h3, h4⟩ := head_parts hh
  clear hh hx
  obtain ⟨name, pre, labs, min, cents⟩ := l
  dsimp only at *
  unfold lvA
  dsimp only
  generalize levelB _ _ = r at HR
  rcases hm with hm | hm
  all_goals
    go_enter Tryz.func108, Tryz.ntmps108
    go_wp2_with (go_at_call 177; refine (isName_any _ _ hn).mono ?_; rintro e w1 ⟨rfl, hb⟩; obtain ⟨hc1, hf1⟩ := bcell hb)
    go_ret
    exact ⟨ret_bool HR.out.symm, ((Below.refl _ w).alloc (Nat.le_refl _) _).trans (hb.mono (by simp))⟩
theorem labOk_cases {l : Lev} {x : Lab} : (labOk l x = false ∧ (((x.pre.size : Int) != l.pre) = true ∨ (((x.pre.size : Int) != l.pre) = false ∧ plainB x.pre = false) ∨ (((x.pre.size : Int) != l.pre) = false ∧ plainB x.pre = true ∧ nameB x.grp = false))) ∨
    (labOk l x = true ∧ ((x.pre.size : Int) != l.pre) = false ∧ plainB x.pre = true ∧ nameB x.grp = true) := by
  unfold labOk
  by_cases h : (x.pre.size : Int) = l.pre
  · cases h1 : plainB x.pre <;> cases h2 : nameB x.grp <;> simp [h]
  · simp [h]
theorem labsTo_succ {l : Lev} {k : Nat} (h : labsTo l k) (hk : k < l.labs.length) (h1 : labOk l l.labs[k] = true) (h2 : ∀ j, j + 1 = k → ∀ h' : j < l.labs.length, ltB l.labs[j].pre l.labs[k].pre = true) : labsTo l (k + 1) := by
  intro i hi hlt
  by_cases e : i = k
  · subst e; exact ⟨h1, h2⟩
  · exact h i (by omega) hlt
theorem levelB_not_lab {l : Lev} {k : Nat} (hk : k < l.labs.length) (h : labOk l l.labs[k] = false) : levelB l false = false :=
  levelB_false (fun h' => by
    have := h'.2
    simp only [Bool.false_eq_true, if_false] at this
    have := (this.2 k hk hk).1
    rw [h] at this; cases this)
theorem levelB_not_sorted {l : Lev} {j : Nat} (hk : j + 1 < l.labs.length) (h : ltB l.labs[j].pre l.labs[j + 1].pre = false) : levelB l false = false :=
  levelB_false (fun h' => by
    have := h'.2
    simp only [Bool.false_eq_true, if_false] at this
    have := (this.2 (j + 1) hk hk).2 j rfl (by omega)
    rw [h] at this; cases this)
set_option maxHeartbeats 8000000 in
theorem isLevel_labs (l : Lev) (v : Value) (w : World) (hf : LevFits l) (hh : headB l = true) (hm1 : 1 ≤ l.min) (hm2 : l.min ≤ 2000) (hr : RdLabs w v l.labs) :
    Calls Tryz.prog 108 #[lvA l v, .bool false] w fun e w' => e = .returned (.bool (levelB l false)) ∧ Below w.heap.size w w' := by
  obtain ⟨hn, hl, hx⟩ := hf
  obtain ⟨a, cap, rfl, hc⟩ := hr
  have HC := Lib.hid hc
  have HX := Lib.hid hx
  have HT : Hid (labsTo l l.labs.length → levelB l false = true) := fun h => levelB_iff.2 ⟨hh, by simp; exact ⟨⟨hm1, hm2⟩, h⟩⟩
  have HF1 : Hid (∀ k (hk : k < l.labs.length), labOk l l.labs[k] = false → levelB l false = false) := fun k hk => levelB_not_lab hk
  have HF2 : Hid (∀ j (hk : j + 1 < l.labs.length), ltB l.labs[j].pre l.labs[j + 1].pre = false → levelB l false = false) := fun j hk => levelB_not_sorted hk
  obtain ⟨h, h1, h2, h3, h4⟩ := head_parts hh
  clear hh hx hc
  generalize levelB l false = r at HT HF1 HF2
  unfold lvA
  go_enter Tryz.func108, Tryz.ntmps108
  go_wp2_with (go_at_call 177; refine (isName_any _ _ hn).mono ?_; rintro e w1 ⟨rfl, hb⟩; obtain ⟨hc1, hf1⟩ := bcell hb)
  go_loopw [57] (fun i wr => ∃ k : Nat, k ≤ l.labs.length ∧ i = .int .i64 k ∧ Hid (labsTo l k) ∧ Below (w.heap.size + 1) (w.alloc (.cells #[.string l.name, .int .i64 l.pre, .slice a l.labs.length cap, .int .i64 l.min, .int .i64 l.cents] 93)) wr) (fun i _ => l.labs.length - (intOf i).toNat)
  case atStart => exact ⟨0, Nat.zero_le _, rfl, fun j h => by omega, by simpa using hb⟩
  case round =>
    clear hc1 hf1 hb
    obtain ⟨k, hk, rfl, ha, hB⟩ := hrel
    have hbx : w.heap.size < (w.alloc (.cells #[.string l.name, .int .i64 l.pre, .slice a l.labs.length cap, .int .i64 l.min, .int .i64 l.cents] 93)).heap.size := by simp
    have b1 : wr.cell? ⟨w.heap.size, 1, none⟩ = some (.int .i64 l.pre) := (hB.cell (p := ⟨w.heap.size, 1, none⟩) (Nat.lt_succ_self _)).trans (by simp [go_sem])
    have b2 : wr.cell? ⟨w.heap.size, 2, none⟩ = some (.slice a l.labs.length cap) := (hB.cell (p := ⟨w.heap.size, 2, none⟩) (Nat.lt_succ_self _)).trans (by simp [go_sem])
    have hsz : w.heap.size < wr.heap.size := Nat.lt_of_lt_of_le hbx hB.size
    have hend : Below w.heap.size w wr := ((Below.refl _ w).alloc (Nat.le_refl _) _).trans (hB.mono (Nat.le_succ _))
    by_cases hlt : k < l.labs.length
    · obtain ⟨g, off, rfl, hg, hcc⟩ := HC.out (by omega)
      have hgr : g < wr.heap.size := by omega
      have cl : ∀ o, wr.cell? ⟨g, o, none⟩ = w.cell? ⟨g, o, none⟩ := fun o => (hend.cell (p := ⟨g, o, none⟩) hg)
      have c1 : wr.cell? ⟨g, off + k * 2, none⟩ = some (.string l.labs[k].pre) := (cl _).trans (hcc k hlt).1
      have c2 : wr.cell? ⟨g, off + k * 2 + 1, none⟩ = some (.string l.labs[k].grp) := (cl _).trans (hcc k hlt).2
      have x1 := (HX.out _ (List.getElem_mem hlt)).1
      have x2 := (HX.out _ (List.getElem_mem hlt)).2
      have HN := Lib.hid (fun a b => labsTo_succ ha.out hlt a b)
      have HFK := Lib.hid (HF1.out k hlt)
      have hprev : Hid (∀ j, j + 1 = k → ∃ q : ByteArray, wr.cell? ⟨g, off + j * 2, none⟩ = some (.string q) ∧ (ltB q l.labs[k].pre = false → r = false) ∧ (ltB q l.labs[k].pre = true → ∀ j, j + 1 = k → ∀ h' : j < l.labs.length, ltB l.labs[j].pre l.labs[k].pre = true)) := fun j hj => by
        subst hj
        exact ⟨l.labs[j].pre, (cl _).trans (hcc j (by omega)).1, fun h => HF2.out j hlt h, fun h i hi _ => by
          obtain rfl : i = j := by omega
          exact h⟩
      clear cl hcc HC HX HF1 HF2 HT ha
      rcases labOk_cases (l := l) (x := l.labs[k]) with ⟨hlo, hcs⟩ | ⟨hlo, t1, t2, t3⟩
      · have HR := Lib.hid (HFK.out hlo)
        clear hlo HFK HN hprev
        generalize l.labs[k].pre = xp at c1 hcs x1
        generalize l.labs[k].grp = xg at c2 hcs x2
        rcases hcs with t1 | ⟨t1, t2⟩ | ⟨t1, t2, t3⟩
        · go_wp2_with fail
          go_ret
          exact ⟨ret_bool HR.out.symm, hend.alloc (Nat.le_of_lt hsz) _⟩
        · go_wp2_with (go_at_call 178; refine (isPlain_any _ _ x1).mono ?_; rintro e w2 ⟨rfl, hb2⟩; obtain ⟨hc2, hf2⟩ := bcell hb2)
          go_ret
          exact ⟨ret_bool HR.out.symm, below_ac hend (Nat.le_of_lt hsz) hb2⟩
        · go_wp2_with (first | (go_at_call 178; refine (isPlain_any _ _ x1).mono ?_; rintro e w2 ⟨rfl, hb2⟩; obtain ⟨hc2, hf2⟩ := bcell hb2; have hz2 := hb2.size) | (go_at_call 177; refine (isName_any _ _ x2).mono ?_; rintro e w3 ⟨rfl, hb3⟩; obtain ⟨hc3, hf3⟩ := bcell hb3))
          go_ret
          exact ⟨ret_bool HR.out.symm, below_c (below_ac hend (Nat.le_of_lt hsz) hb2) (by have := hb2.size; simp at this; omega) hb3⟩
      · clear HFK
        have HN' := Lib.hid (HN.out hlo)
        clear HN hlo
        generalize l.labs[k].pre = xp at c1 t1 t2 x1 HN' hprev
        generalize l.labs[k].grp = xg at c2 t3 x2
        by_cases k0 : 0 < k
        · obtain ⟨q, hq, hq1, hq2⟩ := hprev.out (k - 1) (by omega)
          have HQ1 := Lib.hid hq1
          have HQ2 := Lib.hid hq2
          clear hq1 hq2 hprev
          have hle := leq_eq xp q
          go_wp2_with (first | (go_at_call 178; refine (isPlain_any _ _ x1).mono ?_; rintro e w2 ⟨rfl, hb2⟩; obtain ⟨hc2, hf2⟩ := bcell hb2; have hz2 := hb2.size) | (go_at_call 177; refine (isName_any _ _ x2).mono ?_; rintro e w3 ⟨rfl, hb3⟩; obtain ⟨hc3, hf3⟩ := bcell hb3))
          have d1 : w3.cell? ⟨w.heap.size, 2, none⟩ = some (.slice (some ⟨g, off, none⟩) l.labs.length cap) := by
            rw [hc3 _ _ (by simp at hz2; omega), hc2 _ _ (by simp; omega)]
            exact (cell_alloc_old _ hsz).trans b2
          have d2 : w3.cell? ⟨g, off + (k - 1) * 2, none⟩ = some (.string q) := by
            rw [hc3 _ _ (by simp at hz2; omega), hc2 _ _ (by simp; omega)]
            exact (cell_alloc_old _ hgr).trans hq
          have d3 : w3.cell? ⟨wr.heap.size, 0, none⟩ = some (.string xp) := by
            rw [hc3 _ _ (by simp at hz2; omega), hc2 _ _ (by simp)]
            simp [go_sem]
          have HB : Hid (Below (w.heap.size + 1) (w.alloc (.cells #[.string l.name, .int .i64 l.pre, .slice (some ⟨g, off, none⟩) l.labs.length cap, .int .i64 l.min, .int .i64 l.cents] 93)) w3) := below_c (below_ac hB hsz hb2) (by have := hb2.size; simp at this; omega) hb3
          have HE : Hid (Below w.heap.size w w3) := below_c (below_ac hend (by omega) hb2) (by have := hb2.size; simp at this; omega) hb3
          clear hc2 hc3 hf2 hf3 hb2 hb3 hB hend b1 b2 c1 c2 hq hz2
          have hd1 : decide (0 < k) = true := by simpa using k0
          have hd2 : decide ((0 : Int) < (k : Int)) = true := by simp; omega
          have hw2 : 0 ≤ (k : Int) - 1 := by omega
          have hw3 : ((k : Int) - 1).toNat = k - 1 := by omega
          have hw4 : (k : Int) - 1 < (l.labs.length : Int) := by omega
          have hw5 : 1 ≤ k := by omega
          have hw6 : k - 1 < l.labs.length := by omega
          have hw1 : IntKind.i64.wrap ((k : Int) - 1) = (k : Int) - 1 := IntWalk.i64_in _ (by omega)
          cases hq : ltB q xp
          · rw [hq] at hle
            have HR := Lib.hid (HQ1.out hq)
            go_quiet (fail)
            clear hw1
            go_wp2_with fail
            go_ret
            exact ⟨ret_bool HR.out.symm, below_drewN HE.out _⟩
          · rw [hq] at hle
            have HR := Lib.hid (HQ2.out hq)
            go_quiet (fail)
            clear hw1
            go_wp2_with fail
            go_roundw
            case rel => exact ⟨k + 1, by omega, by go_num, HN'.out HR.out, below_drewN HB.out _⟩
            case measure => simp [intOf]; omega
        · have hd1 : decide (0 < k) = false := by simp; omega
          have hd2 : decide ((0 : Int) < (k : Int)) = false := by simp; omega
          go_wp2_with (first | (go_at_call 178; refine (isPlain_any _ _ x1).mono ?_; rintro e w2 ⟨rfl, hb2⟩; obtain ⟨hc2, hf2⟩ := bcell hb2; have hz2 := hb2.size) | (go_at_call 177; refine (isName_any _ _ x2).mono ?_; rintro e w3 ⟨rfl, hb3⟩; obtain ⟨hc3, hf3⟩ := bcell hb3))
          go_quiet (fail)
          go_wp2_with fail
          go_roundw
          case rel => exact ⟨k + 1, by omega, by go_num, HN'.out (fun j hj => by omega), below_drewN (below_c (below_ac hB hsz hb2) (by have := hb2.size; simp at this; omega) hb3) _⟩
          case measure => simp [intOf]; omega
    · have HR := Lib.hid (HT.out (by obtain rfl : k = l.labs.length := by omega
                                     exact ha.out))
      go_wp2_with fail
      go_ret
      exact ⟨ret_bool HR.out.symm, hend⟩
theorem isLevel_any (l : Lev) (v : Value) (last : Bool) (w : World) (hf : LevFits l) (hr : RdLabs w v l.labs) :
    Calls Tryz.prog 108 #[lvA l v, .bool last] w fun e w' => e = .returned (.bool (levelB l last)) ∧ Below w.heap.size w w' := by
  cases hh : headB l
  · exact isLevel_head l v last w hf hh
  · cases last
    · by_cases hm : l.min < 1 ∨ 2000 < l.min
      · exact isLevel_min l v w hf hh hm
      · exact isLevel_labs l v w hf hh (by omega) (by omega) hr
    · exact isLevel_last l v w hf hh (by obtain ⟨a, cap, h, _⟩ := hr; exact ⟨a, cap, h⟩)
end Go.Proofs.YtojedplbhialpaaGreatDoor

/-! S4 -/
namespace Go.Proofs.YtojedplbhialpaaGreatDoor
open Go.RowKit
set_option linter.unusedVariables false
set_option maxRecDepth 100000
def cmpI (a b : ByteArray) : Int := if ltB a b then -1 else if ltB b a then 1 else 0
theorem isNaN_str (s : ByteArray) (w : World) : Calls Tryz.prog 230 #[.string s] w fun e w' => e = .returned (.bool false) ∧ w = w' := by
  go_enter Tryz.func230, Tryz.ntmps230
  go_wp2
  go_ret
  exact ⟨by simp, rfl⟩
theorem compare_str (a b : ByteArray) (w : World) : Calls Tryz.prog 215 #[.string a, .string b] w fun e w' => e = .returned (.int .i64 (cmpI a b)) ∧ w = w' := by
  have h1 := less_eq a b
  have h3 := ba_eq a b
  have HC : Hid (cmpI a b = if ltB a b then -1 else if ltB b a then 1 else 0) := rfl
  rcases ltB_tri a b with h | h | h
  · rw [h] at h1 HC
    rw [decide_eq_false (ltB_ne h)] at h3
    generalize cmpI a b = c at HC
    clear h
    go_enter Tryz.func215, Tryz.ntmps215
    go_wp2_with (go_at_call 230; refine (isNaN_str _ _).mono ?_; rintro e w' ⟨rfl, rfl⟩)
    go_ret
    exact ⟨ret_int (by rw [HC.out]; rfl), rfl⟩
  · have hc2 : cmpI a b = 0 := by unfold cmpI; rw [h]; simp [ltB_irrefl]
    have HC2 := Lib.hid hc2
    clear hc2
    rw [h, ltB_irrefl] at h1
    rw [decide_eq_true h] at h3
    have h1' : Op.bytesLess a.toList b.toList = false := by rw [h]; exact h1
    generalize cmpI a b = c at HC2
    clear h h1 HC
    go_enter Tryz.func215, Tryz.ntmps215
    go_wp2_with (go_at_call 230; refine (isNaN_str _ _).mono ?_; rintro e w' ⟨rfl, rfl⟩)
    go_ret
    exact ⟨ret_int (by rw [HC2.out]), rfl⟩
  · rw [ltB_asymm h] at h1 HC
    rw [h] at HC
    rw [decide_eq_false (fun e => ltB_ne h e.symm)] at h3
    generalize cmpI a b = c at HC
    clear h
    go_enter Tryz.func215, Tryz.ntmps215
    go_wp2_with (go_at_call 230; refine (isNaN_str _ _).mono ?_; rintro e w' ⟨rfl, rfl⟩)
    go_ret
    exact ⟨ret_int (by rw [HC.out]; rfl), rfl⟩
theorem labelled1_any (x : Lab) (p : ByteArray) (w : World) : Calls Tryz.prog 214 #[.agg #[.string x.pre, .string x.grp], .string p] w fun e w' => e = .returned (.int .i64 (cmpI x.pre p)) ∧ Below w.heap.size w w' := by
  go_enter Tryz.func214, Tryz.ntmps214
  go_wp2_with (go_at_call 215; refine (compare_str _ _ _).mono ?_; rintro e w' ⟨rfl, rfl⟩)
  go_ret
  exact ⟨rfl, (Below.refl _ w).alloc (Nat.le_refl _) _⟩
theorem cmpI_neg {a b : ByteArray} (h : ltB a b = true) : cmpI a b < 0 := by unfold cmpI; simp [h]
theorem cmpI_pos {a b : ByteArray} (h : ltB a b = false) : 0 ≤ cmpI a b := by unfold cmpI; simp [h]; split <;> omega
theorem cmpI_zero {a b : ByteArray} : (cmpI a b == 0) = decide (a = b) := by
  unfold cmpI
  rcases ltB_tri a b with h | h | h
  · rw [h, decide_eq_false (ltB_ne h)]; rfl
  · rw [h, ltB_irrefl]; simp
  · rw [h, ltB_asymm h, decide_eq_false (fun e => ltB_ne h e.symm)]; rfl
def labOf (labs : List Lab) (p : ByteArray) : Option ByteArray := (labs.find? (fun x => decide (x.pre = p))).map (·.grp)
theorem sorted_lt {labs : List Lab} (h : sortedB labs) {s t : Nat} (hst : s < t) (ht : t < labs.length) : ltB (labs[s]'(by omega)).pre labs[t].pre = true := by
  induction t with
  | zero => omega
  | succ t ih =>
    by_cases e : s = t
    · subst e; exact h s ht
    · exact ltB_trans (ih (by omega) (by omega)) (h t ht)
theorem labOf_at {labs : List Lab} (h : sortedB labs) {i : Nat} (hi : i < labs.length) : labOf labs labs[i].pre = some labs[i].grp := by
  unfold labOf
  have hfind : labs.find? (fun x => decide (x.pre = labs[i].pre)) = some labs[i] := List.find?_eq_some_iff_getElem.2 ⟨by simp, i, hi, rfl, fun j hj => by
    simp only [Bool.not_eq_true', decide_eq_false_iff_not]
    exact ltB_ne (sorted_lt h hj hi)⟩
  rw [hfind]
  rfl
theorem labOf_none {labs : List Lab} {p : ByteArray} (h : ∀ i (hi : i < labs.length), labs[i].pre ≠ p) : labOf labs p = none := by
  unfold labOf
  rw [List.find?_eq_none.2 (fun x hx => by
    obtain ⟨i, hi, rfl⟩ := List.mem_iff_getElem.1 hx
    simpa using h i hi)]
  rfl
theorem search_end {labs : List Lab} {p : ByteArray} (h : sortedB labs) {i : Nat} (h1 : ∀ t, t < i → ∀ ht : t < labs.length, ltB labs[t].pre p = true) (h2 : ∀ t, i ≤ t → ∀ ht : t < labs.length, ltB labs[t].pre p = false) :
    (∀ hi : i < labs.length, labs[i].pre = p → labOf labs p = some labs[i].grp) ∧ ((∀ hi : i < labs.length, labs[i].pre ≠ p) → labOf labs p = none) := by
  constructor
  · rintro hi rfl; exact labOf_at h hi
  · intro hn
    refine labOf_none (fun t ht => ?_)
    rcases Nat.lt_trichotomy t i with hlt | rfl | hgt
    · exact ltB_ne (h1 t hlt ht)
    · exact hn ht
    · have hi : i < labs.length := by omega
      have ha := sorted_lt h hgt ht
      have hb := h2 i (Nat.le_refl _) hi
      rcases ltB_tri labs[i].pre p with hc | hc | hc
      · rw [hc] at hb; cases hb
      · exact absurd hc (hn hi)
      · exact fun e => ltB_ne (ltB_trans hc ha) e.symm
set_option maxHeartbeats 4000000 in
theorem search_any (labs : List Lab) (p : ByteArray) (v : Value) (w : World) (hl : labs.length ≤ 100000) (hr : RdLabs w v labs) (hs : sortedB labs) :
    Calls Tryz.prog 213 #[v, .string p, .func (.func 214) #[] #[]] w fun e w' => ∃ (i : Nat) (b : Bool), e = .returned (.tuple #[.int .i64 i, .bool b]) ∧ Below w.heap.size w w' ∧
      ((b = true ∧ ∃ hi : i < labs.length, labOf labs p = some labs[i].grp) ∨ (b = false ∧ labOf labs p = none)) := by
  obtain ⟨a, cap, rfl, hc⟩ := hr
  have HC := Lib.hid hc
  have HS := Lib.hid hs
  clear hc hs
  go_enter Tryz.func213, Tryz.ntmps213
  go_wp2_with fail
  go_loopw [9, 10] (fun vi vj wr => ∃ i j : Nat, i ≤ j ∧ j ≤ labs.length ∧ vi = .int .i64 i ∧ vj = .int .i64 j ∧ Below w.heap.size w wr ∧ Hid (∀ t, t < i → ∀ ht : t < labs.length, ltB labs[t].pre p = true) ∧ Hid (∀ t, j ≤ t → ∀ ht : t < labs.length, ltB labs[t].pre p = false)) (fun vi vj _ => (intOf vj).toNat - (intOf vi).toNat)
  case atStart => exact ⟨0, labs.length, Nat.zero_le _, Nat.le_refl _, rfl, rfl, Below.refl _ _, fun t h => by omega, fun t h ht => by omega⟩
  case round =>
    obtain ⟨i, j, hij, hjn, rfl, rfl, hB, H1, H2⟩ := hrel
    by_cases hlt : i < j
    · obtain ⟨g, off, rfl, hg, hcc⟩ := HC.out (by omega)
      have hm : (i + j) / 2 < labs.length := by omega
      have cl : ∀ o, wr.cell? ⟨g, o, none⟩ = w.cell? ⟨g, o, none⟩ := fun o => (hB.cell (p := ⟨g, o, none⟩) hg)
      have c1 : wr.cell? ⟨g, off + (i + j) / 2 * 2, none⟩ = some (.string labs[(i + j) / 2].pre) := (cl _).trans (hcc _ hm).1
      have c2 : wr.cell? ⟨g, off + (i + j) / 2 * 2 + 1, none⟩ = some (.string labs[(i + j) / 2].grp) := (cl _).trans (hcc _ hm).2
      have N1 : Hid (ltB labs[(i + j) / 2].pre p = true → ∀ t, t < (i + j) / 2 + 1 → ∀ ht : t < labs.length, ltB labs[t].pre p = true) := fun h t h1 ht => by
        by_cases e : t = (i + j) / 2
        · subst e; exact h
        · exact ltB_trans (sorted_lt HS.out (show t < (i + j) / 2 by omega) hm) h
      have N2 : Hid (ltB labs[(i + j) / 2].pre p = false → ∀ t, (i + j) / 2 ≤ t → ∀ ht : t < labs.length, ltB labs[t].pre p = false) := fun h t h1 ht => by
        by_cases e : t = (i + j) / 2
        · subst e; exact h
        · cases e' : ltB labs[t].pre p
          · rfl
          · rw [ltB_trans (sorted_lt HS.out (show (i + j) / 2 < t by omega) ht) e'] at h; cases h
      clear cl hcc HC HS
      generalize labs[(i + j) / 2] = x at c1 c2 N1 N2
      cases hx : ltB x.pre p
      · have hcn := cmpI_pos hx
        have N := Lib.hid (N2.out hx)
        clear N1 N2 hx
        have hcall := labelled1_any x p
        have HCL := Lib.hid hcall
        clear hcall
        generalize cmpI x.pre p = cc at hcn HCL
        go_wp2_with (go_at_call 214; refine (HCL.out _).mono ?_; rintro e w2 ⟨rfl, hb2⟩)
        go_roundw
        case rel => exact ⟨i, (i + j) / 2, by omega, by omega, rfl, by go_num, below_c hB hB.size hb2, H1, N⟩
        case measure => simp [intOf]; omega
      · have hcn := cmpI_neg hx
        have N := Lib.hid (N1.out hx)
        clear N1 N2 hx
        have hcall := labelled1_any x p
        have HCL := Lib.hid hcall
        clear hcall
        generalize cmpI x.pre p = cc at hcn HCL
        go_wp2_with (go_at_call 214; refine (HCL.out _).mono ?_; rintro e w2 ⟨rfl, hb2⟩)
        go_roundw
        case rel => exact ⟨(i + j) / 2 + 1, j, by omega, by omega, by go_num, rfl, below_c hB hB.size hb2, N, H2⟩
        case measure => simp [intOf]; omega
    · obtain rfl : i = j := by omega
      obtain ⟨F1, F2⟩ := search_end HS.out H1.out H2.out
      have HF1 := Lib.hid F1
      have HF2 := Lib.hid F2
      clear F1 F2 H1 H2 HS
      by_cases hin : i < labs.length
      · obtain ⟨g, off, rfl, hg, hcc⟩ := HC.out (by omega)
        have cl : ∀ o, wr.cell? ⟨g, o, none⟩ = w.cell? ⟨g, o, none⟩ := fun o => (hB.cell (p := ⟨g, o, none⟩) hg)
        have c1 : wr.cell? ⟨g, off + i * 2, none⟩ = some (.string labs[i].pre) := (cl _).trans (hcc _ hin).1
        have c2 : wr.cell? ⟨g, off + i * 2 + 1, none⟩ = some (.string labs[i].grp) := (cl _).trans (hcc _ hin).2
        have HFIN : Hid ((decide (labs[i].pre = p) = true ∧ ∃ hi : i < labs.length, labOf labs p = some labs[i].grp) ∨ (decide (labs[i].pre = p) = false ∧ labOf labs p = none)) := by
          by_cases e : labs[i].pre = p
          · exact .inl ⟨decide_eq_true e, hin, HF1.out hin e⟩
          · exact .inr ⟨decide_eq_false e, HF2.out (fun _ => e)⟩
        have hz := cmpI_zero (a := labs[i].pre) (b := p)
        clear cl hcc HC HF1 HF2
        have hcall := labelled1_any labs[i] p
        generalize cmpI labs[i].pre p = cc at hz hcall
        generalize decide (labs[i].pre = p) = bb at hz HFIN
        have HCL := Lib.hid hcall
        clear hcall
        generalize labs[i].pre = x1 at c1 HCL
        generalize labs[i].grp = x2 at c2 HCL
        go_wp2_with (go_at_call 214; refine (HCL.out _).mono ?_; rintro e w2 ⟨rfl, hb2⟩)
        go_ret2
        exact ⟨i, bb, rfl, below_c hB hB.size hb2, HFIN.out⟩
      · have hd : decide (i < labs.length) = false := by simpa using hin
        have HR := Lib.hid (HF2.out (fun h => absurd h hin))
        go_wp2_with fail
        go_ret2
        exact ⟨i, false, rfl, hB, .inr ⟨rfl, HR.out⟩⟩
def grpOf (l : Lev) (code : ByteArray) : ByteArray := (labOf l.labs (code.extract 0 l.pre.toNat)).getD (code.extract 0 l.pre.toNat)
set_option maxHeartbeats 2000000 in
theorem labelled_any (l : Lev) (p : ByteArray) (v : Value) (w : World) (hf : LevFits l) (hr : RdLabs w v l.labs) (hs : sortedB l.labs) :
    Calls Tryz.prog 180 #[lvA l v, .string p] w fun e w' => e = .returned (.tuple #[.string ((labOf l.labs p).getD ⟨#[]⟩), .bool (labOf l.labs p).isSome]) ∧ Below w.heap.size w w' := by
  obtain ⟨hn, hl, hx⟩ := hf
  have hr' := hr.below ((Below.refl _ w).alloc (Nat.le_refl _) (.cells #[.string l.name, .int .i64 l.pre, v, .int .i64 l.min, .int .i64 l.cents] 93))
  have HCL := Lib.hid (search_any l.labs p v _ hl hr' hs)
  clear hx hn hs hr'
  obtain ⟨a, cap, rfl, hc⟩ := hr
  have HC := Lib.hid hc
  clear hc
  unfold lvA
  go_enter Tryz.func180, Tryz.ntmps180
  go_wp2_with fail
  refine HCL.out.mono ?_
  rintro e w2 ⟨i, b, rfl, hb2, hres⟩
  have hend : Below w.heap.size w w2 := below_ac (Below.refl _ w) (Nat.le_refl _) hb2
  have b2 : w2.cell? ⟨w.heap.size, 2, none⟩ = some (.slice a l.labs.length cap) := (hb2.cell (p := ⟨w.heap.size, 2, none⟩) (by simp)).trans (by simp [go_sem])
  clear hb2 HCL
  rcases hres with ⟨rfl, hi, hlab⟩ | ⟨rfl, hlab⟩
  · obtain ⟨g, off, rfl, hg, hcc⟩ := HC.out (by omega)
    have c2 : w2.cell? ⟨g, off + i * 2 + 1, none⟩ = some (.string l.labs[i].grp) := (hend.cell (p := ⟨g, off + i * 2 + 1, none⟩) hg).trans (hcc _ hi).2
    have HL := Lib.hid hlab
    clear hlab hcc HC
    generalize l.labs[i].grp = x at c2 HL
    go_wp2_with fail
    go_ret2
    exact ⟨by rw [HL.out]; rfl, hend⟩
  · have HL := Lib.hid hlab
    clear hlab HC
    go_wp2_with fail
    go_ret2
    exact ⟨by rw [HL.out]; rfl, hend⟩
theorem grp_some {l : Lev} {c p : ByteArray} (hp : p = c.extract 0 l.pre.toNat) {x : ByteArray} (h : labOf l.labs p = some x) : grpOf l c = x := by unfold grpOf; rw [← hp, h]; rfl
theorem grp_none {l : Lev} {c p : ByteArray} (hp : p = c.extract 0 l.pre.toNat) (h : labOf l.labs p = none) : grpOf l c = p := by unfold grpOf; rw [← hp, h]; rfl
set_option maxHeartbeats 2000000 in
theorem group_any (l : Lev) (c : ByteArray) (v : Value) (w : World) (hf : LevFits l) (hr : RdLabs w v l.labs) (hs : sortedB l.labs) (h0 : 0 ≤ l.pre) (h1 : l.pre ≤ c.size) (hcs : c.size ≤ maxLen) :
    Calls Tryz.prog 173 #[lvA l v, .string c] w fun e w' => e = .returned (.string (grpOf l c)) ∧ Below w.heap.size w w' := by
  have hr' := hr.below ((Below.refl _ w).alloc (Nat.le_refl _) (.cells #[.string l.name, .int .i64 l.pre, v, .int .i64 l.min, .int .i64 l.cents] 93))
  have HCL := Lib.hid (fun p => labelled_any l p v _ hf hr' hs)
  clear hr' hf hr hs
  unfold maxLen at hcs
  obtain ⟨n, hn⟩ : ∃ n : Nat, l.pre = n := ⟨l.pre.toNat, by omega⟩
  have HN := Lib.hid hn
  have e0 : Hid (∀ p, p = c.extract 0 n → p = c.extract 0 l.pre.toNat) := fun p h => by rw [h, HN.out]; rfl
  unfold lvA at HCL ⊢
  rw [hn] at HCL ⊢ h1
  clear hn HN h0
  go_enter Tryz.func173, Tryz.ntmps173
  go_wp2_with fail
  refine (HCL.out _).mono ?_
  rintro e w2 ⟨rfl, hb2⟩
  have hend : Below w.heap.size w w2 := below_ac (Below.refl _ w) (Nat.le_refl _) hb2
  clear hb2
  cases hlab : labOf l.labs (c.extract 0 n) with
  | none =>
    have HG := Lib.hid (grp_none (e0.out _ rfl) hlab)
    clear hlab HCL
    go_wp2_with fail
    go_ret
    exact ⟨ret_str HG.out.symm, hend⟩
  | some x =>
    have HG := Lib.hid (grp_some (e0.out _ rfl) hlab)
    clear hlab HCL
    go_wp2_with fail
    go_ret
    exact ⟨ret_str HG.out.symm, hend⟩
end Go.Proofs.YtojedplbhialpaaGreatDoor

/-! S5 -/
namespace Go.Proofs.YtojedplbhialpaaGreatDoor
open Go.RowKit Go.Maps Go.WideMaps
set_option linter.unusedVariables false
structure ElemLaw (E : TypeId) (α : Type) (enc : α → Lit) (val : α → Value) (ok : α → Prop) (z0 : α) : Prop where
  lay : ∀ x, ok x → plainElem (H := Unit) Tryz.prog E (val x) = some (.lit (enc x), [])
  inv : ∀ v x ps, plainElem (H := Unit) Tryz.prog E v = some (.lit (enc x), ps) → v = val x
  zero : ∀ w, (zeroValue E).run Tryz.prog w = .ok (val z0) w
  okz : ok z0
theorem strLaw : ElemLaw 9 ByteArray (fun s => .string s.data.toList) Value.string (fun s => s.size ≤ maxLen) ⟨#[]⟩ where
  lay := fun x h => plainElem_string Tryz.underlying9 h
  inv := fun v x ps h => by
    obtain ⟨s, rfl, hz, _⟩ := plainElem_string_inv Tryz.underlying9 h
    simp only [Prod.mk.injEq, DataW.lit.injEq, Lit.string.injEq] at hz
    rw [ba_inj hz.1]
  zero := fun w => by kernel_rfl
  okz := by decide
theorem plainElem_bool_inv {e : TypeId} (he : Tryz.prog.underlying e = some .bool) {v : Value} {z : DataW Unit × List MemPlace} (h : plainElem Tryz.prog e v = some z) : ∃ s : Bool, v = .bool s ∧ z = (.lit (.bool s), []) := by
  unfold plainElem at h
  rw [he] at h
  cases v <;> simp at h
  exact ⟨_, rfl, h.symm⟩
theorem boolLaw : ElemLaw 4 Bool Lit.bool Value.bool (fun _ => True) false where
  lay := fun x h => plainElem_bool Tryz.underlying4 x
  inv := fun v x ps h => by
    obtain ⟨s, rfl, hz⟩ := plainElem_bool_inv Tryz.underlying4 h
    simp only [Prod.mk.injEq, DataW.lit.injEq, Lit.bool.injEq] at hz
    rw [hz.1]
  zero := fun w => by kernel_rfl
  okz := trivial
theorem intLaw : ElemLaw 3 Int (Lit.int .i64) (Value.int .i64) (fun n => (Lit.int .i64 n).wf = true) 0 where
  lay := fun x h => plainElem_int Tryz.underlying3 h
  inv := fun v x ps h => by
    obtain ⟨s, rfl, hz, _⟩ := plainElem_int_inv Tryz.underlying3 h
    simp only [Prod.mk.injEq, DataW.lit.injEq, Lit.int.injEq, true_and] at hz
    rw [hz.1]
  zero := fun w => by kernel_rfl
  okz := by decide
def litK (s : ByteArray) : Lit := .string s.data.toList
def OwnsF {α : Type} (E : TypeId) (enc : α → Lit) (w : World) (B n : Nat) (f : ByteArray → Option α) : Prop :=
  ∃ D : DataW Unit, w.ownsMap Tryz.prog 9 (plainElem Tryz.prog E) B n D ∧ ∀ s, (f s = none → Maps.has D (litK s) = false) ∧ ∀ x, f s = some x → Maps.has D (litK s) = true ∧ ∀ zd, D.atKey (litK s) zd = .lit (enc x)
section
variable {α : Type} {E : TypeId} {enc : α → Lit} {val : α → Value} {ok : α → Prop} {z0 : α} {w w' : World} {B n : Nat} {f : ByteArray → Option α}
theorem OwnsF.made (w : World) : OwnsF E enc (w.alloc (.map #[] 0)) w.heap.size 0 (fun _ => none) :=
  ⟨.map [], World.ownsMap_made _ _ _ _, fun s => ⟨fun _ => rfl, fun x h => by cases h⟩⟩
theorem OwnsF.kept {row : Option Nat} (h : OwnsF E enc w B n f) (hg : w.grownBy w' row) (hne : some B ≠ row) : OwnsF E enc w' B n f := by
  obtain ⟨D, hD, hf⟩ := h
  exact ⟨D, hD.kept hg hne, hf⟩
theorem OwnsF.below (h : OwnsF E enc w B n f) (hb : Below w.heap.size w w') : OwnsF E enc w' B n f := h.kept (grown_none hb) (by simp)
theorem OwnsF.alloc (h : OwnsF E enc w B n f) (o : Obj) : OwnsF E enc (w.alloc o) B n f := h.below ((Below.refl _ w).alloc (Nat.le_refl _) o)
theorem OwnsF.lt (h : OwnsF E enc w B n f) : B < w.heap.size := by obtain ⟨D, hD, _⟩ := h; exact hD.lt
theorem keyed_str : Keyed Tryz.prog 9 := string_keyed Tryz.underlying9
theorem OwnsF.look (L : ElemLaw E α enc val ok z0) (h : OwnsF E enc w B n f) {t : TypeId} (ht : Tryz.prog.underlying t = some (.map 9 E)) {s : ByteArray} (hs : s.size ≤ maxLen) :
    (Instr.lookup t (.map (some B)) (.string s) false).run Tryz.prog w = .ok (val ((f s).getD z0)) w := by
  obtain ⟨D, hD, hf⟩ := h
  obtain ⟨v, ps, hrun, hv⟩ := hD.lookup keyed_str ht (L.zero w) (L.lay z0 L.okz) (keyOf_string_mk Tryz.underlying9 hs)
  rw [hrun]
  obtain ⟨h1, h2⟩ := hf s
  cases hfs : f s with
  | none =>
    have := h1 hfs
    rw [show (Lit.string s.data.toList) = litK s from rfl, atKey_of_not_has this] at hv
    rw [L.inv _ _ _ hv]
    rfl
  | some x =>
    rw [show (Lit.string s.data.toList) = litK s from rfl, (h2 x hfs).2] at hv
    rw [L.inv _ _ _ hv]
    rfl
theorem OwnsF.lookOk (L : ElemLaw E α enc val ok z0) (h : OwnsF E enc w B n f) {t : TypeId} (ht : Tryz.prog.underlying t = some (.map 9 E)) {s : ByteArray} (hs : s.size ≤ maxLen) :
    (Instr.lookup t (.map (some B)) (.string s) true).run Tryz.prog w = .ok (.tuple #[val ((f s).getD z0), .bool (f s).isSome]) w := by
  obtain ⟨D, hD, hf⟩ := h
  obtain ⟨v, ps, hrun, hv⟩ := hD.look_ok keyed_str ht (L.zero w) (L.lay z0 L.okz) (keyOf_string_mk Tryz.underlying9 hs)
  rw [hrun]
  obtain ⟨h1, h2⟩ := hf s
  cases hfs : f s with
  | none =>
    have := h1 hfs
    rw [show (Lit.string s.data.toList) = litK s from rfl] at hv ⊢
    rw [atKey_of_not_has this] at hv
    rw [L.inv _ _ _ hv, this]
    rfl
  | some x =>
    rw [show (Lit.string s.data.toList) = litK s from rfl] at hv ⊢
    rw [(h2 x hfs).2] at hv
    rw [L.inv _ _ _ hv, (h2 x hfs).1]
    rfl
theorem litK_inj {a b : ByteArray} (h : litK a = litK b) : a = b := by unfold litK at h; injection h with h; exact ba_inj h
theorem OwnsF.update (L : ElemLaw E α enc val ok z0) (h : OwnsF E enc w B n f) {t : TypeId} (ht : Tryz.prog.underlying t = some (.map 9 E)) (hn : n < maxLen) {s : ByteArray} (hs : s.size ≤ maxLen) {x : α} (hx : ok x) :
    ∃ w', (Instr.mapUpdate t (.map (some B)) (.string s) (val x)).run Tryz.prog w = .ok () w' ∧ OwnsF E enc w' B (n + 1) (fun u => if u = s then some x else f u) ∧ w.grownBy w' (some B) := by
  obtain ⟨D, hD, hf⟩ := h
  obtain ⟨w', hrun, h1, h2⟩ := hD.update keyed_str ht hn (keyOf_string_mk Tryz.underlying9 hs) (L.lay x hx)
  refine ⟨w', hrun, ⟨_, h1, fun u => ?_⟩, h2⟩
  have hm := hD.isMap
  have hk : WideAt.IsKeyLit (litK s) := trivial
  dsimp only
  by_cases e : u = s
  · subst e
    rw [if_pos rfl]
    exact ⟨fun h => (by cases h), fun y hy => by
      injection hy with hy
      subst hy
      exact ⟨has_put_same hm hk _, fun zd => atKey_put_same hm hk _ zd⟩⟩
  · rw [if_neg e]
    have hne : litK u ≠ litK s := fun h => e (litK_inj h)
    exact ⟨fun h => by rw [← (hf u).1 h]; exact has_put_other hne _, fun y hy => ⟨by rw [← ((hf u).2 y hy).1]; exact has_put_other hne _, fun zd => by rw [← ((hf u).2 y hy).2 zd]; exact atKey_put_other hne _ _⟩⟩
end
end Go.Proofs.YtojedplbhialpaaGreatDoor

/-! S6 -/
namespace Go.Proofs.YtojedplbhialpaaGreatDoor
open Go.RowKit Go.Maps
set_option linter.unusedVariables false
set_option maxRecDepth 100000
def BoxLev (w : World) (X : Nat) (l : Lev) (v : Value) : Prop :=
  w.cell? ⟨X, 0, none⟩ = some (.string l.name) ∧ w.cell? ⟨X, 1, none⟩ = some (.int .i64 l.pre) ∧ w.cell? ⟨X, 2, none⟩ = some v ∧ w.cell? ⟨X, 3, none⟩ = some (.int .i64 l.min) ∧ w.cell? ⟨X, 4, none⟩ = some (.int .i64 l.cents)
theorem BoxLev.below {w w' : World} {X : Nat} {l : Lev} {v : Value} {B : Nat} (h : BoxLev w X l v) (hb : Below B w w') (hX : X < B) : BoxLev w' X l v :=
  ⟨(hb.cell (p := ⟨X, 0, none⟩) hX).trans h.1, (hb.cell (p := ⟨X, 1, none⟩) hX).trans h.2.1, (hb.cell (p := ⟨X, 2, none⟩) hX).trans h.2.2.1, (hb.cell (p := ⟨X, 3, none⟩) hX).trans h.2.2.2.1, (hb.cell (p := ⟨X, 4, none⟩) hX).trans h.2.2.2.2⟩
theorem cell_grown {w w' : World} {row : Option Nat} {b o : Nat} {x : Value} (hg : w.grownBy w' row) (h : w.cell? ⟨b, o, none⟩ = some x) (hne : some b ≠ row) : w'.cell? ⟨b, o, none⟩ = some x := by
  have hlt := cell_lt h
  have := hg.block b hlt hne
  rw [← h]
  simp only [World.cell?, this]
theorem BoxLev.grown {w w' : World} {row : Option Nat} {X : Nat} {l : Lev} {v : Value} (h : BoxLev w X l v) (hg : w.grownBy w' row) (hX : some X ≠ row) : BoxLev w' X l v :=
  ⟨cell_grown hg h.1 hX, cell_grown hg h.2.1 hX, cell_grown hg h.2.2.1 hX, cell_grown hg h.2.2.2.1 hX, cell_grown hg h.2.2.2.2 hX⟩
def fitsB (f : ByteArray → Option ByteArray) (name g : ByteArray) : Bool := match f name with | none => true | some o => decide (o = g)
abbrev OwnsSS := OwnsF 9 (fun s : ByteArray => Lit.string s.data.toList)
theorem grp_size {l : Lev} {c : ByteArray} (hf : LevFits l) (hc : c.size ≤ maxLen) : (grpOf l c).size ≤ maxLen := by
  unfold grpOf labOf
  cases h : l.labs.find? (fun x => decide (x.pre = c.extract 0 l.pre.toNat)) with
  | none => simp; omega
  | some x => exact (hf.2.2 x (List.mem_of_find?_eq_some h)).2
set_option maxHeartbeats 4000000 in
theorem fits_any (next : Lev) (v : Value) (name p : ByteArray) (A X B n : Nat) (f : ByteArray → Option ByteArray) (w : World) (hA : w.cell? ⟨A, 0, none⟩ = some (.map (some B))) (hX : BoxLev w X next v) (hown : OwnsSS w B n f) (hn : n < 1000000)
    (hf : LevFits next) (hr : RdLabs w v next.labs) (hs : sortedB next.labs) (h0 : 0 ≤ next.pre) (h1 : next.pre ≤ p.size) (hps : p.size ≤ maxLen) (hns : name.size ≤ maxLen) :
    Calls Tryz.prog 179 #[.string name, .string p, .pointer (some ⟨A, 0, none⟩), .pointer (some ⟨X, 0, none⟩)] w fun e w' => e = .returned (.bool (fitsB f name (grpOf next p))) ∧ OwnsSS w' B (n + 1) (fun u => if u = name then some (grpOf next p) else f u) ∧ w.grownBy w' (some B) := by
  have hlk := hown.lookOk strLaw Tryz.underlying236 hns
  have hAlt := cell_lt hA
  have hXlt := cell_lt hX.1
  have hBA : A ≠ B := fun e => by
    obtain ⟨D, ⟨es, cl, hb, _⟩, _⟩ := hown
    subst e
    simp [World.cell?, hb] at hA
  have HCL : Hid (∀ W, Below w.heap.size w W → Calls Tryz.prog 173 #[lvA next v, .string p] W fun e w' => e = .returned (.string (grpOf next p)) ∧ ∃ w3, Below w.heap.size w w' ∧ (Instr.mapUpdate 236 (.map (some B)) (.string name) (.string (grpOf next p))).run Tryz.prog w' = .ok () w3 ∧ OwnsSS w3 B (n + 1) (fun u => if u = name then some (grpOf next p) else f u) ∧ w.grownBy w3 (some B) ∧
      (Instr.lookup 236 (.map (some B)) (.string name) false).run Tryz.prog w3 = .ok (.string (grpOf next p)) w3 ∧ w3.cell? ⟨A, 0, none⟩ = some (.map (some B))) := fun W hW => by
    refine (group_any next p v W hf (hr.below hW) hs h0 h1 hps).mono ?_
    rintro e w2 ⟨rfl, hb2⟩
    have hb : Below w.heap.size w w2 := below_c hW hW.size hb2
    obtain ⟨w3, hrun, ho3, hg3⟩ := (hown.below hb).update strLaw Tryz.underlying236 (by unfold maxLen; omega) hns (grp_size hf hps)
    refine ⟨rfl, w3, hb, hrun, ho3, ((grown_none hb).but _).trans hg3, ?_, cell_grown (((grown_none hb).but (some B)).trans hg3) hA (fun e => hBA (by injection e))⟩
    have := ho3.look strLaw Tryz.underlying236 hns
    simpa using this
  obtain ⟨x0, x1, x2, x3, x4⟩ := hX
  have HFI : Hid (fitsB f name (grpOf next p) = match f name with | none => true | some o => decide (o = grpOf next p)) := rfl
  clear hown hf hr hs
  unfold lvA at HCL
  generalize grpOf next p = gp at HCL HFI
  generalize fitsB f name gp = res at HFI
  cases hfn : f name with
  | none =>
    rw [hfn] at hlk HFI
    have HR : Hid (res = true) := HFI.out
    clear HFI hfn
    go_enter Tryz.func179, Tryz.ntmps179
    go_wp2_with fail
    go_region_with (go_at_call 173; refine (HCL.out _ (Below.refl _ w).drew).mono ?_; rintro e w2 ⟨rfl, w3, hb2, hrun, ho3, hg3, hlk3, hA3⟩; obtain ⟨hc2, hf2⟩ := bcell hb2)
    all_goals
      clear hc2 hf2 hlk hA x0 x1 x2 x3 x4 hrun hb2
      go_wp2_with fail
      go_ret
      exact ⟨ret_bool HR.out.symm, ho3, hg3⟩
  | some o =>
    rw [hfn] at hlk HFI
    have hb := ba_eq o gp
    have HR : Hid (res = decide (o = gp)) := HFI.out
    clear HFI hfn
    go_enter Tryz.func179, Tryz.ntmps179
    go_wp2_with fail
    go_region_with (go_at_call 173; refine (HCL.out _ (Below.refl _ w).drew).mono ?_; rintro e w2 ⟨rfl, w3, hb2, hrun, ho3, hg3, hlk3, hA3⟩; obtain ⟨hc2, hf2⟩ := bcell hb2)
    all_goals
      clear hc2 hf2 hlk hA x0 x1 x2 x3 x4 hrun hb2
      go_wp2_with fail
      go_ret
      exact ⟨ret_bool HR.out.symm, ho3, hg3⟩
end Go.Proofs.YtojedplbhialpaaGreatDoor

/-! S7 -/
namespace Go.Proofs.YtojedplbhialpaaGreatDoor
open Go.RowKit Go.Maps
set_option linter.unusedVariables false
set_option maxRecDepth 100000
def ownB (l : Lev) (x : Lab) : Bool := decide ((x.grp.size : Int) = l.pre) && plainB x.grp && (labOf l.labs x.grp).isNone
def pairsL (l : Lev) (x : Lab) : List (ByteArray × ByteArray) := (x.grp, x.pre) :: if ownB l x then [(x.grp, x.grp)] else []
def pairsTo (l : Lev) (k : Nat) : List (ByteArray × ByteArray) := (l.labs.take k).flatMap (pairsL l)
def nestedP (l next : Lev) : Prop := ∀ x ∈ l.labs.flatMap (pairsL l), ∀ y ∈ l.labs.flatMap (pairsL l), x.1 = y.1 → grpOf next x.2 = grpOf next y.2
open Classical in
noncomputable def nestedB (l next : Lev) : Bool := decide (nestedP l next)
theorem nestedB_iff {l next : Lev} : nestedB l next = true ↔ nestedP l next := by unfold nestedB; simp
theorem nestedB_false {l next : Lev} (h : ¬ nestedP l next) : nestedB l next = false := by unfold nestedB; simp [h]
theorem pairsTo_succ (l : Lev) (k : Nat) (h : k < l.labs.length) : pairsTo l (k + 1) = pairsTo l k ++ pairsL l l.labs[k] := by
  unfold pairsTo; rw [List.take_succ_eq_append_getElem h, List.flatMap_append, List.flatMap_cons, List.flatMap_nil, List.append_nil]
theorem pairsTo_sub (l : Lev) (k : Nat) : ∀ q ∈ pairsTo l k, q ∈ l.labs.flatMap (pairsL l) := by
  unfold pairsTo
  intro q hq
  rw [List.mem_flatMap] at hq ⊢
  obtain ⟨x, hx, hq⟩ := hq
  exact ⟨x, List.mem_of_mem_take hx, hq⟩
theorem pairsL_sub (l : Lev) (k : Nat) (h : k < l.labs.length) : ∀ q ∈ pairsL l l.labs[k], q ∈ l.labs.flatMap (pairsL l) := fun q hq =>
  List.mem_flatMap.2 ⟨_, List.getElem_mem h, hq⟩
def FitOk (next : Lev) (ps : List (ByteArray × ByteArray)) (f : ByteArray → Option ByteArray) : Prop :=
  ∀ u, (f u = none → ∀ q ∈ ps, q.1 ≠ u) ∧ ∀ g, f u = some g → (∃ q ∈ ps, q.1 = u) ∧ ∀ q ∈ ps, q.1 = u → grpOf next q.2 = g
theorem FitOk_nil (next : Lev) : FitOk next [] (fun _ => none) := fun u => ⟨fun _ q hq => (by cases hq), fun g h => (by cases h)⟩
theorem FitOk_step {next : Lev} {ps : List (ByteArray × ByteArray)} {f : ByteArray → Option ByteArray} (h : FitOk next ps f) {name p : ByteArray} (hf : fitsB f name (grpOf next p) = true) :
    FitOk next (ps ++ [(name, p)]) (fun u => if u = name then some (grpOf next p) else f u) := by
  intro u
  dsimp only
  by_cases e : u = name
  · subst e
    rw [if_pos rfl]
    refine ⟨fun h => (by cases h), fun g hg => ?_⟩
    injection hg with hg
    subst hg
    refine ⟨⟨_, List.mem_append_right _ (List.mem_singleton.2 rfl), rfl⟩, fun q hq hqu => ?_⟩
    rcases List.mem_append.1 hq with hq | hq
    · unfold fitsB at hf
      cases hfu : f u with
      | none => exact absurd hqu ((h u).1 hfu q hq)
      | some o =>
        rw [hfu] at hf
        rw [((h u).2 o hfu).2 q hq hqu]
        exact of_decide_eq_true hf
    · obtain rfl := List.mem_singleton.1 hq
      rfl
  · rw [if_neg e]
    refine ⟨fun hn q hq => ?_, fun g hg => ?_⟩
    · rcases List.mem_append.1 hq with hq | hq
      · exact (h u).1 hn q hq
      · obtain rfl := List.mem_singleton.1 hq
        exact fun h => e h.symm
    · obtain ⟨⟨q, hq, hqu⟩, h2⟩ := (h u).2 g hg
      refine ⟨⟨q, List.mem_append_left _ hq, hqu⟩, fun q hq hqu => ?_⟩
      rcases List.mem_append.1 hq with hq | hq
      · exact h2 q hq hqu
      · obtain rfl := List.mem_singleton.1 hq
        exact absurd hqu.symm e
theorem Fit_fail {l next : Lev} {ps : List (ByteArray × ByteArray)} {f : ByteArray → Option ByteArray} (h : FitOk next ps f) {name p : ByteArray} (hf : fitsB f name (grpOf next p) = false) (hs : ∀ q ∈ ps, q ∈ l.labs.flatMap (pairsL l)) (hq : (name, p) ∈ l.labs.flatMap (pairsL l)) : nestedB l next = false := by
  refine nestedB_false (fun hn => ?_)
  unfold fitsB at hf
  cases hfn : f name with
  | none => rw [hfn] at hf; cases hf
  | some o =>
    rw [hfn] at hf
    obtain ⟨⟨q, hq1, hq2⟩, h2⟩ := (h name).2 o hfn
    have := hn q (hs q hq1) (name, p) hq hq2
    rw [h2 q hq1 hq2] at this
    exact of_decide_eq_false hf this
theorem Fit_end {l next : Lev} {f : ByteArray → Option ByteArray} (h : FitOk next (pairsTo l l.labs.length) f) : nestedB l next = true := by
  refine nestedB_iff.2 ?_
  have e : pairsTo l l.labs.length = l.labs.flatMap (pairsL l) := by unfold pairsTo; rw [List.take_of_length_le (Nat.le_refl _)]
  rw [e] at h
  intro x hx y hy hxy
  cases hf : f y.1 with
  | none => exact absurd hxy ((h y.1).1 hf x hx)
  | some g => rw [((h y.1).2 g hf).2 x hx hxy, ((h y.1).2 g hf).2 y hy rfl]
def NestR (l next : Lev) (v u : Value) (w : World) (k : Nat) (wr : World) : Prop :=
  ∃ n f, OwnsSS wr (w.heap.size + 2) n f ∧ n ≤ 2 * k ∧ FitOk next (pairsTo l k) f ∧ Below w.heap.size w wr ∧ w.heap.size + 4 ≤ wr.heap.size ∧
    BoxLev wr w.heap.size l v ∧ BoxLev wr (w.heap.size + 1) next u ∧ wr.cell? ⟨w.heap.size + 3, 0, none⟩ = some (.map (some (w.heap.size + 2)))
theorem World.grownBy_refl (w : World) (row : Option Nat) : w.grownBy w row := ⟨rfl, rfl, rfl, Nat.le_refl _, fun _ _ _ => rfl⟩
theorem below_row {B C : Nat} {w wr w2 : World} (h : Below B w wr) (hg : wr.grownBy w2 (some C)) (hB : B ≤ wr.heap.size) (hC : B ≤ C) : Below B w w2 :=
  h.grown hg hB (fun r e => by injection e with e; omega)
theorem box_new (w : World) (l : Lev) (v : Value) (T : TypeId) : BoxLev (w.alloc (.cells #[.string l.name, .int .i64 l.pre, v, .int .i64 l.min, .int .i64 l.cents] T)) w.heap.size l v := by
  unfold BoxLev; simp [go_sem]
theorem BoxLev.alloc {w : World} {X : Nat} {l : Lev} {v : Value} (h : BoxLev w X l v) (o : Obj) : BoxLev (w.alloc o) X l v :=
  h.below ((Below.refl _ w).alloc (Nat.le_refl _) o) (cell_lt h.1)
theorem nest_start (l next : Lev) (v u : Value) (w : World) (T T2 : TypeId) (B : Nat) (hB : B = w.heap.size + 1 + 1) : NestR l next v u w 0 ((((w.alloc (.cells #[.string l.name, .int .i64 l.pre, v, .int .i64 l.min, .int .i64 l.cents] T)).alloc (.cells #[.string next.name, .int .i64 next.pre, u, .int .i64 next.min, .int .i64 next.cents] T)).alloc (.map #[] 0)).alloc (.cells #[.map (some B)] T2)) := by
  subst hB
  refine ⟨0, fun _ => none, ?_, Nat.le_refl _, FitOk_nil _, ?_, ?_, ?_, ?_, ?_⟩
  · have := OwnsF.made (E := 9) (enc := fun s : ByteArray => Lit.string s.data.toList) ((w.alloc (.cells #[.string l.name, .int .i64 l.pre, v, .int .i64 l.min, .int .i64 l.cents] T)).alloc (.cells #[.string next.name, .int .i64 next.pre, u, .int .i64 next.min, .int .i64 next.cents] T))
    have e : ((w.alloc (.cells #[.string l.name, .int .i64 l.pre, v, .int .i64 l.min, .int .i64 l.cents] T)).alloc (.cells #[.string next.name, .int .i64 next.pre, u, .int .i64 next.min, .int .i64 next.cents] T)).heap.size = w.heap.size + 2 := by simp
    rw [e] at this
    exact this.alloc _
  · exact ((((Below.refl _ w).alloc (Nat.le_refl _) _).alloc (by simp) _).alloc (by simp; omega) _).alloc (by simp; omega) _
  · simp
  · exact (((box_new w l v T).alloc _).alloc _).alloc _
  · have := box_new (w.alloc (.cells #[.string l.name, .int .i64 l.pre, v, .int .i64 l.min, .int .i64 l.cents] T)) next u T
    have e : (w.alloc (.cells #[.string l.name, .int .i64 l.pre, v, .int .i64 l.min, .int .i64 l.cents] T)).heap.size = w.heap.size + 1 := by simp
    rw [e] at this
    exact (this.alloc _).alloc _
  · simp [go_sem]
theorem nest_next {l next : Lev} {v u : Value} {w wr w' : World} {k n' : Nat} {f' : ByteArray → Option ByteArray} (hB : Below w.heap.size w wr) (hz : w.heap.size + 4 ≤ wr.heap.size) (hL : BoxLev wr w.heap.size l v) (hN : BoxLev wr (w.heap.size + 1) next u) (hA : wr.cell? ⟨w.heap.size + 3, 0, none⟩ = some (.map (some (w.heap.size + 2))))
    (hg : wr.grownBy w' (some (w.heap.size + 2))) (ho : OwnsSS w' (w.heap.size + 2) n' f') (hn : n' ≤ 2 * k) (hf : FitOk next (pairsTo l k) f') : NestR l next v u w k w' :=
  ⟨n', f', ho, hn, hf, below_row hB hg (by omega) (by omega), Nat.le_trans hz hg.size, hL.grown hg (by simp), hN.grown hg (by simp), cell_grown hg hA (by simp)⟩
theorem pairs_one {l : Lev} {k : Nat} (h : k < l.labs.length) (ho : ownB l l.labs[k] = false) : pairsTo l (k + 1) = pairsTo l k ++ [(l.labs[k].grp, l.labs[k].pre)] := by
  rw [pairsTo_succ l k h]; unfold pairsL; rw [ho]; rfl
theorem pairs_two {l : Lev} {k : Nat} (h : k < l.labs.length) (ho : ownB l l.labs[k] = true) : pairsTo l (k + 1) = (pairsTo l k ++ [(l.labs[k].grp, l.labs[k].pre)]) ++ [(l.labs[k].grp, l.labs[k].grp)] := by
  rw [pairsTo_succ l k h]; unfold pairsL; rw [ho]; simp
theorem pairs_mem {l : Lev} {k : Nat} (h : k < l.labs.length) : (l.labs[k].grp, l.labs[k].pre) ∈ l.labs.flatMap (pairsL l) ∧ (ownB l l.labs[k] = true → (l.labs[k].grp, l.labs[k].grp) ∈ l.labs.flatMap (pairsL l)) :=
  ⟨pairsL_sub l k h _ (by unfold pairsL; simp), fun ho => pairsL_sub l k h _ (by unfold pairsL; rw [ho]; simp)⟩
theorem sub_snoc {l : Lev} {ps : List (ByteArray × ByteArray)} {q : ByteArray × ByteArray} (h : ∀ x ∈ ps, x ∈ l.labs.flatMap (pairsL l)) (hq : q ∈ l.labs.flatMap (pairsL l)) : ∀ x ∈ ps ++ [q], x ∈ l.labs.flatMap (pairsL l) := fun x hx => by
  rcases List.mem_append.1 hx with hx | hx
  · exact h x hx
  · rw [List.mem_singleton.1 hx]; exact hq
set_option maxHeartbeats 8000000 in
theorem isNested_any (l next : Lev) (v u : Value) (w : World) (hf : LevFits l) (hfn : LevFits next) (hr : RdLabs w v l.labs) (hru : RdLabs w u next.labs) (hs : sortedB l.labs) (hsn : sortedB next.labs)
    (h0 : 0 ≤ next.pre) (h1 : next.pre ≤ l.pre) (hx : ∀ x ∈ l.labs, (x.pre.size : Int) = l.pre) :
    Calls Tryz.prog 109 #[lvA l v, lvA next u] w fun e w' => e = .returned (.bool (nestedB l next)) ∧ Below w.heap.size w w' := by
  have hmm := @run_makeMap Tryz.prog
  obtain ⟨hn, hl, hxf⟩ := hf
  have HR := Lib.hid hr
  have HRU := Lib.hid hru
  have HXF := Lib.hid hxf
  have HX := Lib.hid hx
  have HS := Lib.hid hs
  have HSN := Lib.hid hsn
  have HFN := Lib.hid hfn
  have HF : Hid (LevFits l) := ⟨hn, hl, hxf⟩
  have HRES : Hid (nestedB l next = nestedB l next) := rfl
  clear hr hru hxf hx hs hsn hfn
  obtain ⟨a, cap, hv, hc⟩ := HR.out
  subst hv
  have HC := Lib.hid hc
  clear hc
  unfold lvA
  go_enter Tryz.func109, Tryz.ntmps109
  go_wp2_with fail
  go_loopw [16] (fun i wr => ∃ k : Nat, k ≤ l.labs.length ∧ i = .int .i64 k ∧ NestR l next (.slice a l.labs.length cap) u w k wr) (fun i _ => l.labs.length - (intOf i).toNat)
  case atStart => exact ⟨0, Nat.zero_le _, rfl, nest_start l next _ u w _ _ _ rfl⟩
  case round =>
    clear hmm
    obtain ⟨k, hk, rfl, n, f, hown, hnk, hfit, hB, hz, hL, hN, hA⟩ := hrel
    by_cases hlt : k < l.labs.length
    · obtain ⟨g, off, rfl, hg, hcc⟩ := HC.out (by omega)
      have hgr : g < wr.heap.size := by omega
      have c1 : wr.cell? ⟨g, off + k * 2, none⟩ = some (.string l.labs[k].pre) := (hB.cell (p := ⟨g, _, none⟩) hg).trans (hcc k hlt).1
      have c2 : wr.cell? ⟨g, off + k * 2 + 1, none⟩ = some (.string l.labs[k].grp) := (hB.cell (p := ⟨g, _, none⟩) hg).trans (hcc k hlt).2
      have x1 := (HXF.out _ (List.getElem_mem hlt)).1
      have x2 := (HXF.out _ (List.getElem_mem hlt)).2
      have x3 := HX.out _ (List.getElem_mem hlt)
      have P1 := Lib.hid (pairs_one hlt)
      have P2 := Lib.hid (pairs_two hlt)
      have PM := Lib.hid (pairs_mem hlt)
      have PS := Lib.hid (pairsTo_sub l k)
      have hps : next.pre ≤ (l.labs[k].pre.size : Int) := by omega
      have HO : Hid (ownB l l.labs[k] = (decide ((l.labs[k].grp.size : Int) = l.pre) && plainB l.labs[k].grp && (labOf l.labs l.labs[k].grp).isNone)) := rfl
      have X3 := Lib.hid x3
      clear x3 hcc HC HX HXF
      generalize ownB l l.labs[k] = ob at P1 P2 PM HO
      generalize l.labs[k].pre = xp at c1 x1 P1 P2 PM hps X3
      generalize l.labs[k].grp = xg at c2 x2 P1 P2 PM HO
      obtain ⟨wx, hwx⟩ : ∃ wx : World, wx = wr.alloc (.cells #[.string xp, .string xg] 235) := ⟨_, rfl⟩
      have gx : wr.grownBy wx (some (w.heap.size + 2)) := by rw [hwx]; exact World.grownBy_alloc _ _ _
      have HG1 : Hid (∀ W : World, Below w.heap.size w W → RdLabs W u next.labs) := fun W h => HRU.out.below h
      have F1 := fits_any next u xg xp (w.heap.size + 3) (w.heap.size + 1) (w.heap.size + 2) n f wx (cell_grown gx hA (by simp)) (hN.grown gx (by simp)) (by rw [hwx]; exact hown.alloc _) (by omega) HFN.out (HG1.out _ (below_row hB gx (by omega) (by omega))) HSN.out h0 hps x1 x2
      rw [hwx] at F1 gx
      clear hwx
      go_wp2_with fail
      refine F1.mono ?_
      rintro e w2 ⟨rfl, ho2, hg2⟩
      have g2 : wr.grownBy w2 (some (w.heap.size + 2)) := gx.trans hg2
      have L2 := hL.grown g2 (by simp)
      have N2 := hN.grown g2 (by simp)
      have A2 := cell_grown g2 hA (by simp)
      have B2 := below_row hB g2 (by omega) (by omega)
      have z2 := Nat.le_trans hz g2.size
      have e2 : wr.heap.size < w2.heap.size := Nat.lt_of_lt_of_le (by simp) hg2.size
      have d2 : w2.cell? ⟨wr.heap.size, 1, none⟩ = some (.string xg) := cell_grown hg2 (by simp [go_sem]) (by simp; omega)
      clear F1 gx hg2 hL hN hA hown g2 hB hz c1 c2 hgr
      obtain ⟨l20, l21, l22, l23, l24⟩ := L2
      cases hres : fitsB f xg (grpOf next xp)
      · have HE : Hid (nestedB l next = false) := Fit_fail hfit hres PS.out PM.out.1
        clear ho2 hfit hres N2 A2
        go_wp2_with fail
        go_ret
        exact ⟨ret_bool HE.out.symm, B2⟩
      · have fit2 := FitOk_step hfit hres
        have L2 : Hid (BoxLev w2 w.heap.size l (.slice (some ⟨g, off, none⟩) l.labs.length cap)) := ⟨l20, l21, l22, l23, l24⟩
        have PS2 := Lib.hid (sub_snoc PS.out PM.out.1)
        have H2 := Lib.hid fit2
        have HN2 := Lib.hid N2
        have HO2 := Lib.hid ho2
        clear hfit hres PS fit2 N2 ho2
        by_cases hsz : (xg.size : Int) = l.pre
        · have hne : ((xg.size : Int) != l.pre) = false := by simpa using hsz
          have HSZ := Lib.hid hsz
          clear hsz
          have HPL := Lib.hid (fun W => isPlain_any xg W x2)
          cases hpl : plainB xg
          · have HB : Hid (pairsTo l (k + 1) = pairsTo l k ++ [(xg, xp)]) := P1.out (by rw [HO.out, hpl]; simp)
            rw [hpl] at HPL
            clear P1 P2 PM HO hpl
            go_wp2_with (go_at_call 178; refine (HPL.out _).mono ?_; rintro e w3 ⟨rfl, hb3⟩)
            have g3 := (grown_none hb3).but (some (w.heap.size + 2))
            go_roundw
            case rel => exact ⟨k + 1, by omega, by go_num, nest_next B2 z2 L2 HN2.out A2 g3 (HO2.out.below hb3) (by omega) (by rw [HB.out]; exact H2.out)⟩
            case measure => simp [intOf]; omega
          · rw [hpl] at HPL
            have hw2 : w.heap.size < w2.heap.size := by omega
            have HLA : Hid (∀ W, Below w2.heap.size w2 W → Calls Tryz.prog 180 #[.agg #[.string l.name, .int .i64 l.pre, .slice (some ⟨g, off, none⟩) l.labs.length cap, .int .i64 l.min, .int .i64 l.cents], .string xg] W fun e w' => e = .returned (.tuple #[.string ((labOf l.labs xg).getD ⟨#[]⟩), .bool (labOf l.labs xg).isSome]) ∧ Below w2.heap.size w2 w') := fun W hW => by
              have hbw : Below w.heap.size w W := below_c B2 (by omega) hW
              refine (labelled_any l xg _ W HF.out (HR.out.below hbw) HS.out).mono ?_
              rintro e w4 ⟨rfl, hb4⟩
              exact ⟨rfl, below_c hW hW.size hb4⟩
            cases hla : labOf l.labs xg with
            | some y =>
              have HB : Hid (pairsTo l (k + 1) = pairsTo l k ++ [(xg, xp)]) := P1.out (by rw [HO.out, hla]; simp)
              rw [hla] at HLA
              clear P1 P2 PM HO hpl hla
              go_wp2_with (first | (go_at_call 178; refine (HPL.out _).mono ?_; rintro e w3 ⟨rfl, hb3⟩; obtain ⟨hc3, hf3⟩ := bcell hb3) | (go_at_call 180; refine (HLA.out _ hb3).mono ?_; rintro e w4 ⟨rfl, hb4⟩))
              have g4 := (grown_none hb4).but (some (w.heap.size + 2))
              go_roundw
              case rel => exact ⟨k + 1, by omega, by go_num, nest_next B2 z2 L2 HN2.out A2 g4 (HO2.out.below hb4) (by omega) (by rw [HB.out]; exact H2.out)⟩
              case measure => simp [intOf]; omega
            | none =>
              have hob : ob = true := by rw [HO.out, hla, hpl, decide_eq_true HSZ.out]; rfl
              have HB := Lib.hid (P2.out hob)
              have HM := Lib.hid (PM.out.2 hob)
              rw [hla] at HLA
              have hps2 : next.pre ≤ (xg.size : Int) := by have := HSZ.out; omega
              have HF2 : Hid (∀ W, Below w2.heap.size w2 W → Calls Tryz.prog 179 #[.string xg, .string xg, .pointer (some ⟨w.heap.size + 3, 0, none⟩), .pointer (some ⟨w.heap.size + 1, 0, none⟩)] W fun e w' => e = .returned (.bool (fitsB (fun u => if u = xg then some (grpOf next xp) else f u) xg (grpOf next xg))) ∧ OwnsSS w' (w.heap.size + 2) (n + 1 + 1) (fun u => if u = xg then some (grpOf next xg) else (fun u => if u = xg then some (grpOf next xp) else f u) u) ∧ w2.grownBy w' (some (w.heap.size + 2))) := fun W hW => by
                have hgg := (grown_none hW).but (some (w.heap.size + 2))
                have hbw : Below w.heap.size w W := below_c B2 (by omega) hW
                refine (fits_any next u xg xg (w.heap.size + 3) (w.heap.size + 1) (w.heap.size + 2) (n + 1) _ W (cell_grown hgg A2 (by simp)) (HN2.out.grown hgg (by simp)) (HO2.out.below hW) (by omega) HFN.out (HG1.out _ hbw) HSN.out h0 hps2 x2 x2).mono ?_
                rintro e w' ⟨rfl, h1, h2⟩
                exact ⟨rfl, h1, hgg.trans h2⟩
              cases hr2 : fitsB (fun u => if u = xg then some (grpOf next xp) else f u) xg (grpOf next xg)
              · have HE : Hid (nestedB l next = false) := Fit_fail H2.out hr2 PS2.out HM.out
                rw [hr2] at HF2
                clear P1 P2 PM HO hpl hla hr2 hob
                go_wp2_with (first | (go_at_call 178; refine (HPL.out _).mono ?_; rintro e w3 ⟨rfl, hb3⟩; obtain ⟨hc3, hf3⟩ := bcell hb3) | (go_at_call 180; refine (HLA.out _ hb3).mono ?_; rintro e w4 ⟨rfl, hb4⟩; obtain ⟨hc4, hf4⟩ := bcell hb4) | (go_at_call 179; refine (HF2.out _ hb4).mono ?_; rintro e w5 ⟨rfl, ho5, hg5⟩))
                go_ret
                exact ⟨ret_bool HE.out.symm, below_row B2 hg5 (by omega) (by omega)⟩
              · have H3 := Lib.hid (FitOk_step H2.out hr2)
                rw [hr2] at HF2
                clear P1 P2 PM HO hpl hla hr2 hob
                go_wp2_with (first | (go_at_call 178; refine (HPL.out _).mono ?_; rintro e w3 ⟨rfl, hb3⟩; obtain ⟨hc3, hf3⟩ := bcell hb3) | (go_at_call 180; refine (HLA.out _ hb3).mono ?_; rintro e w4 ⟨rfl, hb4⟩; obtain ⟨hc4, hf4⟩ := bcell hb4) | (go_at_call 179; refine (HF2.out _ hb4).mono ?_; rintro e w5 ⟨rfl, ho5, hg5⟩))
                go_roundw
                case rel => exact ⟨k + 1, by omega, by go_num, nest_next B2 z2 L2 HN2.out A2 hg5 ho5 (by omega) (by rw [HB.out]; exact H3.out)⟩
                case measure => simp [intOf]; omega
        · have hne : ((xg.size : Int) != l.pre) = true := by simpa using hsz
          have HB : Hid (pairsTo l (k + 1) = pairsTo l k ++ [(xg, xp)]) := P1.out (by rw [HO.out, decide_eq_false hsz]; rfl)
          clear P1 P2 PM HO hsz
          go_wp2_with fail
          go_roundw
          case rel => exact ⟨k + 1, by omega, by go_num, nest_next B2 z2 L2 HN2.out A2 (World.grownBy_refl _ _) HO2.out (by omega) (by rw [HB.out]; exact H2.out)⟩
          case measure => simp [intOf]; omega
    · have HE : Hid (nestedB l next = true) := Fit_end (f := f) (by
        obtain rfl : k = l.labs.length := by omega
        exact hfit)
      go_wp2_with fail
      go_ret
      exact ⟨ret_bool HE.out.symm, hB⟩
end Go.Proofs.YtojedplbhialpaaGreatDoor

/-! S8 -/
namespace Go.Proofs.YtojedplbhialpaaGreatDoor
open Go.RowKit Go.Maps
set_option linter.unusedVariables false
set_option maxRecDepth 100000
def LevAt (w : World) (g o : Nat) (l : Lev) (v : Value) : Prop :=
  w.cell? ⟨g, o, none⟩ = some (.string l.name) ∧ w.cell? ⟨g, o + 1, none⟩ = some (.int .i64 l.pre) ∧ w.cell? ⟨g, o + 2, none⟩ = some v ∧ w.cell? ⟨g, o + 3, none⟩ = some (.int .i64 l.min) ∧ w.cell? ⟨g, o + 4, none⟩ = some (.int .i64 l.cents)
theorem LevAt.below {w w' : World} {X o : Nat} {l : Lev} {v : Value} {B : Nat} (h : LevAt w X o l v) (hb : Below B w w') (hX : X < B) : LevAt w' X o l v :=
  ⟨(hb.cell (p := ⟨X, o, none⟩) hX).trans h.1, (hb.cell (p := ⟨X, o + 1, none⟩) hX).trans h.2.1, (hb.cell (p := ⟨X, o + 2, none⟩) hX).trans h.2.2.1, (hb.cell (p := ⟨X, o + 3, none⟩) hX).trans h.2.2.2.1, (hb.cell (p := ⟨X, o + 4, none⟩) hX).trans h.2.2.2.2⟩
def RdLevs (w : World) (v : Value) (ls : List Lev) : Prop :=
  ∃ a cap, v = .slice a ls.length cap ∧ (0 < ls.length → ∃ g off, a = some ⟨g, off, none⟩ ∧ g < w.heap.size ∧ ∀ i (h : i < ls.length), ∃ sv, RdLabs w sv ls[i].labs ∧ LevAt w g (off + i * 5) ls[i] sv)
theorem RdLevs.below {w w' : World} {v : Value} {ls : List Lev} (h : RdLevs w v ls) (hb : Below w.heap.size w w') : RdLevs w' v ls := by
  obtain ⟨a, cap, hv, hc⟩ := h
  exact ⟨a, cap, hv, fun h0 => by
    obtain ⟨g, off, ha, hg, hcc⟩ := hc h0
    exact ⟨g, off, ha, Nat.lt_of_lt_of_le hg hb.size, fun i h => by
      obtain ⟨sv, h1, h2⟩ := hcc i h
      exact ⟨sv, h1.below hb, h2.below hb hg⟩⟩⟩
def sumTo (ls : List Lev) (k : Nat) : Nat := ((ls.take k).map (fun l => l.labs.length)).sum
theorem sumTo_succ (ls : List Lev) (k : Nat) (h : k < ls.length) : sumTo ls (k + 1) = sumTo ls k + ls[k].labs.length := by
  unfold sumTo; rw [List.take_succ_eq_append_getElem h, List.map_append, List.sum_append]; simp
theorem sumTo_mono (ls : List Lev) {k m : Nat} (h : k ≤ m) : sumTo ls k ≤ sumTo ls m := by
  induction m with
  | zero => obtain rfl : k = 0 := by omega
            exact Nat.le_refl _
  | succ m ih =>
    by_cases e : k = m + 1
    · subst e; exact Nat.le_refl _
    · by_cases hm : m < ls.length
      · rw [sumTo_succ ls m hm]; have := ih (by omega); omega
      · have : sumTo ls (m + 1) = sumTo ls m := by unfold sumTo; rw [List.take_of_length_le (by omega), List.take_of_length_le (by omega)]
        rw [this]; exact ih (by omega)
def okTo (ls : List Lev) (k : Nat) : Prop := sumTo ls k ≤ 200 ∧ (∀ i, i < k → ∀ h : i < ls.length, levelB ls[i] (decide (i + 1 = ls.length)) = true) ∧
  (∀ i, i < k → ∀ h : i < ls.length, ∀ j, j < i → ∀ h' : j < ls.length, ls[j].name ≠ ls[i].name) ∧ (∀ i, i < k → ∀ h : i < ls.length, ∀ j, j + 1 = i → ∀ h' : j < ls.length, ls[i].pre ≤ ls[j].pre)
def rightP (ls : List Lev) : Prop := 1 ≤ ls.length ∧ ls.length ≤ 6 ∧ okTo ls ls.length ∧ ∀ i, (h : i + 1 < ls.length) → nestedB ls[i] ls[i + 1] = true
open Classical in
noncomputable def rightB (ls : List Lev) : Bool := decide (rightP ls)
theorem rightB_iff {ls : List Lev} : rightB ls = true ↔ rightP ls := by unfold rightB; simp
theorem rightB_false {ls : List Lev} (h : ¬ rightP ls) : rightB ls = false := by unfold rightB; simp [h]
theorem okTo_succ {ls : List Lev} {k : Nat} (h : okTo ls k) (hk : k < ls.length) (h1 : sumTo ls (k + 1) ≤ 200) (h2 : levelB ls[k] (decide (k + 1 = ls.length)) = true) (h3 : ∀ j, j < k → ∀ h' : j < ls.length, ls[j].name ≠ ls[k].name) (h4 : ∀ j, j + 1 = k → ∀ h' : j < ls.length, ls[k].pre ≤ ls[j].pre) : okTo ls (k + 1) := by
  obtain ⟨a, b, c, d⟩ := h
  refine ⟨h1, fun i hi h => ?_, fun i hi h => ?_, fun i hi h => ?_⟩
  all_goals by_cases e : i = k
  · subst e; exact h2
  · exact b i (by omega) h
  · subst e; exact h3
  · exact c i (by omega) h
  · subst e; exact h4
  · exact d i (by omega) h
theorem level_facts {l : Lev} {b : Bool} (h : levelB l b = true) : sortedB l.labs ∧ (∀ x ∈ l.labs, (x.pre.size : Int) = l.pre) ∧ 0 ≤ l.pre ∧ l.pre ≤ 10 := by
  obtain ⟨hh, hr⟩ := levelB_iff.1 h
  obtain ⟨_, h1, h2, _, _⟩ := head_parts hh
  cases b
  · simp only [Bool.false_eq_true, if_false] at hr
    obtain ⟨_, hl⟩ := hr
    refine ⟨fun i hi => (hl (i + 1) hi hi).2 i rfl (by omega), fun x hx => ?_, h1, h2⟩
    obtain ⟨i, hi, rfl⟩ := List.mem_iff_getElem.1 hx
    have := (hl i hi hi).1
    unfold labOk at this
    simp at this
    exact this.1.1
  · simp only [if_true] at hr
    have : l.labs = [] := List.length_eq_zero_iff.1 hr.2.2
    rw [this]
    exact ⟨fun i hi => by simp at hi, by simp, h1, h2⟩
def NamesOk (ls : List Lev) (k : Nat) (f : ByteArray → Option Bool) : Prop := ∀ u, (f u = none ∧ ∀ j, j < k → ∀ h : j < ls.length, ls[j].name ≠ u) ∨ (f u = some true ∧ ∃ j, j < k ∧ ∃ h : j < ls.length, ls[j].name = u)
theorem NamesOk_step {ls : List Lev} {k : Nat} {f : ByteArray → Option Bool} (h : NamesOk ls k f) (hk : k < ls.length) : NamesOk ls (k + 1) (fun u => if u = ls[k].name then some true else f u) := by
  intro u
  dsimp only
  by_cases e : u = ls[k].name
  · rw [if_pos e]; exact .inr ⟨rfl, k, by omega, hk, e.symm⟩
  · rw [if_neg e]
    rcases h u with ⟨h1, h2⟩ | ⟨h1, j, hj, hj', h2⟩
    · refine .inl ⟨h1, fun j hj h' => ?_⟩
      by_cases e' : j = k
      · subst e'; exact fun h => e h.symm
      · exact h2 j (by omega) h'
    · exact .inr ⟨h1, j, by omega, hj', h2⟩
abbrev OwnsSB := OwnsF 4 Lit.bool
theorem OwnsF.drewN {α : Type} {E : TypeId} {enc : α → Lit} {w : World} {B n : Nat} {f : ByteArray → Option α} (h : OwnsF E enc w B n f) (q : Nat) : OwnsF E enc (w.drewN q) B n f :=
  h.kept (grown_none (below_drewN (Below.refl _ _) q)) (by simp)
theorem wpList_update_F {α : Type} {E : TypeId} {enc : α → Lit} {val : α → Value} {ok : α → Prop} {z0 : α} (L : ElemLaw E α enc val ok z0) (w : World) {ops : Array Oper} {rest : List Oper} {o : Oper} {a : Act} {Q : Exit → Act → World → Prop}
    (hg : o.guard = none) (m x v : Operand) (t : TypeId) (hop : o.op = Op.mapUpdate t m x v) (ht : Tryz.prog.underlying t = some (.map 9 E)) (B n : Nat) (f : ByteArray → Option α)
    (hm : a.eval m = .map (some B)) (hown : OwnsF E enc w B n f) (hn : n < maxLen) (s : ByteArray) (hs : s.size ≤ maxLen) (hx : a.eval x = .string s) (y : α) (hy : ok y) (hv : a.eval v = val y)
    (hK : ∀ w', OwnsF E enc w' B (n + 1) (fun u => if u = s then some y else f u) → w.grownBy w' (some B) → wpList Tryz.prog ops Q rest (a.put o.dst undef) w') : wpList Tryz.prog ops Q (o :: rest) a w := by
  refine wpList_plain hg fun K' hK' => ?_
  obtain ⟨w', hrun, r1, r2⟩ := hown.update L ht hn hs hy
  unfold Oper.wp
  simp [execOp, hop, hm, hx, hv, hrun, Result.andThen]
  exact hK' _ _ (hK w' r1 r2)
end Go.Proofs.YtojedplbhialpaaGreatDoor

/-! S9 -/
namespace Go.Proofs.YtojedplbhialpaaGreatDoor
open Go.RowKit Go.Maps
set_option linter.unusedVariables false
set_option maxRecDepth 100000
theorem not_right_sum {ls : List Lev} {k : Nat} (hk : k < ls.length) (h : 200 < sumTo ls (k + 1)) : rightB ls = false :=
  rightB_false (fun h' => by have := h'.2.2.1.1; have := sumTo_mono ls (show k + 1 ≤ ls.length from hk); omega)
theorem not_right_name {ls : List Lev} {k j : Nat} (hk : k < ls.length) (hj : j < k) (h : (ls[j]'(by omega)).name = ls[k].name) : rightB ls = false :=
  rightB_false (fun h' => h'.2.2.1.2.2.1 k hk hk j hj (by omega) h)
theorem not_right_level {ls : List Lev} {k : Nat} (hk : k < ls.length) (h : levelB ls[k] (decide (k + 1 = ls.length)) = false) : rightB ls = false :=
  rightB_false (fun h' => by have := h'.2.2.1.2.1 k hk hk; rw [h] at this; cases this)
theorem not_right_pre {ls : List Lev} {j : Nat} (hk : j + 1 < ls.length) (h : ls[j].pre < ls[j + 1].pre) : rightB ls = false :=
  rightB_false (fun h' => by have := h'.2.2.1.2.2.2 (j + 1) hk hk j rfl (by omega); omega)
theorem not_right_nest {ls : List Lev} {j : Nat} (hk : j + 1 < ls.length) (h : nestedB ls[j] ls[j + 1] = false) : rightB ls = false :=
  rightB_false (fun h' => by have := h'.2.2.2 j hk; rw [h] at this; cases this)
def nestTo (ls : List Lev) (k : Nat) : Prop := ∀ i, i < k → ∀ h : i + 1 < ls.length, nestedB ls[i] ls[i + 1] = true
set_option maxHeartbeats 16000000 in
theorem right_main (ls : List Lev) (v : Value) (w : World) (hr : RdLevs w v ls) (hf : ∀ l ∈ ls, LevFits l) (h1 : 1 ≤ ls.length) (h6 : ls.length ≤ 6) :
    Calls Tryz.prog 51 #[v] w fun e w' => e = .returned (.bool (rightB ls)) ∧ Below w.heap.size w w' := by
  have hmm := @run_makeMap Tryz.prog
  have HRD := Lib.hid hr
  obtain ⟨a, cap, rfl, hc⟩ := hr
  obtain ⟨g, off, rfl, hg, hcc⟩ := hc (by omega)
  have HC := Lib.hid hcc
  have HF := Lib.hid hf
  have HRB : Hid (rightB ls = true → rightB ls = true) := fun h => h
  clear hcc hf hc
  go_enter Tryz.func51, Tryz.ntmps51
  go_wp2_with fail
  go_loopw [3, 19] (fun s i wr => ∃ k : Nat, k ≤ ls.length ∧ i = .int .i64 k ∧ s = .int .i64 (sumTo ls k : Nat) ∧ Hid (okTo ls k) ∧ Below w.heap.size w wr ∧ ∃ n f, OwnsSB wr w.heap.size n f ∧ n ≤ k ∧ Hid (NamesOk ls k f)) (fun _ i _ => ls.length - (intOf i).toNat)
  case atStart =>
    exact ⟨0, Nat.zero_le _, rfl, rfl, ⟨Nat.zero_le _, fun i h => by omega, fun i h => by omega, fun i h => by omega⟩, (Below.refl _ w).alloc (Nat.le_refl _) _, 0, fun _ => none, OwnsF.made w, Nat.le_refl _, fun u => .inl ⟨rfl, fun j h => by omega⟩⟩
  case round =>
    clear hmm
    obtain ⟨k, hk, rfl, rfl, hok, hB, n, f, hown, hnk, hnm⟩ := hrel
    by_cases hlt : k < ls.length
    · obtain ⟨sv, hlab, hat⟩ := HC.out k hlt
      have hgr : g < wr.heap.size := Nat.lt_of_lt_of_le hg hB.size
      have hwz : w.heap.size < wr.heap.size := hown.lt
      have hat' := hat.below hB hg
      obtain ⟨t0, t1, t2, t3, t4⟩ := hat'
      have hlf := HF.out _ (List.getElem_mem hlt)
      have hS := sumTo_succ ls k hlt
      have N1 := Lib.hid (not_right_sum hlt)
      have N2 : Hid (∀ j (hj : j < k), (ls[j]'(by omega)).name = ls[k].name → rightB ls = false) := fun j hj h => not_right_name hlt hj h
      have N3 := Lib.hid (not_right_level hlt)
      have hnames : (f ls[k].name = none ∧ Hid (∀ j, j < k → ∀ h' : j < ls.length, ls[j].name ≠ ls[k].name)) ∨ (f ls[k].name = some true ∧ Hid (rightB ls = false)) := by
        rcases hnm.out ls[k].name with ⟨e1, e2⟩ | ⟨e1, j, hj, hj', e2⟩
        · exact .inl ⟨e1, e2⟩
        · exact .inr ⟨e1, N2.out j hj e2⟩
      have NN := Lib.hid (NamesOk_step hnm.out hlt)
      have OK := Lib.hid (okTo_succ hok.out hlt)
      have hprev : Hid (∀ j, j + 1 = k → ∃ q : Int, w.cell? ⟨g, off + j * 5 + 1, none⟩ = some (.int .i64 q) ∧ (q < ls[k].pre → rightB ls = false) ∧ (ls[k].pre ≤ q → ∀ j, j + 1 = k → ∀ h' : j < ls.length, ls[k].pre ≤ ls[j].pre)) := fun j hj => by
        subst hj
        obtain ⟨sv', _, hat2⟩ := HC.out j (by omega)
        exact ⟨ls[j].pre, hat2.2.1, fun h => not_right_pre hlt h, fun h i hi _ => by
          obtain rfl : i = j := by omega
          exact h⟩
      have hsl : sumTo ls k ≤ 200 := hok.out.1
      clear hok hnm hat HC HF HRD
      have hw1 : w.heap.size ≤ wr.heap.size := Nat.le_of_lt hwz
      have hlt2 : ((k : Int) == (ls.length : Int) - 1) = decide (k + 1 = ls.length) := by rw [Bool.eq_iff_iff]; simp; omega
      generalize decide (k + 1 = ls.length) = lastB at hlt2 N3 OK
      obtain ⟨sk, hsk⟩ : ∃ x, sumTo ls k = x := ⟨_, rfl⟩
      rw [hsk] at hS hsl ⊢
      clear hsk
      generalize ls[k] = l at t0 t1 t2 t3 t4 hlab hlf hS N3 hnames NN OK hprev
      have hll := hlf.2.1
      have hln := hlf.1
      by_cases hsum : 200 < sk + l.labs.length
      · have HE := Lib.hid (N1.out (by omega))
        clear N1 N2 N3 NN OK hprev hnames hS
        obtain ⟨la, lc, rfl, _⟩ := hlab
        go_wp2_with fail
        go_ret
        exact ⟨ret_bool HE.out.symm, hB.alloc hw1 _⟩
      · have hsum' : sk + l.labs.length ≤ 200 := by omega
        have HS := Lib.hid hS
        have hlk := (hown.alloc (.cells #[.string l.name, .int .i64 l.pre, sv, .int .i64 l.min, .int .i64 l.cents] 93)).look boolLaw Tryz.underlying180 hln
        have HLAB := Lib.hid hlab
        obtain ⟨la, lc, rfl, _⟩ := hlab
        clear hsum hS N1 N2
        rcases hnames with ⟨hn0, HNN⟩ | ⟨hn0, HE⟩
        · rw [hn0] at hlk
          clear hn0
          have HIL := Lib.hid (isLevel_any l (.slice la l.labs.length lc) lastB (wr.alloc (.cells #[.string l.name, .int .i64 l.pre, .slice la l.labs.length lc, .int .i64 l.min, .int .i64 l.cents] 93)) hlf (HLAB.out.below (hB.alloc hw1 _)))
          unfold lvA at HIL
          cases hlev : levelB l lastB
          · have HE := Lib.hid (N3.out hlev)
            rw [hlev] at HIL
            clear N3 NN OK hprev hlev
            go_wp2_with (go_at_call 108; refine HIL.out.mono ?_; rintro e w2 ⟨rfl, hb2⟩)
            go_ret
            exact ⟨ret_bool HE.out.symm, below_ac hB hw1 hb2⟩
          · rw [hlev] at HIL
            have OK2 := Lib.hid (fun a c => OK.out a hlev HNN.out c)
            clear N3 OK hlev
            go_wp2_with (go_at_call 108; refine HIL.out.mono ?_; rintro e w2 ⟨rfl, hb2⟩)
            have B2 : Below w.heap.size w w2 := below_ac hB hw1 hb2
            have b0 : w2.cell? ⟨wr.heap.size, 0, none⟩ = some (.string l.name) := (hb2.cell (p := ⟨wr.heap.size, 0, none⟩) (by simp)).trans (by simp [go_sem])
            have b1 : w2.cell? ⟨wr.heap.size, 1, none⟩ = some (.int .i64 l.pre) := (hb2.cell (p := ⟨wr.heap.size, 1, none⟩) (by simp)).trans (by simp [go_sem])
            have z2 : wr.heap.size < w2.heap.size := Nat.lt_of_lt_of_le (by simp) hb2.size
            have own2 := (hown.alloc (.cells #[.string l.name, .int .i64 l.pre, .slice la l.labs.length lc, .int .i64 l.min, .int .i64 l.cents] 93)).below hb2
            have SK : Hid (sumTo ls (k + 1) ≤ 200) := by rw [HS.out]; exact hsum'
            have se : Value.int .i64 ((sk : Int) + (l.labs.length : Int)) = .int .i64 (sumTo ls (k + 1) : Nat) := by rw [HS.out]; simp
            have SE := Lib.hid se
            clear se
            clear hb2 hown HIL HLAB hlk hlf t0 t1 t2 t3 t4 HS hlt2
            by_cases k0 : 0 < k
            · obtain ⟨q, hq, hq1, hq2⟩ := hprev.out (k - 1) (by omega)
              have d1 : w2.cell? ⟨g, off + (k - 1) * 5 + 1, none⟩ = some (.int .i64 q) := (B2.cell (p := ⟨g, off + (k - 1) * 5 + 1, none⟩) hg).trans hq
              have HQ1 := Lib.hid hq1
              have HQ2 := Lib.hid hq2
              clear hq1 hq2 hprev hq
              have hd1 : decide (0 < k) = true := by simpa using k0
              have hd2 : decide ((0 : Int) < (k : Int)) = true := by simp; omega
              have hv2 : 0 ≤ (k : Int) - 1 := by omega
              have hv3 : ((k : Int) - 1).toNat = k - 1 := by omega
              have hv4 : (k : Int) - 1 < (ls.length : Int) := by omega
              have hv5 : 1 ≤ k := by omega
              have hv6 : k - 1 < ls.length := by omega
              have hv1 : IntKind.i64.wrap ((k : Int) - 1) = (k : Int) - 1 := IntWalk.i64_in _ (by omega)
              by_cases hlp : q < l.pre
              · have HE := Lib.hid (HQ1.out hlp)
                go_quiet (fail)
                clear hv1
                go_wp2_with fail
                go_ret
                exact ⟨ret_bool HE.out.symm, below_drewN B2 _⟩
              · have HE := Lib.hid (OK2.out SK.out (HQ2.out (by omega)))
                go_quiet (fail)
                clear hv1
                go_wp2_with (at_mapUpdate; refine wpList_update_F boolLaw _ rfl _ _ _ 180 rfl Tryz.underlying180 w.heap.size n f rfl (own2.drewN _) (by unfold maxLen; omega) l.name hln rfl true trivial rfl ?_; intro w3 ho3 hg3)
                go_roundw
                case rel => exact ⟨k + 1, by omega, by go_num, SE.out, HE, below_row (below_drewN B2 _) hg3 B2.size (Nat.le_refl _), n + 1, _, ho3, by omega, NN⟩
                case measure => simp [intOf]; omega
            · have hd1 : decide (0 < k) = false := by simp; omega
              have hd2 : decide ((0 : Int) < (k : Int)) = false := by simp; omega
              have HE := Lib.hid (OK2.out SK.out (fun j hj => by omega))
              clear OK2 hprev
              go_quiet (fail)
              go_wp2_with (at_mapUpdate; refine wpList_update_F boolLaw _ rfl _ _ _ 180 rfl Tryz.underlying180 w.heap.size n f rfl (own2.drewN _) (by unfold maxLen; omega) l.name hln rfl true trivial rfl ?_; intro w3 ho3 hg3)
              go_roundw
              case rel => exact ⟨k + 1, by omega, by go_num, SE.out, HE, below_row (below_drewN B2 _) hg3 B2.size (Nat.le_refl _), n + 1, _, ho3, by omega, NN⟩
              case measure => simp [intOf]; omega
        · rw [hn0] at hlk
          clear hn0 N3 NN OK hprev
          go_wp2_with fail
          go_ret
          exact ⟨ret_bool HE.out.symm, hB.alloc hw1 _⟩
    · have hke : k = ls.length := by omega
      have hok' : okTo ls ls.length := hke ▸ hok.out
      have HOK := Lib.hid hok'
      clear hok hok' hke hnm hown hnk
      obtain ⟨wo, hwo⟩ : ∃ wo : World, wo = wr := ⟨_, rfl⟩
      have BO : Below w.heap.size w wo := by rw [hwo]; exact hB
      clear hB
      subst hwo
      go_wp2_with fail
      go_loopw [67] (fun i wr => ∃ j : Nat, j + 1 ≤ ls.length ∧ i = .int .i64 j ∧ Hid (nestTo ls j) ∧ Below w.heap.size w wr) (fun i _ => ls.length - (intOf i).toNat)
      case atStart => exact ⟨0, h1, rfl, fun i h => by omega, BO⟩
      case round =>
        obtain ⟨j, hj, rfl, hnt, hB⟩ := hrel
        by_cases hlt2 : j + 1 < ls.length
        · obtain ⟨sv, hlab, hat⟩ := HC.out j (by omega)
          obtain ⟨su, hlab2, hat2⟩ := HC.out (j + 1) hlt2
          obtain ⟨f1, f2, f3, f4⟩ := level_facts (HOK.out.2.1 j (by omega) (by omega))
          obtain ⟨k1, k2, k3, k4⟩ := level_facts (HOK.out.2.1 (j + 1) hlt2 hlt2)
          have hpm := HOK.out.2.2.2 (j + 1) hlt2 hlt2 j rfl (by omega)
          have HIN : Hid (∀ W, Below w.heap.size w W → Calls Tryz.prog 109 #[lvA ls[j] sv, lvA ls[j + 1] su] W fun e w' => e = .returned (.bool (nestedB ls[j] ls[j + 1])) ∧ Below w.heap.size w w') := fun W hW => by
            refine (isNested_any ls[j] ls[j + 1] sv su W (HF.out _ (List.getElem_mem _)) (HF.out _ (List.getElem_mem _)) (hlab.below hW) (hlab2.below hW) f1 k1 k3 hpm f2).mono ?_
            rintro e w' ⟨rfl, hb⟩
            exact ⟨rfl, below_c hW hW.size hb⟩
          obtain ⟨t0, t1, t2, t3, t4⟩ := hat.below hB hg
          obtain ⟨s0, s1, s2, s3, s4⟩ := hat2.below hB hg
          have NF := Lib.hid (not_right_nest hlt2)
          have NT : Hid (nestedB ls[j] ls[j + 1] = true → nestTo ls (j + 1)) := fun h i hi h' => by
            by_cases e : i = j
            · subst e; exact h
            · exact hnt.out i (by omega) h'
          clear hlab hlab2 hat hat2 f1 f2 f3 f4 k1 k2 k3 k4 hpm HC HF HRD hnt HOK
          unfold lvA at HIN
          generalize ls[j] = l at t0 t1 t2 t3 t4 HIN NF NT
          generalize ls[j + 1] = m at s0 s1 s2 s3 s4 HIN NF NT
          cases hne : nestedB l m
          · rw [hne] at HIN
            have HE := Lib.hid (NF.out hne)
            clear NF NT hne
            go_wp2_with fail
            have hv2 : 0 ≤ (j : Int) + 1 := by omega
            have hv3 : ((j : Int) + 1).toNat = j + 1 := by omega
            have hv4 : (j : Int) + 1 < (ls.length : Int) := by omega
            have hv1 : IntKind.i64.wrap ((j : Int) + 1) = (j : Int) + 1 := IntWalk.i64_in _ (by omega)
            go_region_with (go_at_call 109; refine (HIN.out _ hB.drew).mono ?_; rintro e w2 ⟨rfl, hb2⟩)
            all_goals
              clear hv1
              go_wp2_with fail
              go_ret
              exact ⟨ret_bool HE.out.symm, hb2⟩
          · rw [hne] at HIN
            have HE := Lib.hid (NT.out hne)
            clear NF NT hne
            go_wp2_with fail
            have hv2 : 0 ≤ (j : Int) + 1 := by omega
            have hv3 : ((j : Int) + 1).toNat = j + 1 := by omega
            have hv4 : (j : Int) + 1 < (ls.length : Int) := by omega
            have hv1 : IntKind.i64.wrap ((j : Int) + 1) = (j : Int) + 1 := IntWalk.i64_in _ (by omega)
            go_region_with (go_at_call 109; refine (HIN.out _ hB.drew).mono ?_; rintro e w2 ⟨rfl, hb2⟩)
            all_goals
              clear hv1
              go_wp2_with fail
              go_roundw
              case rel => exact ⟨j + 1, by omega, by go_num, HE, hb2⟩
              case measure => simp [intOf]; omega
        · have HE : Hid (rightB ls = true) := rightB_iff.2 ⟨h1, h6, HOK.out, fun i h => hnt.out i (by omega) h⟩
          go_wp2_with fail
          go_ret
          exact ⟨ret_bool HE.out.symm, hB⟩
theorem right_any (ls : List Lev) (v : Value) (w : World) (hr : RdLevs w v ls) (hf : ∀ l ∈ ls, LevFits l) (hl : ls.length ≤ maxLen) :
    Calls Tryz.prog 51 #[v] w fun e w' => e = .returned (.bool (rightB ls)) ∧ Below w.heap.size w w' := by
  unfold maxLen at hl
  by_cases h : 1 ≤ ls.length ∧ ls.length ≤ 6
  · exact right_main ls v w hr hf h.1 h.2
  · have HE : Hid (rightB ls = false) := rightB_false (fun h' => h ⟨h'.1, h'.2.1⟩)
    have h' : ls.length < 1 ∨ 6 < ls.length := by omega
    obtain ⟨a, cap, rfl, hc⟩ := hr
    clear h hc hf
    rcases h' with h | h
    all_goals
      go_enter Tryz.func51, Tryz.ntmps51
      go_wp2_with fail
      go_ret
      exact ⟨ret_bool HE.out.symm, Below.refl _ _⟩
end Go.Proofs.YtojedplbhialpaaGreatDoor

/-! M0 -/
namespace Go.Proofs.YtojedplbhialpaaGreatDoor
open Go.RowKit
set_option linter.unusedVariables false
set_option maxRecDepth 100000
structure Stp where
  grams : Int
  cents : List Int
structure Rat where
  cls : Int
  steps : List Stp
  bar : Int
structure Zn where
  fr : ByteArray
  till : ByteArray
  zone : Int
structure Tar where
  rates : List Rat
  zones : List Zn
def prefB (p s : ByteArray) : Bool := Lib.hasPrefix s.data.toList p.data.toList
def noZn : Zn := ⟨⟨#[]⟩, ⟨#[]⟩, 0⟩
def zoneStep (fr till : ByteArray) (best row : Zn) : Zn :=
  if prefB row.fr fr && prefB row.till till then (if best.zone = 0 ∨ best.fr.size < row.fr.size ∨ (row.fr.size = best.fr.size ∧ best.till.size < row.till.size) then row else best) else best
def zoneTo (rows : List Zn) (fr till : ByteArray) (k : Nat) : Zn := (rows.take k).foldl (zoneStep fr till) noZn
def zoneR (rows : List Zn) (fr till : ByteArray) : Int := (zoneTo rows fr till rows.length).zone
theorem zoneTo_succ (rows : List Zn) (fr till : ByteArray) (k : Nat) (h : k < rows.length) : zoneTo rows fr till (k + 1) = zoneStep fr till (zoneTo rows fr till k) rows[k] := by
  unfold zoneTo; rw [List.take_succ_eq_append_getElem h, List.foldl_append]; rfl
def ixF {α : Type} (f : α → Bool) (l : List α) : Int := if l.any f = true then (l.findIdx f : Nat) else -1
theorem ixF_at {α : Type} {f : α → Bool} {l : List α} {q : Nat} (h : q < l.length) (hq : f l[q] = true) (hn : ∀ i (hi : i < l.length), i < q → f l[i] = false) : ixF f l = (q : Int) := by
  unfold ixF
  rw [if_pos (List.any_eq_true.2 ⟨_, List.getElem_mem h, hq⟩), (List.findIdx_eq h).2 ⟨hq, fun j hj => by rw [hn j (by omega) hj]⟩]
theorem ixF_none {α : Type} {f : α → Bool} {l : List α} (hn : ∀ i (hi : i < l.length), f l[i] = false) : ixF f l = -1 := by
  unfold ixF
  rw [if_neg]
  rw [List.any_eq_true]
  rintro ⟨x, hx, hf⟩
  obtain ⟨i, hi, rfl⟩ := List.getElem_of_mem hx
  rw [hn i hi] at hf
  cases hf
theorem ixF_cases {α : Type} (f : α → Bool) (l : List α) : (ixF f l = -1 ∧ ∀ i (hi : i < l.length), f l[i] = false) ∨ ∃ q : Nat, ∃ h : q < l.length, ixF f l = q ∧ f l[q] = true := by
  by_cases h : l.any f = true
  · right
    obtain ⟨x, hx, hf⟩ := List.any_eq_true.1 h
    have hlt : l.findIdx f < l.length := List.findIdx_lt_length_of_exists ⟨x, hx, hf⟩
    exact ⟨l.findIdx f, hlt, by unfold ixF; rw [if_pos h], List.findIdx_getElem (w := hlt)⟩
  · left
    have hn : ∀ i (hi : i < l.length), f l[i] = false := fun i hi => by
      cases hc : f l[i]
      · rfl
      · exact absurd (List.any_eq_true.2 ⟨_, List.getElem_mem hi, hc⟩) h
    exact ⟨ixF_none hn, hn⟩
def stepOf (steps : List Stp) (g : Int) : Int := ixF (fun s : Stp => decide (g ≤ s.grams)) steps
def centAt (s : Stp) (z : Int) : Int := s.cents.getD (z - 1).toNat 0
def priceR (r : Rat) (z g : Int) : Int × Int := if stepOf r.steps g < 0 then (0, 3) else (centAt (r.steps.getD (stepOf r.steps g).toNat ⟨0, []⟩) z, 0)
structure RatOk (z : Nat) (r : Rat) : Prop where
  some_ : 1 ≤ r.steps.length ∧ r.steps.length ≤ 20
  bar : 0 ≤ r.bar ∧ r.bar ≤ 1000000
  up : ∀ i, i < r.steps.length → (if i = 0 then 0 else (r.steps.getD (i - 1) ⟨0, []⟩).grams) < (r.steps.getD i ⟨0, []⟩).grams ∧ (r.steps.getD i ⟨0, []⟩).grams ≤ 50000
  cents : ∀ s ∈ r.steps, s.cents.length = z ∧ ∀ c ∈ s.cents, 0 ≤ c ∧ c ≤ 1000000
structure TarOk (z : Nat) (T : Tar) : Prop where
  zn : 1 ≤ z ∧ z ≤ 20
  rates : 1 ≤ T.rates.length ∧ T.rates.length ≤ 20
  zones : 1 ≤ T.zones.length ∧ T.zones.length ≤ 500
  first : ∀ r, T.rates[0]? = some r → ∀ s, r.steps[0]? = some s → s.cents.length = z
  rate : ∀ r ∈ T.rates, 1 ≤ r.cls ∧ r.cls ≤ 255 ∧ RatOk z r
  apart : T.rates.Pairwise (fun a b => a.cls ≠ b.cls)
  row : ∀ r ∈ T.zones, (r.fr.size = 0 ∨ codeB r.fr = true) ∧ (r.till.size = 0 ∨ codeB r.till = true) ∧ 1 ≤ r.zone ∧ r.zone ≤ z
  rows : T.zones.Pairwise (fun a b => ¬ (a.fr = b.fr ∧ a.till = b.till))
  all : ∃ r ∈ T.zones, r.fr.size = 0 ∧ r.till.size = 0
theorem prefB_nil {p : ByteArray} (h : p.size = 0) (s : ByteArray) : prefB p s = true := by
  have e : p = ⟨#[]⟩ := by
    cases p with
    | mk d =>
      have : d.size = 0 := h
      rw [Array.size_eq_zero_iff] at this
      rw [this]
  subst e
  rfl
structure FitT (lo hb hc : Int) (T : Tar) (ls : List Lev) : Prop where
  num : 0 ≤ lo ∧ lo ≤ 1000000 ∧ 0 ≤ hc ∧ hb + hc ≤ lo
  cents : ∀ r ∈ T.rates, ∀ s ∈ r.steps, ∀ c ∈ s.cents, lo ≤ c
  bar : ∀ r ∈ T.rates, r.bar ≤ hb
  lev : ∀ l ∈ ls, 0 ≤ l.cents ∧ l.cents ≤ hc
end Go.Proofs.YtojedplbhialpaaGreatDoor

/-! MK -/
namespace Go.Proofs.YtojedplbhialpaaGreatDoor
open Go.RowKit Go.Maps Go.WideMaps
set_option linter.unusedVariables false
set_option maxRecDepth 100000
structure KeyEnc (kt : TypeId) (κ : Type) (kv : κ → Value) (okk : κ → Prop) (kl : κ → Lit) : Prop where
  keyed : Keyed Tryz.prog kt
  key : ∀ x, okk x → keyOf Tryz.prog kt (kv x) = some (kl x)
  inj : ∀ x y, okk x → okk y → kl x = kl y → x = y
def OwnsK {κ α : Type} (kt E : TypeId) (okk : κ → Prop) (kl : κ → Lit) (enc : α → Lit) (w : World) (B n : Nat) (f : κ → Option α) : Prop :=
  ∃ D : DataW Unit, w.ownsMap Tryz.prog kt (plainElem Tryz.prog E) B n D ∧ ∀ s, okk s → (f s = none → Maps.has D (kl s) = false) ∧ ∀ x, f s = some x → Maps.has D (kl s) = true ∧ ∀ zd, D.atKey (kl s) zd = .lit (enc x)
section
variable {κ α : Type} {kt E : TypeId} {kv : κ → Value} {okk : κ → Prop} {kl : κ → Lit} {enc : α → Lit} {val : α → Value} {ok : α → Prop} {z0 : α} {w w' : World} {B n : Nat} {f : κ → Option α}
theorem OwnsK.made (w : World) : OwnsK kt E okk kl enc (w.alloc (.map #[] 0)) w.heap.size 0 (fun _ => none) :=
  ⟨.map [], World.ownsMap_made _ _ _ _, fun s _ => ⟨fun _ => rfl, fun x h => by cases h⟩⟩
theorem OwnsK.kept {row : Option Nat} (h : OwnsK kt E okk kl enc w B n f) (hg : w.grownBy w' row) (hne : some B ≠ row) : OwnsK kt E okk kl enc w' B n f := by
  obtain ⟨D, hD, hf⟩ := h
  exact ⟨D, hD.kept hg hne, hf⟩
theorem OwnsK.below (h : OwnsK kt E okk kl enc w B n f) (hb : Below w.heap.size w w') : OwnsK kt E okk kl enc w' B n f := h.kept (grown_none hb) (by simp)
theorem OwnsK.lt (h : OwnsK kt E okk kl enc w B n f) : B < w.heap.size := by obtain ⟨D, hD, _⟩ := h; exact hD.lt
theorem OwnsK.look (K : KeyEnc kt κ kv okk kl) (L : ElemLaw E α enc val ok z0) (h : OwnsK kt E okk kl enc w B n f) {t : TypeId} (ht : Tryz.prog.underlying t = some (.map kt E)) {s : κ} (hs : okk s) :
    (Instr.lookup t (.map (some B)) (kv s) false).run Tryz.prog w = .ok (val ((f s).getD z0)) w := by
  obtain ⟨D, hD, hf⟩ := h
  obtain ⟨v, ps, hrun, hv⟩ := hD.lookup K.keyed ht (L.zero w) (L.lay z0 L.okz) (K.key s hs)
  rw [hrun]
  obtain ⟨h1, h2⟩ := hf s hs
  cases hfs : f s with
  | none =>
    have := h1 hfs
    rw [atKey_of_not_has this] at hv
    rw [L.inv _ _ _ hv]
    rfl
  | some x =>
    rw [(h2 x hfs).2] at hv
    rw [L.inv _ _ _ hv]
    rfl
theorem OwnsK.update (K : KeyEnc kt κ kv okk kl) (L : ElemLaw E α enc val ok z0) (h : OwnsK kt E okk kl enc w B n f) {t : TypeId} (ht : Tryz.prog.underlying t = some (.map kt E)) (hn : n < maxLen) {s : κ} (hs : okk s) {x : α} (hx : ok x) {g : κ → Option α} (hg1 : g s = some x) (hg2 : ∀ u, u ≠ s → g u = f u) :
    ∃ w', (Instr.mapUpdate t (.map (some B)) (kv s) (val x)).run Tryz.prog w = .ok () w' ∧ OwnsK kt E okk kl enc w' B (n + 1) g ∧ w.grownBy w' (some B) := by
  obtain ⟨D, hD, hf⟩ := h
  obtain ⟨w', hrun, h1, h2⟩ := hD.update K.keyed ht hn (K.key s hs) (L.lay x hx)
  refine ⟨w', hrun, ⟨_, h1, fun u hu => ?_⟩, h2⟩
  have hm := hD.isMap
  have hk : WideAt.IsKeyLit (kl s) := K.keyed.key (K.key s hs)
  by_cases e : u = s
  · subst e
    rw [hg1]
    exact ⟨fun h => (by cases h), fun y hy => by
      injection hy with hy
      subst hy
      exact ⟨has_put_same hm hk _, fun zd => atKey_put_same hm hk _ zd⟩⟩
  · rw [hg2 u e]
    have hne : kl u ≠ kl s := fun h => e (K.inj u s hu hs h)
    exact ⟨fun h => by rw [← (hf u hu).1 h]; exact has_put_other hne _, fun y hy => ⟨by rw [← ((hf u hu).2 y hy).1]; exact has_put_other hne _, fun zd => by rw [← ((hf u hu).2 y hy).2 zd]; exact atKey_put_other hne _ _⟩⟩
theorem wpList_update_K (K : KeyEnc kt κ kv okk kl) (L : ElemLaw E α enc val ok z0) (w : World) {ops : Array Oper} {rest : List Oper} {o : Oper} {a : Act} {Q : Exit → Act → World → Prop}
    (hg : o.guard = none) (m x v : Operand) (t : TypeId) (hop : o.op = Op.mapUpdate t m x v) (ht : Tryz.prog.underlying t = some (.map kt E)) (B n : Nat) (f g : κ → Option α)
    (hm : a.eval m = .map (some B)) (hown : OwnsK kt E okk kl enc w B n f) (hn : n < maxLen) (s : κ) (hs : okk s) (hx : a.eval x = kv s) (y : α) (hy : ok y) (hv : a.eval v = val y) (hg1 : g s = some y) (hg2 : ∀ u, u ≠ s → g u = f u)
    (hK : ∀ w', OwnsK kt E okk kl enc w' B (n + 1) g → w.grownBy w' (some B) → wpList Tryz.prog ops Q rest (a.put o.dst undef) w') : wpList Tryz.prog ops Q (o :: rest) a w := by
  refine wpList_plain hg fun K' hK' => ?_
  obtain ⟨w', hrun, r1, r2⟩ := hown.update K L ht hn hs hy hg1 hg2
  unfold Oper.wp
  simp [execOp, hop, hm, hx, hv, hrun, Result.andThen]
  exact hK' _ _ (hK w' r1 r2)
end
theorem keyU8 : KeyEnc 5 Int (Value.int .u8) (fun n => (Lit.int .u8 n).wf = true) (Lit.int .u8) where
  keyed := int_keyed Tryz.underlying5
  key := fun x h => keyOf_int_mk Tryz.underlying5 h
  inj := fun x y _ _ h => by injection h
abbrev TSS : TypeId := 273
theorem arrSS : ArrKey Tryz.prog TSS 9 2 := ⟨by kernel_rfl, by kernel_rfl, by kernel_rfl, by kernel_rfl⟩
theorem typesSome : ∃ m, Tryz.prog.types.size = m + 1 := ⟨Tryz.prog.types.size - 1, by kernel_rfl⟩
theorem keyOf_SS {a b : ByteArray} (ha : a.size ≤ maxLen) (hb : b.size ≤ maxLen) : (keyOf Tryz.prog TSS (.agg #[.string a, .string b])).isSome = true := by
  have A := arrSS
  have he := Tryz.underlying9
  have hkt := A.keyType typesSome
  obtain ⟨m, hm⟩ := typesSome
  unfold keyOf
  simp only [A.hu]
  rw [if_pos (by simp [hkt, Value.formed, A.hu, A.size]), hm]
  unfold Program.keyLits
  simp only [A.hu, Value.cells]
  rw [if_pos (by rw [A.size]; rfl), show List.range 2 = [0, 1] from rfl, List.mapM_cons, List.mapM_cons, List.mapM_nil]
  simp [A.one, Program.keyLits, he, ha, hb]
theorem progLaid : laidOutB Tryz.prog = true := by kernel_rfl
theorem lawSS : KeyLaw Tryz.prog TSS := deep_law_laid progLaid (m := 2) (by omega) (of_decide_eq_true (by kernel_rfl)) (by kernel_rfl) (by kernel_rfl)
theorem agg2_inj {x y : ByteArray × ByteArray} (h : Value.agg #[.string x.1, .string x.2] = Value.agg #[.string y.1, .string y.2]) : x = y := by
  have h0 : (#[Value.string x.1, Value.string x.2] : Array Value).toList = (#[Value.string y.1, Value.string y.2] : Array Value).toList := congrArg Array.toList (Value.agg.inj h)
  have h1 := (List.cons.inj h0).1
  have h2 := (List.cons.inj (List.cons.inj h0).2).1
  exact Prod.ext (Value.string.inj h1) (Value.string.inj h2)
noncomputable def klSS (x : ByteArray × ByteArray) : Lit := (keyOf Tryz.prog TSS (.agg #[.string x.1, .string x.2])).getD (.bool false)
theorem keySS : KeyEnc TSS (ByteArray × ByteArray) (fun x => .agg #[.string x.1, .string x.2]) (fun x => x.1.size ≤ maxLen ∧ x.2.size ≤ maxLen) klSS where
  keyed := Keyed.of_law lawSS
  key := fun x h => by
    have := keyOf_SS h.1 h.2
    unfold klSS
    rw [Option.isSome_iff_exists] at this
    obtain ⟨l, hl⟩ := this
    rw [hl]; rfl
  inj := fun x y hx hy h => by
    obtain ⟨l, hl⟩ := Option.isSome_iff_exists.1 (keyOf_SS hx.1 hx.2)
    obtain ⟨l', hl'⟩ := Option.isSome_iff_exists.1 (keyOf_SS hy.1 hy.2)
    unfold klSS at h
    rw [hl, hl'] at h
    have h' : l = l' := h
    subst h'
    have hv : Value.agg #[.string x.1, .string x.2] = Value.agg #[.string y.1, .string y.2] := lawSS.inj hl hl'
    exact agg2_inj hv
end Go.Proofs.YtojedplbhialpaaGreatDoor
