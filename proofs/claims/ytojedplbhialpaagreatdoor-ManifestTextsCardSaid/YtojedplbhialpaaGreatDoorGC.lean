import Derived.Test.YtojedplbhialpaaGreatDoorGB
import Derived.Deep.CutBlock
import Derived.Deep.RegionLaw
/-! SI -/
namespace Go.Proofs.YtojedplbhialpaaGreatDoor
open Go.RowKit
set_option linter.unusedVariables false
def sortedC : List Lab → Bool
  | x :: y :: r => ltB x.pre y.pre && sortedC (y :: r)
  | _ => true
theorem sortedC_iff : ∀ l : List Lab, sortedC l = true ↔ sortedB l
  | [] => ⟨fun _ i h => by simp at h, fun _ => rfl⟩
  | [x] => ⟨fun _ i h => by simp at h, fun _ => rfl⟩
  | x :: y :: r => by
    unfold sortedC
    rw [Bool.and_eq_true, sortedC_iff (y :: r)]
    constructor
    · rintro ⟨h1, h2⟩ i hi
      cases i with
      | zero => exact h1
      | succ i => exact h2 i (by simpa using hi)
    · intro h
      exact ⟨h 0 (by simp), fun i hi => h (i + 1) (by simpa using hi)⟩
def levelC (l : Lev) (last : Bool) : Bool := headB l && if last then (decide (l.min = 0) && decide (l.pre = 0) && decide (l.labs.length = 0)) else (decide (1 ≤ l.min) && decide (l.min ≤ 2000) && l.labs.all (labOk l) && sortedC l.labs)
theorem labsTo_iff (l : Lev) : labsTo l l.labs.length ↔ (l.labs.all (labOk l) = true ∧ sortedC l.labs = true) := by
  rw [sortedC_iff, List.all_eq_true]
  constructor
  · intro h
    exact ⟨fun x hx => by obtain ⟨i, hi, rfl⟩ := List.mem_iff_getElem.1 hx; exact (h i hi hi).1, fun i hi => (h (i + 1) hi hi).2 i rfl (by omega)⟩
  · rintro ⟨h1, h2⟩ i hi h
    exact ⟨h1 _ (List.getElem_mem h), fun j hj h' => by subst hj; exact h2 j h⟩
theorem levelC_iff {l : Lev} {last : Bool} : levelC l last = true ↔ levelP l last := by
  unfold levelC levelP
  rw [Bool.and_eq_true]
  cases last
  · simp only [Bool.false_eq_true, if_false, Bool.and_eq_true, decide_eq_true_eq]
    rw [labsTo_iff]
    constructor
    · rintro ⟨a, ⟨⟨b, c⟩, d⟩, e⟩; exact ⟨a, ⟨b, c⟩, d, e⟩
    · rintro ⟨a, ⟨b, c⟩, d, e⟩; exact ⟨a, ⟨⟨b, c⟩, d⟩, e⟩
  · simp only [if_true, Bool.and_eq_true, decide_eq_true_eq]
    constructor
    · rintro ⟨a, ⟨b, c⟩, d⟩; exact ⟨a, b, c, d⟩
    · rintro ⟨a, b, c, d⟩; exact ⟨a, ⟨b, c⟩, d⟩
theorem levelB_eq (l : Lev) (last : Bool) : levelB l last = levelC l last := by rw [Bool.eq_iff_iff, levelB_iff, levelC_iff]
def nestC (l next : Lev) : Bool := (l.labs.flatMap (pairsL l)).all (fun x => (l.labs.flatMap (pairsL l)).all (fun y => !decide (x.1 = y.1) || decide (grpOf next x.2 = grpOf next y.2)))
theorem nestC_iff {l next : Lev} : nestC l next = true ↔ nestedP l next := by
  unfold nestC nestedP
  simp only [List.all_eq_true, Bool.or_eq_true, Bool.not_eq_true', decide_eq_false_iff_not, decide_eq_true_eq]
  constructor
  · intro h x hx y hy e
    rcases h x hx y hy with h' | h'
    · exact absurd e h'
    · exact h'
  · intro h x hx y hy
    by_cases e : x.1 = y.1
    · exact .inr (h x hx y hy e)
    · exact .inl e
theorem nestedB_eq (l next : Lev) : nestedB l next = nestC l next := by rw [Bool.eq_iff_iff, nestedB_iff, nestC_iff]
def levelsC : List Lev → Bool
  | [] => true
  | [l] => levelC l true
  | l :: m :: r => levelC l false && levelsC (m :: r)
def namesC : List Lev → Bool
  | [] => true
  | l :: r => r.all (fun m => !decide (l.name = m.name)) && namesC r
def chainC : List Lev → Bool
  | l :: m :: r => decide (m.pre ≤ l.pre) && nestC l m && chainC (m :: r)
  | _ => true
def rightC (ls : List Lev) : Bool := decide (1 ≤ ls.length) && decide (ls.length ≤ 6) && decide ((ls.map (fun l => l.labs.length)).sum ≤ 200) && levelsC ls && namesC ls && chainC ls
theorem levelsC_iff : ∀ ls : List Lev, levelsC ls = true ↔ ∀ i (h : i < ls.length), levelB ls[i] (decide (i + 1 = ls.length)) = true
  | [] => ⟨fun _ i h => by simp at h, fun _ => rfl⟩
  | [l] => by
    unfold levelsC
    rw [← levelB_eq]
    exact ⟨fun h i hi => by obtain rfl : i = 0 := by simpa using hi
                            exact h, fun h => h 0 (by simp)⟩
  | l :: m :: r => by
    unfold levelsC
    rw [Bool.and_eq_true, levelsC_iff (m :: r), ← levelB_eq]
    constructor
    · rintro ⟨h1, h2⟩ i hi
      cases i with
      | zero => simpa using h1
      | succ i =>
        have := h2 i (by simpa using hi)
        simpa using this
    · intro h
      refine ⟨?_, fun i hi => ?_⟩
      · have := h 0 (by simp)
        simpa using this
      · have := h (i + 1) (by simpa using hi)
        simpa using this
theorem namesC_iff : ∀ ls : List Lev, namesC ls = true ↔ ∀ i (h : i < ls.length) j, (hj : j < i) → (ls[j]'(by omega)).name ≠ ls[i].name
  | [] => ⟨fun _ i h => by simp at h, fun _ => rfl⟩
  | l :: r => by
    unfold namesC
    rw [Bool.and_eq_true, namesC_iff r, List.all_eq_true]
    constructor
    · rintro ⟨h1, h2⟩ i hi j hj
      cases i with
      | zero => omega
      | succ i =>
        cases j with
        | zero => simpa using h1 _ (List.getElem_mem (show i < r.length by simpa using hi))
        | succ j => exact h2 i (by simpa using hi) j (by omega)
    · intro h
      refine ⟨fun m hm => ?_, fun i hi j hj => h (i + 1) (by simpa using hi) (j + 1) (by omega)⟩
      obtain ⟨i, hi, rfl⟩ := List.mem_iff_getElem.1 hm
      have := h (i + 1) (by simpa using hi) 0 (by omega)
      simpa using this
theorem chainC_iff : ∀ ls : List Lev, chainC ls = true ↔ ∀ i (h : i + 1 < ls.length), ls[i + 1].pre ≤ ls[i].pre ∧ nestedB ls[i] ls[i + 1] = true
  | [] => ⟨fun _ i h => by simp at h, fun _ => rfl⟩
  | [l] => ⟨fun _ i h => by simp at h, fun _ => rfl⟩
  | l :: m :: r => by
    unfold chainC
    rw [Bool.and_eq_true, Bool.and_eq_true, chainC_iff (m :: r), ← nestedB_eq, decide_eq_true_eq]
    constructor
    · rintro ⟨h1, h2⟩ i hi
      cases i with
      | zero => exact h1
      | succ i => exact h2 i (by simpa using hi)
    · intro h
      exact ⟨h 0 (by simp), fun i hi => h (i + 1) (by simpa using hi)⟩
theorem rightB_eq (ls : List Lev) : rightB ls = rightC ls := by
  rw [Bool.eq_iff_iff, rightB_iff]
  unfold rightC
  simp only [Bool.and_eq_true, decide_eq_true_eq]
  rw [levelsC_iff, namesC_iff, chainC_iff]
  unfold rightP okTo
  have es : sumTo ls ls.length = (ls.map (fun l => l.labs.length)).sum := by unfold sumTo; rw [List.take_of_length_le (Nat.le_refl _)]
  rw [es]
  constructor
  · rintro ⟨a, b, ⟨c, d, e, f⟩, g⟩
    exact ⟨⟨⟨⟨⟨a, b⟩, c⟩, fun i h => d i h h⟩, fun i h j hj => e i h h j hj (by omega)⟩, fun i h => ⟨f (i + 1) h h i rfl (by omega), g i h⟩⟩
  · rintro ⟨⟨⟨⟨⟨a, b⟩, c⟩, d⟩, e⟩, f⟩
    exact ⟨a, b, ⟨c, fun i _ h => d i h, fun i _ h j hj h' => e i h j hj, fun i _ h j hj h' => by subst hj; exact (f j h).1⟩, fun i h => (f i h).2⟩
end Go.Proofs.YtojedplbhialpaaGreatDoor

/-! SJ -/
namespace Go.Proofs.YtojedplbhialpaaGreatDoor
open Go.RowKit
set_option linter.unusedVariables false
set_option maxRecDepth 100000
theorem rd_nil (w : World) : RdLabs w (.slice none 0 0) [] := ⟨none, 0, rfl, fun h => absurd h (by simp)⟩
theorem groupsR_ok {ls : List Lev} {cs : List ByteArray} (h1 : rightB ls = true) (h2 : cs.length ≤ 2000) (h3 : ∀ c ∈ cs, codeB c = true) (h4 : cs.any (shortB ls) = false) : groupsR ls cs = ((gTo ls cs ls.length).1, 0) := by
  unfold groupsR; rw [if_neg (by omega), if_pos ⟨h1, h3⟩, h4]; rfl
theorem rd_texts {W : World} {n : Nat} {T : TypeId} (ls : List ByteArray) (h : W.heap[n]? = some (.cells (ls.map Value.string).toArray T (0, 0))) : ReadsT W (.slice (some ⟨n, 0, none⟩) ls.length ls.length) ls := by
  refine ⟨_, _, rfl, fun _ => ⟨n, 0, rfl, (Array.getElem?_eq_some_iff.1 h).1, fun i hi => ?_⟩⟩
  rw [Nat.zero_add, cell_of_row _ n i _ _ _ h]
  simp [hi]
end Go.Proofs.YtojedplbhialpaaGreatDoor

/-! SM -/
namespace Go.Proofs.YtojedplbhialpaaGreatDoor
open Go.RowKit
set_option linter.unusedVariables false
set_option maxRecDepth 100000
theorem kept_typed {w w' : World} {base : Nat} {e : TypeId} {size : Nat} {v : Value} {n : Nat} {xs : List Value} {row : Option Nat} (h : w.ownsRow base e size v n xs) (hg : w.grownBy w' row) (hT : ∀ g, row = some g → ∀ cur fr, w.heap[g]? ≠ some (.cells cur e fr)) : w'.ownsRow base e size v n xs := by
  refine h.kept hg ?_
  obtain ⟨_, hv | ⟨g, cap, cur, rfl, _, hh, _⟩⟩ := h
  · rw [hv.1]; exact .inl rfl
  · exact .inr (fun e' => hT g e'.symm _ _ hh)
def labCell (x : Lab) : List Value := [.string x.pre, .string x.grp]
theorem labCells_get (L : List Lab) (k j : Nat) (h : k < L.length) (hj : j < 2) : (L.flatMap labCell)[k * 2 + j]? = (labCell L[k])[j]? := by
  induction L generalizing k with
  | nil => simp at h
  | cons p r ih =>
    rw [List.flatMap_cons]
    have hl : (labCell p).length = 2 := rfl
    cases k with
    | zero => rw [Nat.zero_mul, Nat.zero_add, List.getElem?_append_left (by omega)]; rfl
    | succ k =>
      rw [List.getElem?_append_right (by rw [hl]; omega), hl, show (k + 1) * 2 + j - 2 = k * 2 + j by omega]
      exact ih k (by simpa using h)
def lCell (p : Lev × Value) : List Value := [.string p.1.name, .int .i64 p.1.pre, p.2, .int .i64 p.1.min, .int .i64 p.1.cents]
theorem lCells_get (L : List (Lev × Value)) (k j : Nat) (h : k < L.length) (hj : j < 5) : (L.flatMap lCell)[k * 5 + j]? = (lCell L[k])[j]? := by
  induction L generalizing k with
  | nil => simp at h
  | cons p r ih =>
    rw [List.flatMap_cons]
    have hl : (lCell p).length = 5 := rfl
    cases k with
    | zero => rw [Nat.zero_mul, Nat.zero_add, List.getElem?_append_left (by omega)]; rfl
    | succ k =>
      rw [List.getElem?_append_right (by rw [hl]; omega), hl, show (k + 1) * 5 + j - 5 = k * 5 + j by omega]
      exact ih k (by simpa using h)
theorem set_grown (w : World) (a : Addr) (u : Value) : w.grownBy (w.setCell a u) (some a.block) := by
  refine ⟨rfl, rfl, rfl, by simp, fun k hk hne => Below.heap_setCell _ _ _ _ (fun e => hne (by rw [e]))⟩
end Go.Proofs.YtojedplbhialpaaGreatDoor

/-! SN -/
namespace Go.Proofs.YtojedplbhialpaaGreatDoor
open Go.RowKit
set_option linter.unusedVariables false
set_option maxRecDepth 100000
theorem cells_newN (W : World) (n : Nat) (hn : n = W.heap.size) (cs : List Value) (T : TypeId) : ∀ j u, cs[j]? = some u → (W.alloc (.cells cs.toArray T)).cell? ((⟨n, 0, none⟩ : Addr).add j) = some u := by subst hn; exact cells_new W cs T
end Go.Proofs.YtojedplbhialpaaGreatDoor

/-! SO -/
namespace Go.Proofs.YtojedplbhialpaaGreatDoor
open Go.RowKit
set_option linter.unusedVariables false
def bt (n m : Int) : Bool := decide (0 < bits BinOp.and IntKind.u32 n m)
end Go.Proofs.YtojedplbhialpaaGreatDoor

/-! SQ -/
namespace Go.Proofs.YtojedplbhialpaaGreatDoor
open Go.RowKit
set_option linter.unusedVariables false
def bools : Nat → List (List Bool)
  | 0 => [[]]
  | n + 1 => (bools n).flatMap (fun l => [false :: l, true :: l])
end Go.Proofs.YtojedplbhialpaaGreatDoor

/-! V0 -/
namespace Go.Proofs.YtojedplbhialpaaGreatDoor
open Go.RowKit
set_option linter.unusedVariables false
set_option maxRecDepth 100000
theorem right_fits {ls : List Lev} (h : rightB ls = true) : ∀ l ∈ ls, LevFits l := by
  intro l hl
  obtain ⟨i, hi, rfl⟩ := List.mem_iff_getElem.1 hl
  obtain ⟨_, _, ⟨hs, hlv, _, _⟩, _⟩ := rightB_iff.1 h
  obtain ⟨hh, hr⟩ := levelB_iff.1 (hlv i hi hi)
  obtain ⟨hn, _⟩ := head_parts hh
  have nm : ∀ s : ByteArray, nameB s = true → s.size ≤ maxLen := fun s hs => by
    unfold nameB at hs
    simp at hs
    unfold maxLen
    omega
  have hlen : ls[i].labs.length ≤ 200 := by
    have h1 := sumTo_succ ls i hi
    have h2 := sumTo_mono ls (show i + 1 ≤ ls.length from hi)
    omega
  refine ⟨nm _ hn, by omega, fun x hx => ?_⟩
  obtain ⟨k, hk, rfl⟩ := List.mem_iff_getElem.1 hx
  cases hb : decide (i + 1 = ls.length)
  · rw [hb] at hr
    simp only [Bool.false_eq_true, if_false] at hr
    have := (hr.2 k hk hk).1
    have hf := (right_level h i hi).2.1 _ (List.getElem_mem hk)
    have hf2 := (right_level h i hi).2.2.2
    unfold labOk at this
    simp only [Bool.and_eq_true] at this
    exact ⟨by unfold maxLen; omega, nm _ this.2⟩
  · rw [hb] at hr
    simp only [if_true] at hr
    omega
end Go.Proofs.YtojedplbhialpaaGreatDoor

/-! V2 -/
namespace Go.Proofs.YtojedplbhialpaaGreatDoor
open Go.RowKit
set_option linter.unusedVariables false
set_option maxRecDepth 100000
theorem gTo_item_len (ls : List Lev) (cs : List ByteArray) : ∀ k, k ≤ ls.length → ∀ g ∈ (gTo ls cs k).1, g.items.length ≤ cs.length := by
  intro k
  induction k with
  | zero => intro _ g hg; cases hg
  | succ k ih =>
    intro h
    rw [gTo_succ ls cs k h]
    intro g hg
    unfold gStep at hg
    simp only [List.append_assoc, List.mem_append, List.mem_map] at hg
    rcases hg with hg | ⟨g', hg, rfl⟩ | ⟨n, hn, rfl⟩
    · exact ih (by omega) g (List.mem_of_mem_take hg)
    · exact ih (by omega) g' (List.mem_of_mem_drop hg)
    · exact itemsTo_len _ _ _ _
end Go.Proofs.YtojedplbhialpaaGreatDoor

/-! V4 -/
namespace Go.Proofs.YtojedplbhialpaaGreatDoor
open Go.RowKit
set_option linter.unusedVariables false
set_option maxRecDepth 100000
def lv (ls : List Lev) (m : Nat) : Lev := ls.getD m ⟨⟨#[]⟩, 0, [], 0, 0⟩
theorem lv_get {ls : List Lev} {m : Nat} (h : m < ls.length) : lv ls m = ls[m] := by
  unfold lv; rw [List.getD_eq_getElem?_getD, List.getElem?_eq_getElem h]; rfl
def nm (ls : List Lev) (cs : List ByteArray) (m : Nat) : List ByteArray := namesOf (lv ls m) cs
def startOf (ls : List Lev) (cs : List ByteArray) : Nat → Nat
  | 0 => 0
  | m + 1 => startOf ls cs m + (nm ls cs m).length
def itm (ls : List Lev) (cs : List ByteArray) (m : Nat) (n : ByteArray) : List Int := itemsTo (lv ls m) cs cs.length n
def headC (ls : List Lev) (cs : List ByteArray) (m : Nat) (n : ByteArray) : ByteArray := cs.getD ((itm ls cs m n).headD 0).toNat ⟨#[]⟩
def upOf (ls : List Lev) (cs : List ByteArray) (m : Nat) (n : ByteArray) : Nat := startOf ls cs (m + 1) + idx (grpOf (lv ls (m + 1)) (headC ls cs m n)) (nm ls cs (m + 1))
def gAt (ls : List Lev) (cs : List ByteArray) (k m : Nat) (n : ByteArray) : Grp := ⟨m, n, if m + 1 < k then (upOf ls cs m n : Int) else -1, itm ls cs m n⟩
def gAll (ls : List Lev) (cs : List ByteArray) (k : Nat) : List Grp := (List.range k).flatMap (fun m => (nm ls cs m).map (gAt ls cs k m))
theorem flat_len {α : Type} (f : Nat → List α) (s : Nat → Nat) (h0 : s 0 = 0) (hs : ∀ m, s (m + 1) = s m + (f m).length) : ∀ k, ((List.range k).flatMap f).length = s k := by
  intro k
  induction k with
  | zero => rw [h0]; rfl
  | succ k ih => rw [List.range_succ, List.flatMap_append, List.length_append, ih, hs]; simp
theorem gAll_len (ls : List Lev) (cs : List ByteArray) (k : Nat) : (gAll ls cs k).length = startOf ls cs k :=
  flat_len _ _ rfl (fun m => by simp [startOf]) k
theorem gTo_closed (ls : List Lev) (cs : List ByteArray) : ∀ k, k ≤ ls.length → gTo ls cs k = (gAll ls cs k, startOf ls cs (k - 1), k) := by
  intro k
  induction k with
  | zero => intro _; rfl
  | succ k ih =>
    intro h
    rw [gTo_succ ls cs k h, ih (by omega)]
    unfold gStep
    simp only [Prod.mk.injEq, Nat.add_sub_cancel, and_true]
    refine ⟨?_, gAll_len ls cs k⟩
    rw [gAll_len, ← lv_get h]
    have e3 : (namesOf (lv ls k) cs).map (mkG k (lv ls k) cs) = (nm ls cs k).map (gAt ls cs (k + 1) k) := by
      refine List.map_congr_left (fun n _ => ?_)
      unfold mkG gAt itm
      rw [if_neg (by omega)]
    rw [e3]
    have e4 : gAll ls cs (k + 1) = ((List.range k).flatMap (fun m => (nm ls cs m).map (gAt ls cs (k + 1) m))) ++ (nm ls cs k).map (gAt ls cs (k + 1) k) := by
      unfold gAll
      rw [List.range_succ, List.flatMap_append]
      simp
    rw [e4]
    congr 1
    cases k with
    | zero => rfl
    | succ j =>
      simp only [Nat.add_sub_cancel]
      have e5 : gAll ls cs (j + 1) = ((List.range j).flatMap (fun m => (nm ls cs m).map (gAt ls cs (j + 1) m))) ++ (nm ls cs j).map (gAt ls cs (j + 1) j) := by
        unfold gAll
        rw [List.range_succ, List.flatMap_append]
        simp
      have hl : ((List.range j).flatMap (fun m => (nm ls cs m).map (gAt ls cs (j + 1) m))).length = startOf ls cs j := flat_len _ _ rfl (fun m => by simp [startOf]) j
      rw [e5, List.take_append_of_le_length (by omega), List.drop_append_of_le_length (by omega), List.take_of_length_le (by omega), List.drop_eq_nil_of_le (by omega), List.nil_append, List.range_succ, List.flatMap_append, List.map_map]
      have e6 : (List.range j).flatMap (fun m => (nm ls cs m).map (gAt ls cs (j + 1) m)) = (List.range j).flatMap (fun m => (nm ls cs m).map (gAt ls cs (j + 1 + 1) m)) := by
        rw [List.flatMap_def, List.flatMap_def]
        congr 1
        refine List.map_congr_left (fun m hm => List.map_congr_left (fun n _ => ?_))
        have := List.mem_range.1 hm
        unfold gAt
        rw [if_pos (by omega), if_pos (by omega)]
      rw [e6]
      congr 1
      simp only [List.flatMap_cons, List.flatMap_nil, List.append_nil]
      refine List.map_congr_left (fun n _ => ?_)
      unfold gAt upTo upOf headC nm
      simp
theorem mem_gAll {ls : List Lev} {cs : List ByteArray} {k : Nat} {g : Grp} : g ∈ gAll ls cs k ↔ ∃ m n, m < k ∧ n ∈ nm ls cs m ∧ g = gAt ls cs k m n := by
  unfold gAll
  simp only [List.mem_flatMap, List.mem_range, List.mem_map]
  exact ⟨fun ⟨m, hm, n, hn, he⟩ => ⟨m, n, hm, hn, he.symm⟩, fun ⟨m, n, hm, hn, he⟩ => ⟨m, hm, n, hn, he.symm⟩⟩
theorem gAll_order (ls : List Lev) (cs : List ByteArray) (k : Nat) : (gAll ls cs k).Pairwise (fun g h => g.lvl < h.lvl ∨ g.lvl = h.lvl ∧ ltB g.name h.name = true) := by
  unfold gAll
  rw [List.pairwise_flatMap]
  refine ⟨fun m _ => ?_, ?_⟩
  · rw [List.pairwise_map]
    refine List.Pairwise.imp ?_ (strict_sortB (cs.map (grpOf (lv ls m))))
    intro a b h
    exact Or.inr ⟨rfl, h⟩
  · refine List.Pairwise.imp ?_ List.pairwise_lt_range
    intro a b hab x hx y hy
    obtain ⟨n, _, rfl⟩ := List.mem_map.1 hx
    obtain ⟨n', _, rfl⟩ := List.mem_map.1 hy
    left
    show (a : Int) < (b : Int)
    omega
theorem mem_itm {ls : List Lev} {cs : List ByteArray} {m : Nat} {n : ByteArray} {x : Int} : x ∈ itm ls cs m n ↔ ∃ i : Nat, ∃ h : i < cs.length, grpOf (lv ls m) cs[i] = n ∧ x = i := by
  unfold itm
  rw [mem_itemsTo]
  constructor
  · rintro ⟨i, hi, he, rfl⟩
    refine ⟨i, hi, ?_, rfl⟩
    rw [List.getD_eq_getElem?_getD, List.getElem?_eq_getElem hi] at he
    exact he
  · rintro ⟨i, hi, he, rfl⟩
    refine ⟨i, hi, ?_, rfl⟩
    rw [List.getD_eq_getElem?_getD, List.getElem?_eq_getElem hi]
    exact he
theorem itm_order (ls : List Lev) (cs : List ByteArray) (m : Nat) (n : ByteArray) : (itm ls cs m n).Pairwise (· < ·) := by
  unfold itm itemsTo
  rw [List.pairwise_map]
  refine List.Pairwise.imp ?_ (List.Pairwise.filter _ List.pairwise_lt_range)
  intro a b h
  exact Int.ofNat_lt.2 h
theorem nm_of {ls : List Lev} {cs : List ByteArray} {m i : Nat} (h : i < cs.length) : grpOf (lv ls m) cs[i] ∈ nm ls cs m := by
  unfold nm namesOf
  rw [mem_sortB]
  exact List.mem_map.2 ⟨_, List.getElem_mem h, rfl⟩
end Go.Proofs.YtojedplbhialpaaGreatDoor

/-! V5 -/
namespace Go.Proofs.YtojedplbhialpaaGreatDoor
open Go.RowKit
set_option linter.unusedVariables false
set_option maxRecDepth 100000
theorem itm_len (ls : List Lev) (cs : List ByteArray) (m : Nat) (n : ByteArray) : (itm ls cs m n).length ≤ cs.length := itemsTo_len _ _ _ _
end Go.Proofs.YtojedplbhialpaaGreatDoor

/-! P0 -/
namespace Go.Proofs.YtojedplbhialpaaGreatDoor
set_option linter.unusedVariables false
structure PGrp where
  lvl : Int
  up : Int
  items : List Int
def joinIn (i : Nat) (x : Int) (b : List Int) (k : Nat) (l : List Int) : List Int :=
  (List.range k).foldl (fun l j => if b.getD j (-1) = -1 then l else l.set (i + j) (max (l.getD (i + j) (-1)) (x + b.getD j (-1)))) l
def joinTo (a b : List Int) (k : Nat) : List Int :=
  (List.range k).foldl (fun l i => if a.getD i (-1) = -1 then l else joinIn i (a.getD i (-1)) b b.length l) (List.replicate (a.length + b.length - 1) (-1))
def joinR (a b : List Int) : List Int := joinTo a b a.length
def mergedTo (ts : List (List Int)) : Nat → List Int
  | 0 => [0]
  | k + 1 => joinR (ts.getD (ts.length - 1 - k) []) (mergedTo ts k)
def comeR (lvl : Int) (items : Nat) (ts : List (List Int)) : List Int :=
  if lvl = 0 then List.replicate items (-1) ++ [0] else if ts.length = 0 then [] else mergedTo ts ts.length
def saverR (mn cents passes come : Int) : Int := if come - passes < 0 ∨ (0 < come - passes ∧ come - passes < mn) then -1 else (come - passes) * cents
def cellTo (come : List Int) (mn cents : Int) (p k : Nat) : Int :=
  (List.range k).foldl (fun acc j => if saverR mn cents (p : Nat) (p + j : Nat) ≠ -1 ∧ come.getD (p + j) (-1) ≠ -1 then max acc (come.getD (p + j) (-1) + saverR mn cents (p : Nat) (p + j : Nat)) else acc) (-1)
def tableR (come : List Int) (last : Bool) (mn cents : Int) : List Int := (List.range (if last then 1 else come.length)).map (fun p => cellTo come mn cents p (come.length - p))
def belowR (gs : List PGrp) (g : Nat) : List Nat := (List.range gs.length).filter (fun h => decide ((gs.getD h ⟨0, 0, []⟩).up = (g : Int)))
def gsAt (gs : List PGrp) (g : Nat) : PGrp := gs.getD g ⟨0, 0, []⟩
def tabsTo (ls : List (Int × Int)) (gs : List PGrp) : Nat → List (List Int)
  | 0 => []
  | g + 1 => let ts := tabsTo ls gs g
    let l := ls.getD (gsAt gs g).lvl.toNat (0, 0)
    ts ++ [tableR (comeR (gsAt gs g).lvl (gsAt gs g).items.length ((belowR gs g).map (fun h => ts.getD h []))) (decide ((gsAt gs g).lvl = (ls.length : Int) - 1)) l.1 l.2]
def insI (x : Int) : List Int → List Int
  | [] => [x]
  | y :: r => if x ≤ y then x :: y :: r else y :: insI x r
def sortI (l : List Int) : List Int := l.foldr insI []
def planTo (gs : List PGrp) (f : Nat → Int) : Nat → List Int → (List Int × List (List Int))
  | 0, p => (p, [])
  | g + 1, p => let (q, passed) := planTo gs f g p
    let come := sortI ((if (gsAt gs g).lvl = 0 then (gsAt gs g).items else []) ++ (belowR gs g).flatMap (fun h => passed.getD h []))
    let takes := come.length - (f g).toNat
    ((come.take takes).foldl (fun q i => q.set i.toNat (gsAt gs g).lvl) q, passed ++ [come.drop takes])
end Go.Proofs.YtojedplbhialpaaGreatDoor

/-! P1 -/
namespace Go.Proofs.YtojedplbhialpaaGreatDoor
open Go.RowKit Go.Sort
set_option linter.unusedVariables false
def numsB (n : Nat) (zs : List Int) : Bool := zs.all (fun z => decide (0 ≤ z) && decide (z < (n : Int)))
def centsAt (ls : List Lev) (z : Int) : Int := (ls.getD z.toNat ⟨⟨#[]⟩, 0, [], 0, 0⟩).cents
def savesTo (ls : List Lev) (zs : List Int) (k : Nat) : Int := ((zs.take k).map (centsAt ls)).sum
theorem savesTo_succ (ls : List Lev) (zs : List Int) (k : Nat) (h : k < zs.length) : savesTo ls zs (k + 1) = savesTo ls zs k + centsAt ls zs[k] := by
  unfold savesTo; rw [List.take_succ_eq_append_getElem h, List.map_append, List.sum_append]; simp
theorem nums_at {n : Nat} {zs : List Int} (h : numsB n zs = true) (k : Nat) (hk : k < zs.length) : 0 ≤ zs[k] ∧ zs[k] < (n : Int) := by
  unfold numsB at h
  have := List.all_eq_true.1 h _ (List.getElem_mem hk)
  simpa using this
theorem nums_false {n : Nat} {zs : List Int} {k : Nat} (hk : k < zs.length) (h : zs[k] < 0 ∨ (n : Int) ≤ zs[k]) : numsB n zs = false := by
  unfold numsB
  rw [List.all_eq_false]
  refine ⟨_, List.getElem_mem hk, ?_⟩
  simp
  omega
theorem nums_true {n : Nat} {zs : List Int} (h : ∀ k (hk : k < zs.length), 0 ≤ zs[k] ∧ zs[k] < (n : Int)) : numsB n zs = true := by
  unfold numsB
  rw [List.all_eq_true]
  intro z hz
  obtain ⟨k, hk, rfl⟩ := List.mem_iff_getElem.1 hz
  have := h k hk
  simp
  exact this
theorem cents_bound {ls : List Lev} (hr : rightB ls = true) {z : Int} (h0 : 0 ≤ z) (h1 : z < (ls.length : Int)) : 0 ≤ centsAt ls z ∧ centsAt ls z ≤ 1000000 := by
  have hi : z.toNat < ls.length := by omega
  have hl := (rightB_iff.1 hr).2.2.1.2.1 z.toNat hi hi
  obtain ⟨_, _, _, h2, h3⟩ := head_parts (levelB_iff.1 hl).1
  unfold centsAt
  rw [List.getD_eq_getElem?_getD, List.getElem?_eq_getElem hi]
  exact ⟨h2, h3⟩
theorem saves_bound {ls : List Lev} (hr : rightB ls = true) {zs : List Int} (h : numsB ls.length zs = true) : ∀ k, k ≤ zs.length → 0 ≤ savesTo ls zs k ∧ savesTo ls zs k ≤ k * 1000000
  | 0, _ => by simp [savesTo]
  | k + 1, hk => by
    obtain ⟨a, b⟩ := saves_bound hr h k (by omega)
    obtain ⟨c, d⟩ := nums_at h k hk
    obtain ⟨e, f⟩ := cents_bound hr c d
    rw [savesTo_succ ls zs k hk]
    omega
end Go.Proofs.YtojedplbhialpaaGreatDoor

/-! P2 -/
namespace Go.Proofs.YtojedplbhialpaaGreatDoor
set_option linter.unusedVariables false
def ent (l : List Int) (i : Nat) : Int := l.getD i (-1)
def Pair (a b : List Int) (i j : Nat) : Prop := i < a.length ∧ j < b.length ∧ ent a i ≠ -1 ∧ ent b j ≠ -1
structure JoinInv (a b l : List Int) (S : Nat → Nat → Prop) : Prop where
  len : l.length = a.length + b.length - 1
  up : ∀ i j, S i j → Pair a b i j → ent a i + ent b j ≤ ent l (i + j)
  at_ : ∀ n, ent l n = -1 ∨ ∃ i j, S i j ∧ Pair a b i j ∧ i + j = n ∧ ent l n = ent a i + ent b j
theorem ent_set (l : List Int) (k : Nat) (x : Int) (n : Nat) : ent (l.set k x) n = if n = k ∧ k < l.length then x else ent l n := by
  unfold ent
  rw [List.getD_eq_getElem?_getD, List.getD_eq_getElem?_getD, List.getElem?_set]
  by_cases h : k = n
  · subst h
    by_cases hl : k < l.length
    · rw [if_pos rfl, if_pos hl, if_pos ⟨rfl, hl⟩]; rfl
    · rw [if_pos rfl, if_neg hl, if_neg (fun h => hl h.2), List.getElem?_eq_none (by omega)]
  · rw [if_neg h, if_neg (fun h' => h h'.1.symm)]
theorem ent_nonneg {a : List Int} (h : ∀ x ∈ a, -1 ≤ x) {i : Nat} (hi : ent a i ≠ -1) : 0 ≤ ent a i := by
  by_cases hl : i < a.length
  · have hm : ent a i ∈ a := by unfold ent; rw [List.getD_eq_getElem?_getD, List.getElem?_eq_getElem hl]; exact List.getElem_mem hl
    have := h _ hm
    omega
  · exfalso; apply hi; unfold ent; rw [List.getD_eq_getElem?_getD, List.getElem?_eq_none (by omega)]; rfl
theorem join_step {a b l : List Int} {S : Nat → Nat → Prop} (ha : ∀ x ∈ a, -1 ≤ x) (hb : ∀ x ∈ b, -1 ≤ x) (h : JoinInv a b l S) {i j : Nat} (hp : Pair a b i j) :
    JoinInv a b (l.set (i + j) (max (ent l (i + j)) (ent a i + ent b j))) (fun p q => S p q ∨ (p = i ∧ q = j)) := by
  obtain ⟨h1, h2, h3⟩ := h
  have hij : i + j < l.length := by have := hp.1; have := hp.2.1; omega
  refine ⟨by rw [List.length_set]; exact h1, fun p q hs hpq => ?_, fun n => ?_⟩
  · rw [ent_set]
    rcases hs with hs | ⟨rfl, rfl⟩
    · have := h2 p q hs hpq
      split
      · rename_i he; rw [he.1] at this; omega
      · exact this
    · rw [if_pos ⟨rfl, hij⟩]; omega
  · rw [ent_set]
    by_cases he : n = i + j
    · subst he
      rw [if_pos ⟨rfl, hij⟩]
      rcases h3 (i + j) with h4 | ⟨p, q, hs, hpq, he, hv⟩
      · right
        refine ⟨i, j, .inr ⟨rfl, rfl⟩, hp, rfl, ?_⟩
        have := ent_nonneg ha hp.2.2.1
        have := ent_nonneg hb hp.2.2.2
        rw [h4]; omega
      · right
        by_cases hm : ent a i + ent b j ≤ ent l (i + j)
        · exact ⟨p, q, .inl hs, hpq, he, by rw [← hv]; omega⟩
        · exact ⟨i, j, .inr ⟨rfl, rfl⟩, hp, rfl, by omega⟩
    · rw [if_neg (fun h => he h.1)]
      rcases h3 n with h4 | ⟨p, q, hs, hpq, he', hv⟩
      · exact .inl h4
      · exact .inr ⟨p, q, .inl hs, hpq, he', hv⟩
theorem join_skip {a b l : List Int} {S S' : Nat → Nat → Prop} (h : JoinInv a b l S) (h1 : ∀ i j, S i j → S' i j) (h2 : ∀ i j, S' i j → Pair a b i j → S i j) : JoinInv a b l S' :=
  ⟨h.len, fun i j hs hp => h.up i j (h2 i j hs hp) hp, fun n => by
    rcases h.at_ n with h4 | ⟨p, q, hs, hpq, he, hv⟩
    · exact .inl h4
    · exact .inr ⟨p, q, h1 p q hs, hpq, he, hv⟩⟩
theorem joinIn_succ (i : Nat) (x : Int) (b : List Int) (k : Nat) (l : List Int) : joinIn i x b (k + 1) l = (fun l => if ent b k = -1 then l else l.set (i + k) (max (ent l (i + k)) (x + ent b k))) (joinIn i x b k l) := by
  unfold joinIn; rw [List.range_succ, List.foldl_append]; rfl
theorem joinTo_succ (a b : List Int) (k : Nat) : joinTo a b (k + 1) = (if ent a k = -1 then joinTo a b k else joinIn k (ent a k) b b.length (joinTo a b k)) := by
  unfold joinTo; rw [List.range_succ, List.foldl_append]; rfl
theorem joinIn_inv {a b : List Int} (ha : ∀ x ∈ a, -1 ≤ x) (hb : ∀ x ∈ b, -1 ≤ x) {l : List Int} {i : Nat} (hi : i < a.length) (hx : ent a i ≠ -1) (h : JoinInv a b l (fun p q => p < i)) :
    ∀ k, k ≤ b.length → JoinInv a b (joinIn i (ent a i) b k l) (fun p q => p < i ∨ (p = i ∧ q < k))
  | 0, _ => join_skip h (fun p q h => .inl h) (fun p q h _ => by rcases h with h | h; exact h; omega)
  | k + 1, hk => by
    have ih := joinIn_inv ha hb hi hx h k (by omega)
    rw [joinIn_succ]
    dsimp only
    by_cases hbk : ent b k = -1
    · rw [if_pos hbk]
      refine join_skip ih (fun p q h => ?_) (fun p q h hp => ?_)
      · rcases h with h | ⟨h1, h2⟩
        · exact .inl h
        · exact .inr ⟨h1, by omega⟩
      · rcases h with h | ⟨h1, h2⟩
        · exact .inl h
        · refine .inr ⟨h1, ?_⟩
          by_cases e : q = k
          · subst e; exact absurd hbk hp.2.2.2
          · omega
    · rw [if_neg hbk]
      refine join_skip (join_step ha hb ih ⟨hi, by omega, hx, hbk⟩) (fun p q h => ?_) (fun p q h hp => ?_)
      · rcases h with (h | ⟨h1, h2⟩) | ⟨h1, h2⟩
        · exact .inl h
        · exact .inr ⟨h1, by omega⟩
        · exact .inr ⟨h1, by omega⟩
      · rcases h with h | ⟨h1, h2⟩
        · exact .inl (.inl h)
        · by_cases e : q = k
          · exact .inr ⟨h1, e⟩
          · exact .inl (.inr ⟨h1, by omega⟩)
theorem joinTo_inv {a b : List Int} (ha : ∀ x ∈ a, -1 ≤ x) (hb : ∀ x ∈ b, -1 ≤ x) : ∀ k, k ≤ a.length → JoinInv a b (joinTo a b k) (fun p q => p < k)
  | 0, _ => by
    refine ⟨by simp [joinTo], fun i j h => absurd h (Nat.not_lt_zero _), fun n => .inl ?_⟩
    unfold joinTo ent
    rw [List.getD_eq_getElem?_getD]
    simp only [List.range_zero, List.foldl_nil, List.getElem?_replicate]
    split <;> rfl
  | k + 1, hk => by
    have ih := joinTo_inv ha hb k (by omega)
    rw [joinTo_succ]
    by_cases hak : ent a k = -1
    · rw [if_pos hak]
      refine join_skip ih (fun p q h => by omega) (fun p q h hp => ?_)
      by_cases e : p = k
      · subst e; exact absurd hak hp.2.2.1
      · omega
    · rw [if_neg hak]
      refine join_skip (joinIn_inv ha hb (by omega) hak ih b.length (Nat.le_refl _)) (fun p q h => by omega) (fun p q h hp => ?_)
      by_cases e : p = k
      · exact .inr ⟨e, hp.2.1⟩
      · exact .inl (by omega)
theorem joinR_len {a b : List Int} (ha : ∀ x ∈ a, -1 ≤ x) (hb : ∀ x ∈ b, -1 ≤ x) : (joinR a b).length = a.length + b.length - 1 := (joinTo_inv ha hb a.length (Nat.le_refl _)).len
theorem joinR_at {a b : List Int} (ha : ∀ x ∈ a, -1 ≤ x) (hb : ∀ x ∈ b, -1 ≤ x) (n : Nat) : ent (joinR a b) n = -1 ∨ ∃ i j, Pair a b i j ∧ i + j = n ∧ ent (joinR a b) n = ent a i + ent b j := by
  rcases (joinTo_inv ha hb a.length (Nat.le_refl _)).at_ n with h | ⟨i, j, _, hp, he, hv⟩
  · exact .inl h
  · exact .inr ⟨i, j, hp, he, hv⟩
theorem joinR_ok {a b : List Int} (ha : ∀ x ∈ a, -1 ≤ x) (hb : ∀ x ∈ b, -1 ≤ x) : ∀ x ∈ joinR a b, -1 ≤ x := fun x hx => by
  obtain ⟨n, hn, rfl⟩ := List.mem_iff_getElem.1 hx
  have e : ent (joinR a b) n = (joinR a b)[n] := by unfold ent; rw [List.getD_eq_getElem?_getD, List.getElem?_eq_getElem hn]; rfl
  rw [← e]
  rcases joinR_at ha hb n with h | ⟨i, j, hp, _, hv⟩
  · omega
  · have := ent_nonneg ha hp.2.2.1
    have := ent_nonneg hb hp.2.2.2
    omega
end Go.Proofs.YtojedplbhialpaaGreatDoor

/-! P3 -/
namespace Go.Proofs.YtojedplbhialpaaGreatDoor
set_option linter.unusedVariables false
def tabAt (ts : List (List Int)) (i : Nat) : List Int := ts.getD i []
def TabsOk (ts : List (List Int)) : Prop := ∀ t ∈ ts, (∀ x ∈ t, -1 ≤ x) ∧ 0 < t.length
theorem tab_ok {ts : List (List Int)} (h : TabsOk ts) {i : Nat} (hi : i < ts.length) : (∀ x ∈ tabAt ts i, -1 ≤ x) ∧ 0 < (tabAt ts i).length := by
  have : tabAt ts i ∈ ts := by unfold tabAt; rw [List.getD_eq_getElem?_getD, List.getElem?_eq_getElem hi]; exact List.getElem_mem hi
  exact h _ this
theorem merged_ok {ts : List (List Int)} (h : TabsOk ts) : ∀ k, k ≤ ts.length → (∀ x ∈ mergedTo ts k, -1 ≤ x) ∧ 0 < (mergedTo ts k).length
  | 0, _ => ⟨by simp [mergedTo], by simp [mergedTo]⟩
  | k + 1, hk => by
    obtain ⟨a, b⟩ := merged_ok h k (by omega)
    obtain ⟨c, d⟩ := tab_ok h (i := ts.length - 1 - k) (by omega)
    have e : mergedTo ts (k + 1) = joinR (tabAt ts (ts.length - 1 - k)) (mergedTo ts k) := rfl
    rw [e]
    exact ⟨joinR_ok c a, by rw [joinR_len c a]; omega⟩
theorem cellTo_succ (come : List Int) (mn cents : Int) (p k : Nat) : cellTo come mn cents p (k + 1) = (fun acc => if saverR mn cents (p : Nat) (p + k : Nat) ≠ -1 ∧ ent come (p + k) ≠ -1 then max acc (ent come (p + k) + saverR mn cents (p : Nat) (p + k : Nat)) else acc) (cellTo come mn cents p k) := by
  unfold cellTo; rw [List.range_succ, List.foldl_append]; rfl
theorem cell_at (come : List Int) (mn cents : Int) (p : Nat) (hc : ∀ x ∈ come, -1 ≤ x) (h0 : 0 ≤ cents) : ∀ k, cellTo come mn cents p k = -1 ∨ ∃ j, j < k ∧ saverR mn cents (p : Nat) (p + j : Nat) ≠ -1 ∧ ent come (p + j) ≠ -1 ∧ cellTo come mn cents p k = ent come (p + j) + saverR mn cents (p : Nat) (p + j : Nat)
  | 0 => .inl (by simp [cellTo])
  | k + 1 => by
    rw [cellTo_succ]
    dsimp only
    by_cases e : saverR mn cents (p : Nat) (p + k : Nat) ≠ -1 ∧ ent come (p + k) ≠ -1
    · rw [if_pos e]
      rcases cell_at come mn cents p hc h0 k with h | ⟨j, hj, h1, h2, h3⟩
      · right
        refine ⟨k, by omega, e.1, e.2, ?_⟩
        have := ent_nonneg hc e.2
        have hs : 0 ≤ saverR mn cents (p : Nat) (p + k : Nat) := by
          have h := e.1
          unfold saverR at h ⊢
          split at h
          · exact absurd rfl h
          · rename_i hn
            rw [if_neg hn]
            exact Int.mul_nonneg (by omega) h0
        rw [h]; omega
      · by_cases hm : ent come (p + k) + saverR mn cents (p : Nat) (p + k : Nat) ≤ cellTo come mn cents p k
        · exact .inr ⟨j, by omega, h1, h2, by omega⟩
        · exact .inr ⟨k, by omega, e.1, e.2, by omega⟩
    · rw [if_neg e]
      rcases cell_at come mn cents p hc h0 k with h | ⟨j, hj, h1, h2, h3⟩
      · exact .inl h
      · exact .inr ⟨j, by omega, h1, h2, h3⟩
end Go.Proofs.YtojedplbhialpaaGreatDoor

/-! P6 -/
namespace Go.Proofs.YtojedplbhialpaaGreatDoor
set_option linter.unusedVariables false
structure Forest (ls : List (Int × Int)) (gs : List PGrp) : Prop where
  lvl : ∀ g, g < gs.length → 0 ≤ (gsAt gs g).lvl ∧ (gsAt gs g).lvl < (ls.length : Int)
  below : ∀ g, g < gs.length → ∀ h ∈ belowR gs g, h < g
  parts : ∀ g, g < gs.length → 0 < (gsAt gs g).lvl → ((belowR gs g).flatMap (fun h => (gsAt gs h).items)).Perm (gsAt gs g).items ∧ belowR gs g ≠ []
  sub : ∀ g, g < gs.length → ∀ h ∈ belowR gs g, (gsAt gs h).lvl + 1 = (gsAt gs g).lvl
  some_ : ∀ g, g < gs.length → (gsAt gs g).items ≠ []
  cents : ∀ l ∈ ls, 0 ≤ l.2
def lvOf (ls : List (Int × Int)) (gs : List PGrp) (g : Nat) : Int × Int := ls.getD (gsAt gs g).lvl.toNat (0, 0)
theorem tabs_len (ls : List (Int × Int)) (gs : List PGrp) : ∀ k, (tabsTo ls gs k).length = k
  | 0 => rfl
  | k + 1 => by
    have : tabsTo ls gs (k + 1) = tabsTo ls gs k ++ [tableR (comeR (gsAt gs k).lvl (gsAt gs k).items.length ((belowR gs k).map (fun h => (tabsTo ls gs k).getD h []))) (decide ((gsAt gs k).lvl = (ls.length : Int) - 1)) (lvOf ls gs k).1 (lvOf ls gs k).2] := rfl
    rw [this, List.length_append, tabs_len ls gs k]; rfl
theorem tabs_get (ls : List (Int × Int)) (gs : List PGrp) : ∀ k g, g < k → tabAt (tabsTo ls gs k) g = tableR (comeR (gsAt gs g).lvl (gsAt gs g).items.length ((belowR gs g).map (fun h => (tabsTo ls gs g).getD h []))) (decide ((gsAt gs g).lvl = (ls.length : Int) - 1)) (lvOf ls gs g).1 (lvOf ls gs g).2
  | 0, g, h => absurd h (Nat.not_lt_zero _)
  | k + 1, g, h => by
    have e : tabsTo ls gs (k + 1) = tabsTo ls gs k ++ [tableR (comeR (gsAt gs k).lvl (gsAt gs k).items.length ((belowR gs k).map (fun h => (tabsTo ls gs k).getD h []))) (decide ((gsAt gs k).lvl = (ls.length : Int) - 1)) (lvOf ls gs k).1 (lvOf ls gs k).2] := rfl
    have hl := tabs_len ls gs k
    by_cases hg : g = k
    · subst hg
      rw [e]
      unfold tabAt
      rw [List.getD_eq_getElem?_getD, List.getElem?_append_right (by omega), hl, Nat.sub_self]
      rfl
    · have := tabs_get ls gs k g (by omega)
      rw [← this, e]
      unfold tabAt
      rw [List.getD_eq_getElem?_getD, List.getD_eq_getElem?_getD, List.getElem?_append_left (by omega)]
theorem tabs_same (ls : List (Int × Int)) (gs : List PGrp) {g k m : Nat} (h1 : g < k) (h2 : g < m) : tabAt (tabsTo ls gs k) g = tabAt (tabsTo ls gs m) g := by rw [tabs_get ls gs k g h1, tabs_get ls gs m g h2]
def tabOf (ls : List (Int × Int)) (gs : List PGrp) (g : Nat) : List Int := tabAt (tabsTo ls gs gs.length) g
def subTabs (ls : List (Int × Int)) (gs : List PGrp) (g : Nat) : List (List Int) := (belowR gs g).map (tabOf ls gs)
def comeOf (ls : List (Int × Int)) (gs : List PGrp) (g : Nat) : List Int := comeR (gsAt gs g).lvl (gsAt gs g).items.length (subTabs ls gs g)
theorem tabOf_eq {ls : List (Int × Int)} {gs : List PGrp} (hF : Forest ls gs) {g : Nat} (hg : g < gs.length) : tabOf ls gs g = tableR (comeOf ls gs g) (decide ((gsAt gs g).lvl = (ls.length : Int) - 1)) (lvOf ls gs g).1 (lvOf ls gs g).2 := by
  unfold tabOf comeOf subTabs
  rw [tabs_get ls gs _ g hg]
  congr 2
  refine List.map_congr_left (fun h hh => ?_)
  have hlt := hF.below g hg h hh
  exact tabs_same ls gs hlt (by omega)
theorem come_ok {ls : List (Int × Int)} {gs : List PGrp} (hF : Forest ls gs) {g : Nat} (hg : g < gs.length) (hs : TabsOk (subTabs ls gs g)) : (∀ x ∈ comeOf ls gs g, -1 ≤ x) ∧ 0 < (comeOf ls gs g).length := by
  unfold comeOf comeR
  by_cases h0 : (gsAt gs g).lvl = 0
  · rw [if_pos h0]
    refine ⟨fun x hx => ?_, by simp⟩
    rcases List.mem_append.1 hx with hx | hx
    · rw [(List.mem_replicate.1 hx).2]; decide
    · obtain rfl := List.mem_singleton.1 hx; decide
  · rw [if_neg h0]
    have hne := (hF.parts g hg (by have := (hF.lvl g hg).1; omega)).2
    have hl : (subTabs ls gs g).length ≠ 0 := by unfold subTabs; rw [List.length_map]; exact fun h => hne (List.length_eq_zero_iff.1 h)
    rw [if_neg hl]
    exact merged_ok hs _ (Nat.le_refl _)
end Go.Proofs.YtojedplbhialpaaGreatDoor

/-! P10 -/
namespace Go.Proofs.YtojedplbhialpaaGreatDoor
set_option linter.unusedVariables false
theorem insI_perm (x : Int) : ∀ l : List Int, (insI x l).Perm (x :: l)
  | [] => List.Perm.refl _
  | y :: r => by
    unfold insI
    split
    · exact List.Perm.refl _
    · exact ((insI_perm x r).cons y).trans (List.Perm.swap x y r)
theorem sortI_perm : ∀ l : List Int, (sortI l).Perm l
  | [] => List.Perm.refl _
  | x :: l => by
    show (insI x (sortI l)).Perm (x :: l)
    exact (insI_perm x _).trans ((sortI_perm l).cons x)
theorem planTo_succ (gs : List PGrp) (f : Nat → Int) (k : Nat) (p : List Int) : planTo gs f (k + 1) p =
    (((sortI ((if (gsAt gs k).lvl = 0 then (gsAt gs k).items else []) ++ (belowR gs k).flatMap (fun h => (planTo gs f k p).2.getD h []))).take ((sortI ((if (gsAt gs k).lvl = 0 then (gsAt gs k).items else []) ++ (belowR gs k).flatMap (fun h => (planTo gs f k p).2.getD h []))).length - (f k).toNat)).foldl (fun q i => q.set i.toNat (gsAt gs k).lvl) (planTo gs f k p).1,
      (planTo gs f k p).2 ++ [(sortI ((if (gsAt gs k).lvl = 0 then (gsAt gs k).items else []) ++ (belowR gs k).flatMap (fun h => (planTo gs f k p).2.getD h []))).drop ((sortI ((if (gsAt gs k).lvl = 0 then (gsAt gs k).items else []) ++ (belowR gs k).flatMap (fun h => (planTo gs f k p).2.getD h []))).length - (f k).toNat)]) := rfl
theorem plan_len (gs : List PGrp) (f : Nat → Int) (p : List Int) : ∀ k, (planTo gs f k p).2.length = k
  | 0 => rfl
  | k + 1 => by rw [planTo_succ]; simp [plan_len gs f p k]
def passedL (gs : List PGrp) (f : Nat → Int) (g : Nat) : List Int := (planTo gs f (g + 1) []).2.getD g []
theorem passed_stable (gs : List PGrp) (f : Nat → Int) (p p' : List Int) : ∀ k, (planTo gs f k p).2 = (planTo gs f k p').2
  | 0 => rfl
  | k + 1 => by rw [planTo_succ, planTo_succ, passed_stable gs f p p' k]
theorem passed_get (gs : List PGrp) (f : Nat → Int) (p : List Int) : ∀ k g, g < k → (planTo gs f k p).2.getD g [] = passedL gs f g
  | 0, g, h => absurd h (Nat.not_lt_zero _)
  | k + 1, g, h => by
    have hl := plan_len gs f p k
    by_cases e : g = k
    · subst e
      unfold passedL
      rw [passed_stable gs f p [] (g + 1)]
    · rw [← passed_get gs f p k g (by omega), planTo_succ]
      simp only [List.getD_eq_getElem?_getD]
      rw [List.getElem?_append_left (by omega)]
def comeL (gs : List PGrp) (f : Nat → Int) (g : Nat) : List Int := sortI ((if (gsAt gs g).lvl = 0 then (gsAt gs g).items else []) ++ (belowR gs g).flatMap (passedL gs f))
def tookL (gs : List PGrp) (f : Nat → Int) (g : Nat) : List Int := (comeL gs f g).take ((comeL gs f g).length - (f g).toNat)
theorem come_at {ls : List (Int × Int)} {gs : List PGrp} (hF : Forest ls gs) (f : Nat → Int) (p : List Int) {g : Nat} (hg : g < gs.length) :
    sortI ((if (gsAt gs g).lvl = 0 then (gsAt gs g).items else []) ++ (belowR gs g).flatMap (fun h => (planTo gs f g p).2.getD h [])) = comeL gs f g := by
  unfold comeL
  congr 2
  have : ∀ l : List Nat, (∀ h ∈ l, h < g) → l.flatMap (fun h => (planTo gs f g p).2.getD h []) = l.flatMap (passedL gs f) := fun l => by
    induction l with
    | nil => intro _; rfl
    | cons x r ih =>
      intro hl
      rw [List.flatMap_cons, List.flatMap_cons, ih (fun h hh => hl h (List.mem_cons_of_mem _ hh)), passed_get gs f p g x (hl x List.mem_cons_self)]
  exact this _ (fun h hh => hF.below g hg h hh)
theorem passed_eq {ls : List (Int × Int)} {gs : List PGrp} (hF : Forest ls gs) (f : Nat → Int) {g : Nat} (hg : g < gs.length) : passedL gs f g = (comeL gs f g).drop ((comeL gs f g).length - (f g).toNat) := by
  unfold passedL
  rw [planTo_succ, come_at hF f [] hg]
  simp only [List.getD_eq_getElem?_getD]
  rw [List.getElem?_append_right (by rw [plan_len]; exact Nat.le_refl _), plan_len, Nat.sub_self]
  rfl
theorem split_come (gs : List PGrp) {ls : List (Int × Int)} (hF : Forest ls gs) (f : Nat → Int) {g : Nat} (hg : g < gs.length) : tookL gs f g ++ passedL gs f g = comeL gs f g := by
  rw [passed_eq hF f hg]
  exact List.take_append_drop _ _
end Go.Proofs.YtojedplbhialpaaGreatDoor

/-! P11 -/
namespace Go.Proofs.YtojedplbhialpaaGreatDoor
set_option linter.unusedVariables false
structure Forest2 (ls : List (Int × Int)) (gs : List PGrp) (n : Nat) : Prop extends Forest ls gs where
  nodup : ∀ g, g < gs.length → (gsAt gs g).items.Nodup
  alone : ∀ g, g < gs.length → ∀ g', g' < gs.length → (gsAt gs g).lvl = (gsAt gs g').lvl → ∀ i, i ∈ (gsAt gs g).items → i ∈ (gsAt gs g').items → g = g'
  range : ∀ g, g < gs.length → ∀ i ∈ (gsAt gs g).items, 0 ≤ i ∧ i < (n : Int)
variable {ls : List (Int × Int)} {gs : List PGrp} {n : Nat} {f : Nat → Int}
end Go.Proofs.YtojedplbhialpaaGreatDoor

/-! P12 -/
namespace Go.Proofs.YtojedplbhialpaaGreatDoor
set_option linter.unusedVariables false
variable {ls : List (Int × Int)} {gs : List PGrp} {n : Nat}
theorem come_split (hF : Forest2 ls gs n) {f : Nat → Int} {g : Nat} (hg : g < gs.length) {i : Int} (h : i ∈ comeL gs f g) : i ∈ tookL gs f g ∨ i ∈ passedL gs f g := by
  rw [← split_come gs hF.toForest f hg] at h
  exact List.mem_append.1 h
theorem stands (hF : Forest2 ls gs n) {f : Nat → Int} : ∀ g, g < gs.length → ∀ i ∈ (gsAt gs g).items, (∃ g', g' < gs.length ∧ (gsAt gs g').lvl ≤ (gsAt gs g).lvl ∧ i ∈ tookL gs f g') ∨ i ∈ passedL gs f g := by
  intro g
  induction g using Nat.strongRecOn with
  | ind g ih =>
    intro hg i hi
    have hcome : i ∈ comeL gs f g → (∃ g', g' < gs.length ∧ (gsAt gs g').lvl ≤ (gsAt gs g).lvl ∧ i ∈ tookL gs f g') ∨ i ∈ passedL gs f g := fun hc => by
      rcases come_split hF hg hc with h | h
      · exact .inl ⟨g, hg, Int.le_refl _, h⟩
      · exact .inr h
    by_cases h0 : (gsAt gs g).lvl = 0
    · refine hcome ?_
      unfold comeL
      rw [(sortI_perm _).mem_iff, List.mem_append, if_pos h0]
      exact .inl hi
    · have hpos : 0 < (gsAt gs g).lvl := by have := (hF.lvl g hg).1; omega
      obtain ⟨h, hh, hih⟩ := List.mem_flatMap.1 ((hF.parts g hg hpos).1.mem_iff.2 hi)
      have hb := hF.below g hg h hh
      have hs := hF.sub g hg h hh
      rcases ih h hb (by omega) i hih with ⟨g', h1, h2, h3⟩ | hp
      · exact .inl ⟨g', h1, by omega, h3⟩
      · refine hcome ?_
        unfold comeL
        rw [(sortI_perm _).mem_iff, List.mem_append]
        exact .inr (List.mem_flatMap.2 ⟨h, hh, hp⟩)
end Go.Proofs.YtojedplbhialpaaGreatDoor
