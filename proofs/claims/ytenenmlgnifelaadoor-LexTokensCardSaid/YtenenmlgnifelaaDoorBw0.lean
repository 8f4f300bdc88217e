/-
  What the walk of letterbaglaw08.LexBack needs.
-/
import Derived.Test.YtenenmlgnifelaaDoorBp
import Derived.Test.YtenenmlgnifelaaDoorAlw
import Derived.Laws.OwnMore
import Derived.Deep.QuietTactic
import Derived.BigQuiet
import Derived.Deep.RegionWith
import Derived.RegionTactic
namespace Go.Proofs.YtenenmlgnifelaaDoor
open Go.RowKit
set_option linter.unusedVariables false
theorem ReadsC.of_row {w : World} {v : Value} {base : Nat} {ls : List ByteArray} (ho : w.ownsRow base 9 1 v ls.length (ls.map Value.string)) : ReadsC w v ls := by
  rcases ho.2 with ⟨rfl, hp⟩ | ⟨g, cap, cur, rfl, hb, hg, hnc, _, _, _⟩
  · obtain rfl : ls = [] := List.length_eq_zero_iff.1 hp
    exact ⟨none, 0, rfl, Nat.le_refl _, fun h => absurd h (by simp)⟩
  · exact ⟨_, cap, rfl, hnc, fun _ => ⟨g, 0, rfl, (ho.lt g rfl).2, fun i h => by rw [Nat.zero_add]; exact row_cell ho h⟩⟩
theorem count_ev (s : ByteArray) (W : World) : Calls Tryd.prog 27 #[.string s, .string ⟨#[10]⟩] W fun e w' => e = .returned (.int .i64 ((s.data.toList.count 10 : Nat) : Int)) ∧ W = w' := by
  refine (Tryd.strings_Count_one s 10 W).mono ?_
  rintro e w' ⟨rfl, rfl⟩
  exact ⟨rfl, rfl⟩
theorem cell0' {w wr : World} {m : Int} (h0 : 0 < w.heap.size) (hm : w.cell? ⟨0, 0, none⟩ = some (.int .i64 m)) (hB : Below w.heap.size w wr) : wr.cell? ⟨0, 0, none⟩ = some (.int .i64 m) ∧ 0 < wr.heap.size :=
  ⟨(hB.cell (p := ⟨0, 0, none⟩) h0).trans hm, Nat.lt_of_lt_of_le h0 hB.size⟩
theorem tokens_ev {L : List ByteArray} {T : List Tok} {n : Int} (h : tokensR L = (T, n)) {v : Value} {base : Nat} {m : Int} {W : World} (hls : L.length ≤ 60000) (hsz : ∀ s ∈ L, s.size ≤ maxLen) (h0 : 0 < W.heap.size) (hm : W.cell? ⟨0, 0, none⟩ = some (.int .i64 m))
    (ho : W.ownsRow base 9 1 v L.length (L.map Value.string)) : Calls Tryd.prog 28 #[v] W fun e w' => ∃ u, e = .returned (.tuple #[u, .int .i64 n]) ∧ Below W.heap.size W w' ∧ w'.ownsRow W.heap.size 51 4 u T.length (toksV T) := by
  refine (tokens_any L v base m W hls hsz h0 hm ho).mono ?_
  rintro e w' ⟨u, rfl, hb, hown⟩
  rw [h] at hown ⊢
  exact ⟨u, rfl, hb, hown⟩
theorem tslice_of_row {W : World} {base : Nat} {v : Value} {T : List Tok} (h : W.ownsRow base 51 4 v T.length (toksV T)) : ∃ a cap, v = .slice a T.length cap := by
  rcases Joins.ownsRow_forms h with ⟨rfl, hp⟩ | ⟨g, cap, rfl⟩
  · exact ⟨none, 0, by rw [hp]⟩
  · exact ⟨_, cap, rfl⟩
theorem trow_reads {W : World} {base : Nat} {va : Option Addr} {vc : Nat} {T : List Tok} (h : W.ownsRow base 51 4 (.slice va T.length vc) T.length (toksV T)) (h0 : 0 < T.length) : ∃ g, va = some ⟨g, 0, none⟩ ∧ g < W.heap.size ∧ ∀ k (hk : k < T.length),
    W.cell? ⟨g, k * 4, none⟩ = some (.string T[k].1) ∧ W.cell? ⟨g, k * 4 + 1, none⟩ = some (.int .i64 T[k].2.1) ∧ W.cell? ⟨g, k * 4 + 2, none⟩ = some (.int .i64 T[k].2.2) ∧ W.cell? ⟨g, k * 4 + 3, none⟩ = some (.int .u16 (classesB T[k].1)) := by
  rcases Joins.ownsRow_forms h with ⟨e, hp⟩ | ⟨g, cap, e⟩
  · omega
  · injection e with e1 _ e2
    subst e1 e2
    exact ⟨g, rfl, (h.lt g rfl).2, fun k hk => tok_cell h hk⟩
theorem tokensR_good {L : List ByteArray} (h6 : L.length ≤ 6) (hl : longB L = false) (hn : ∀ b ∈ L, Normal b.data.toList ∧ 0 < b.size) : tokensR L = if 40 < (toksFrom 0 L).length then ([], 5) else (toksFrom 0 L, 0) := by
  unfold tokensR
  have hb : L.any badB = false := by
    rw [List.any_eq_false]
    intro b hb
    have := hn b hb
    unfold badB
    rw [normal_fold this.1, decide_eq_false (by omega : ¬ b.size = 0)]
    simp
  rw [if_neg (by omega), hl, hb]
  rfl
def txtV (ts : List (List UInt8)) : List Value := ts.map fun l => .string ⟨l.toArray⟩
def backTo (T : List Tok) (n k : Nat) : List (List UInt8) := (T.take k).foldl backStep (List.replicate n [])
theorem backTo_succ (T : List Tok) (n k : Nat) (h : k < T.length) : backTo T n (k + 1) = backStep (backTo T n k) T[k] := by
  unfold backTo; rw [List.take_succ_eq_append_getElem h, List.foldl_append]; rfl
theorem backStep_len (ts : List (List UInt8)) (t : Tok) : (backStep ts t).length = ts.length := by unfold backStep; simp
theorem backTo_len (T : List Tok) (n : Nat) : ∀ k, k ≤ T.length → (backTo T n k).length = n
  | 0, _ => by simp [backTo]
  | k + 1, h => by rw [backTo_succ T n k (by omega), backStep_len, backTo_len T n k (by omega)]
theorem made_txt (n : Nat) : (madeCells (Value.string ⟨#[]⟩).cells (n * 1)).toList = txtV (List.replicate n []) := by
  rw [Nat.mul_one]
  show (madeCells #[Value.string ⟨#[]⟩] n).toList = _
  rw [toList_madeCells_one]
  unfold txtV
  rw [List.map_replicate]
theorem txt_cell {W : World} {base g cap q : Nat} {ts : List (List UInt8)} {n : Nat} (hn : ts.length = n) (h : W.ownsRow base 9 1 (.slice (some ⟨g, 0, none⟩) n cap) n (txtV ts)) (hq : q < n) : W.cell? ⟨g, q, none⟩ = some (.string ⟨(ts.getD q []).toArray⟩) ∧ W.frozen? ⟨g, q, none⟩ = false := by
  refine ⟨?_, h.frozenAt q⟩
  rw [h.cellAt q (by omega)]
  unfold txtV
  rw [List.getElem?_map, List.getD_eq_getElem?_getD, List.getElem?_eq_getElem (by omega)]
  rfl
theorem txt_set (ts : List (List UInt8)) (q : Nat) (l : List UInt8) : txtV (ts.set q l) = (txtV ts).set q (.string ⟨l.toArray⟩) := by
  unfold txtV; rw [List.map_set]
theorem toks_bounds : ∀ (L : List ByteArray) (n : Nat), (∀ b ∈ L, b.size ≤ 60) → ∀ t ∈ toksFrom n L, t.1.size ≤ 60 ∧ t.2.2 ≤ 60
  | [], n, _, t, ht => by simp [toksFrom] at ht
  | s :: r, n, h, t, ht => by
    rw [toksFrom, List.mem_append] at ht
    rcases ht with ht | ht
    · unfold lineToks at ht
      obtain ⟨p, hp, rfl⟩ := List.mem_map.1 ht
      obtain ⟨j, hj, rfl⟩ := List.mem_iff_getElem.1 hp
      have hs := h s (List.mem_cons_self ..)
      have hsp := spans_at s j hj
      have e : (spans s).getD j (0, 0) = (spans s)[j] := by rw [List.getD_eq_getElem?_getD, List.getElem?_eq_getElem hj]; rfl
      have h1 := hsp.lt
      have h2 := hsp.sz
      rw [e] at h1 h2
      refine ⟨?_, by show (spans s)[j].1 ≤ 60; omega⟩
      show (cutOut s (spans s)[j]).size ≤ 60
      unfold cutOut
      rw [ByteArray.size_extract]
      omega
    · exact toks_bounds r (n + 1) (fun b hb => h b (List.mem_cons_of_mem _ hb)) t ht
theorem below_drewN {B : Nat} {a W : World} (h : Below B a W) (j : Nat) : Below B a (W.drewN j) := ⟨h.os, h.tape, h.output, h.size, h.block⟩
/-- What the round of LexBack keeps: the token in its block, and the texts so far. -/
def BackW (w6 : World) (X n : Nat) (xs : Array Value) (ts : List (List UInt8)) (W : World) : Prop :=
  Below w6.heap.size w6 W ∧ W.heap[X]? = some (.cells xs 51 (0, 0)) ∧ w6.heap.size < X ∧ W.ownsRow w6.heap.size 9 1 (.slice (some ⟨w6.heap.size, 0, none⟩) n n) n (txtV ts)
theorem BackW.new {w6 wr : World} {n : Nat} {xs : Array Value} {ts : List (List UInt8)} (hB : Below w6.heap.size w6 wr) (ho : wr.ownsRow w6.heap.size 9 1 (.slice (some ⟨w6.heap.size, 0, none⟩) n n) n (txtV ts)) (j : Nat) : BackW w6 wr.heap.size n xs ts ((wr.alloc (.cells xs 51)).drewN j) :=
  ⟨below_drewN (hB.alloc hB.size _) j, World.alloc_heap_new wr _, (ho.lt w6.heap.size rfl).2, ho.alloc _⟩
theorem BackW.cells {w6 W : World} {X n : Nat} {xs : Array Value} {ts : List (List UInt8)} (h : BackW w6 X n xs ts W) (j : Nat) : W.cell? ⟨X, j, none⟩ = xs[j]? := cell_of_row W X j xs _ _ h.2.1
theorem BackW.text {w6 W : World} {X n q : Nat} {xs : Array Value} {ts : List (List UInt8)} (h : BackW w6 X n xs ts W) (hl : ts.length = n) (hq : q < n) : W.cell? ⟨w6.heap.size, q, none⟩ = some (.string ⟨(ts.getD q []).toArray⟩) ∧ W.frozen? ⟨w6.heap.size, q, none⟩ = false := txt_cell hl h.2.2.2 hq
theorem BackW.drewN {w6 W : World} {X n : Nat} {xs : Array Value} {ts : List (List UInt8)} (h : BackW w6 X n xs ts W) (j : Nat) : BackW w6 X n xs ts (W.drewN j) := ⟨below_drewN h.1 j, h.2⟩
theorem BackW.drew {w6 W : World} {X n : Nat} {xs : Array Value} {ts : List (List UInt8)} (h : BackW w6 X n xs ts W) : BackW w6 X n xs ts W.drew := ⟨h.1.drew, h.2⟩
theorem BackW.below {w6 W W' : World} {X n : Nat} {xs : Array Value} {ts : List (List UInt8)} (h : BackW w6 X n xs ts W) (hb : Below W.heap.size W W') : BackW w6 X n xs ts W' :=
  ⟨h.1.trans (hb.mono h.1.size), (hb.block _ (Array.getElem?_eq_some_iff.1 h.2.1).1).trans h.2.1, h.2.2.1, h.2.2.2.kept (grown_none hb) (Classical.em _)⟩
theorem BackW.store {w6 W : World} {X n q : Nat} {xs : Array Value} {ts : List (List UInt8)} (h : BackW w6 X n xs ts W) (l : List UInt8) : BackW w6 X n xs (ts.set q l) (W.setCell ⟨w6.heap.size, q, none⟩ (.string ⟨l.toArray⟩)) := by
  obtain ⟨h1, h2, h3, h4⟩ := h
  refine ⟨h1.setCell (p := ⟨w6.heap.size, q, none⟩) (Nat.le_refl _) _, (Below.heap_setCell W ⟨w6.heap.size, q, none⟩ _ X (by show X ≠ w6.heap.size; omega)).trans h2, h3, ?_⟩
  rw [txt_set]
  exact (h4.stored q _).1
def sepC (c : List UInt8) : List UInt8 := if c = [] then [] else c ++ [32]
theorem sepC_len (c : List UInt8) : (sepC c).length = posW c := by
  unfold sepC posW; split <;> simp
theorem addW_sep (c w : List UInt8) : addW c w = sepC c ++ w := rfl
theorem set_getD (ts : List (List UInt8)) (q : Nat) (h : q < ts.length) : ts.set q (ts.getD q []) = ts := by
  rw [List.getD_eq_getElem?_getD, List.getElem?_eq_getElem h]; simp
end Go.Proofs.YtenenmlgnifelaaDoor
