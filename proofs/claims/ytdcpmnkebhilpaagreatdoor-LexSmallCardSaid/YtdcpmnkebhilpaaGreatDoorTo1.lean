/-
  The iterator of lex.words.
-/
import Derived.Test.YtdcpmnkebhilpaaGreatDoorRF
import Derived.Test.YtdcpmnkebhilpaaGreatDoorShelf
import Derived.Test.YtdcpmnkebhilpaaGreatDoorG
import Derived.Test.YtdcpmnkebhilpaaGreatDoorWp
import Derived.Outline
import Derived.Lib.SmallJoins
namespace Go.Proofs.YtdcpmnkebhilpaaGreatDoor
open Go.RowKit Go.Shelf
attribute [local go_sem] Oper.semAt_some
set_option linter.unusedVariables false
abbrev Tok := ByteArray × Nat × Nat
def tokV (t : Tok) : Array Value := #[.string t.1, .int .i64 t.2.1, .int .i64 t.2.2, .int .u16 (classesB t.1)]
def lineToks (n : Nat) (s : ByteArray) : List Tok := (spans s).map fun p => (cutOut s p, n, p.1)
def toksFrom (n : Nat) : List ByteArray → List Tok
  | [] => []
  | s :: ls => lineToks n s ++ toksFrom (n + 1) ls
def KpT (W W' : World) : Prop := W'.heap[4]? = W.heap[4]? ∧ ∀ (k : Nat) (cur : Array Value) (t : TypeId) (fz : Nat × Nat), W.heap[k]? = some (Obj.cells cur t fz) → (t = 9 ∨ t = 26) → W'.heap[k]? = W.heap[k]?
theorem KpT.trans {A B C : World} (h : KpT A B) (k : KpT B C) : KpT A C := ⟨k.1.trans h.1, fun i cur t fz hi ht => (k.2 i cur t fz ((h.2 i cur t fz hi ht).trans hi) ht).trans (h.2 i cur t fz hi ht)⟩
theorem KpT.row {A B : World} (h : KpT A B) {base : Nat} {v : Value} {n : Nat} {xs : List Value} (ho : A.ownsRow base 9 1 v n xs) : B.ownsRow base 9 1 v n xs := by
  refine ⟨ho.1, ?_⟩
  rcases ho.2 with h' | ⟨g, cap, cur, hv, hg, hh, hrest⟩
  · exact .inl h'
  · exact .inr ⟨g, cap, cur, hv, hg, (h.2 g cur _ _ hh (.inl rfl)).trans hh, hrest⟩
def WordsR (B : Nat) (m : Int) (v : Value) (base : Nat) (ls : List ByteArray) (W : World) : Prop :=
  Boxed W B 26 v ∧ W.ownsRow base 9 1 v ls.length (ls.map Value.string) ∧ W.cell? ⟨4, 0, none⟩ = some (.int .i64 m) ∧ 4 < W.heap.size
theorem WordsR.kp {B : Nat} {m : Int} {v : Value} {base : Nat} {ls : List ByteArray} {A C : World} (h : WordsR B m v base ls A) (hk : KpT A C) : WordsR B m v base ls C := by
  obtain ⟨h1, h2, h3, h4⟩ := h
  refine ⟨(hk.2 B _ _ _ h1 (.inr rfl)).trans h1, hk.row h2, (World.cell?_of_block (w := A) hk.1).trans h3, ?_⟩
  have : C.heap[4]? = some A.heap[4] := hk.1.trans (Array.getElem?_eq_getElem h4)
  exact (Array.getElem?_eq_some_iff.1 this).1
theorem WordsR.below {B : Nat} {m : Int} {v : Value} {base : Nat} {ls : List ByteArray} {A C : World} (h : WordsR B m v base ls A) (hb : Below A.heap.size A C) : WordsR B m v base ls C := by
  obtain ⟨h1, h2, h3, h4⟩ := h
  have hg : A.grownBy C none := ⟨hb.os, hb.tape, hb.output, hb.size, fun k hk _ => hb.block k hk⟩
  exact ⟨h1.kept hg (by simp), h2.kept hg (Classical.em _), (hb.cell (p := ⟨4, 0, none⟩) h4).trans h3, Nat.lt_of_lt_of_le h4 hb.size⟩
theorem row_cell {W : World} {base g cap k : Nat} {ls : List ByteArray} (ho : W.ownsRow base 9 1 (.slice (some ⟨g, 0, none⟩) ls.length cap) ls.length (ls.map Value.string)) (hk : k < ls.length) :
    W.cell? ⟨g, k, none⟩ = some (.string ls[k]) := by
  rw [ho.cellAt k (by omega)]; simp [hk]
theorem grown_none {A B : World} (h : Below A.heap.size A B) : A.grownBy B none := ⟨h.os, h.tape, h.output, h.size, fun k hk _ => h.block k hk⟩
theorem toksFrom_snoc (n : Nat) : ∀ (ls : List ByteArray) (k : Nat) (h : k < ls.length), toksFrom n (ls.take (k + 1)) = toksFrom n (ls.take k) ++ lineToks (n + k) ls[k] := by
  intro ls
  induction ls generalizing n with
  | nil => intro k h; simp at h
  | cons a r ih =>
    intro k h
    cases k with
    | zero => simp [toksFrom]
    | succ k =>
      have := ih (n + 1) k (by simpa using h)
      simp only [List.take_succ_cons, toksFrom, this, List.append_assoc, List.getElem_cons_succ]
      rw [show n + 1 + k = n + (k + 1) from by omega]
theorem toksFrom_prefix (n : Nat) (ls : List ByteArray) (k : Nat) : toksFrom n (ls.take k) <+: toksFrom n ls := by
  induction ls generalizing n k with
  | nil => simp [toksFrom]
  | cons a r ih =>
    cases k with
    | zero => simp [toksFrom]
    | succ k =>
      simp only [List.take_succ_cons, toksFrom]
      exact (List.prefix_append_right_inj _).2 (ih (n + 1) k)
theorem lineToks_take (n : Nat) (s : ByteArray) (j : Nat) (h : j < (spans s).length) : (lineToks n s).take (j + 1) = (lineToks n s).take j ++ [(cutOut s ((spans s).getD j (0, 0)), n, ((spans s).getD j (0, 0)).1)] := by
  have hl : j < (lineToks n s).length := by unfold lineToks; simpa using h
  rw [List.take_succ_eq_append_getElem hl]
  have e : (lineToks n s)[j] = (cutOut s (spans s)[j], n, (spans s)[j].1) := by simp [lineToks]
  rw [e, List.getD_eq_getElem?_getD, List.getElem?_eq_getElem h]
  rfl
theorem lineToks_len (n : Nat) (s : ByteArray) : (lineToks n s).length = (spans s).length := by unfold lineToks; simp
theorem wordsB_len (s : ByteArray) : (wordsB s).length = (spans s).length := by rw [wordsB_spans]; simp
theorem wordsB_get (s : ByteArray) (j : Nat) (h : j < (wordsB s).length) : (wordsB s)[j] = cutOut s ((spans s).getD j (0, 0)) := by
  have h' : j < (spans s).length := by rw [← wordsB_len]; exact h
  have : (wordsB s)[j]? = some (cutOut s ((spans s).getD j (0, 0))) := by
    rw [wordsB_spans, List.getElem?_map, List.getElem?_eq_getElem h', List.getD_eq_getElem?_getD, List.getElem?_eq_getElem h']; rfl
  rw [List.getElem?_eq_getElem h] at this
  exact Option.some.inj this
set_option maxRecDepth 100000 in
set_option maxHeartbeats 4000000 in
theorem words_stops (B : Nat) (m : Int) (v : Value) (base : Nat) (ls : List ByteArray) (w : World) (hls : ls.length ≤ 60000) (hsz : ∀ s ∈ ls, s.size ≤ 60000) (hR : WordsR B m v base ls w) :
    IterB Tryz.prog 82 #[.pointer (some ⟨B, 0, none⟩)] (fun x : Tok => #[.agg (tokV x)]) KpT
      (fun xs => xs = toksFrom 0 ls) (fun pre => pre <+: toksFrom 0 ls) B w := by
  intro l J Jx W hW hJ hJx hY h0
  replace hR := hR.below hW
  clear hW
  refine callsIn_of_wp Tryz.func82 rfl trivial ?_ rfl
  simp only [Tryz.ntmps82, List.size_toArray, List.length_cons, List.length_nil, Nat.reduceAdd, Nat.reduceSub, Array.replicate_succ, Array.replicate_zero, List.push_toArray, List.append_toArray, List.nil_append, List.cons_append]
  have HSZ := Lib.hid hsz
  have HY := Lib.hid hY
  have HJ := Lib.hid hJ
  clear hsz hY hJ hJx
  rcases Joins.ownsRow_forms hR.2.1 with ⟨rfl, hlen⟩ | ⟨g, cap, rfl⟩
  · obtain rfl : ls = [] := List.length_eq_zero_iff.1 hlen
    have c1 := hR.1.cell
    clear hR
    gi_wp2_with fail
    gi_loopw [10] (fun i wr => i = .int .i64 0 ∧ J [] wr) (fun i _ => 0)
    case atStart => exact ⟨rfl, h0⟩
    case round =>
      obtain ⟨rfl, hj⟩ := hrel
      gi_wp2_with fail
      go_end0
      exact ⟨⟨_, rfl⟩, .inl ⟨[], rfl, hj⟩⟩
  · have c1 := hR.1.cell
    gi_wp2_with fail
    clear c1
    gi_loopw [10] (fun i wr => ∃ k : Nat, k ≤ ls.length ∧ i = .int .i64 k ∧ WordsR B m (.slice (some ⟨g, 0, none⟩) ls.length cap) base ls wr ∧ J (toksFrom 0 (ls.take k)) wr) (fun i _ => ls.length - (intOf i).toNat)
    case atStart => exact ⟨0, Nat.zero_le _, rfl, hR, h0⟩
    case round =>
      clear hR h0
      obtain ⟨k, hk, rfl, hR, hj⟩ := hrel
      by_cases hlt : k < ls.length
      · have c2 := row_cell hR.2.1 hlt
        have hsk := HSZ.out _ (List.getElem_mem hlt)
        have hts := toksFrom_snoc 0 ls k hlt
        rw [Nat.zero_add] at hts
        generalize hline : ls[k] = s at c2 hsk hts
        have HT := Lib.hid hts
        clear hts hline
        gi_wp2_with (refine ⟨trivial, rfl, ?_⟩; gi_at_call 83; refine (callsIn_wide.2 (words_any _ _ hsk)).mono ?_; rintro e w1 ⟨vw, rfl, hb1, how⟩; have hg1 := grown_none hb1; replace hR := hR.below hb1; replace hj := HJ.out _ _ _ none hj hg1 (fun _ e => by cases e); rw [wordsB_len] at how; clear hb1 hg1 c2; rcases Joins.ownsRow_forms how with ⟨rfl, hw0⟩ | ⟨gw, capw, rfl⟩)
        · have hl0 : lineToks k s = [] := List.length_eq_zero_iff.1 (by rw [lineToks_len]; exact hw0)
          have hnx : toksFrom 0 (ls.take (k + 1)) = toksFrom 0 (ls.take k) := by rw [HT.out, hl0, List.append_nil]
          have HN := Lib.hid hnx
          clear hnx hl0 hw0 how
          gi_loopw [18] (fun i wr => i = .int .i64 0 ∧ WordsR B m (.slice (some ⟨g, 0, none⟩) ls.length cap) base ls wr ∧ J (toksFrom 0 (ls.take k)) wr) (fun i _ => 0)
          case atStart => exact ⟨rfl, hR, hj⟩
          case round =>
            obtain ⟨rfl, hR, hj⟩ := hrel
            gi_wp2_with fail
            go_roundw
            case rel => exact ⟨k + 1, by omega, by go_num, hR, by rw [HN.out]; exact hj⟩
            case measure => simp [intOf]; omega
        · have hlen : (spans s).length ≤ 60001 := by rw [← wordsB_len]; exact Nat.le_trans (wordsTo_le s (s.size + 1)).2 (by omega)
          gi_loopw [5, 18] (fun a i wq => ∃ j bw : Nat, j ≤ (spans s).length ∧ i = .int .i64 j ∧ a = .int .i64 (endOf (spans s) j : Nat) ∧ WordsR B m (.slice (some ⟨g, 0, none⟩) ls.length cap) base ls wq ∧
            wq.ownsRow bw 9 1 (.slice (some ⟨gw, 0, none⟩) (spans s).length capw) (spans s).length ((wordsB s).map Value.string) ∧ J (toksFrom 0 (ls.take k) ++ (lineToks k s).take j) wq) (fun _ i _ => (spans s).length - (intOf i).toNat)
          case atStart => exact ⟨0, _, Nat.zero_le _, rfl, rfl, hR, how, by simpa using hj⟩
          case round =>
            clear hR hj how
            obtain ⟨j, bw, hjl, rfl, rfl, hR, how, hj⟩ := hrel
            by_cases hlt2 : j < (spans s).length
            · have cw : wr.cell? ⟨gw, j, none⟩ = some (.string (cutOut s ((spans s).getD j (0, 0)))) := by
                rw [how.cellAt j (by omega)]
                have hj' : j < (wordsB s).length := by rw [wordsB_len]; exact hlt2
                rw [List.getElem?_map, List.getElem?_eq_getElem hj', wordsB_get s j hj']; rfl
              have hix := index_word s j hlt2
              have hlt3 := lineToks_take k s j hlt2
              have hend : endOf (spans s) (j + 1) = ((spans s).getD j (0, 0)).2 := by unfold endOf; simp
              have hwsz : (cutOut s ((spans s).getD j (0, 0))).size = ((spans s).getD j (0, 0)).2 - ((spans s).getD j (0, 0)).1 := by
                have := (spans_at s j hlt2).sz
                unfold cutOut; rw [ByteArray.size_extract]; omega
              obtain ⟨q1, q2, q3, _, _⟩ := spans_at s j hlt2
              generalize (spans s).getD j (0, 0) = p at cw hix hlt3 hend hwsz q1 q2 q3
              generalize cutOut s p = wd at cw hix hlt3 hwsz
              generalize endOf (spans s) j = e0 at hix q1
              obtain ⟨a, b⟩ := p
              simp only at hix hlt3 hend hwsz q1 q2 q3
              have HX := Lib.hid hix
              have HL3 := Lib.hid hlt3
              have HE := Lib.hid hend
              have HW := Lib.hid hwsz
              have hw1 : wd.size ≤ 60000 := by omega
              have hwm : wd.size ≤ maxLen := by unfold maxLen; omega
              have hw2 : 1 ≤ wd.size := by omega
              clear hix hlt3 hend hwsz
              have hm0 := hR.2.2.1
              have HM := Lib.hid hm0
              clear hm0
              have hxe : (s.extract e0 s.size).size < 4294967281 := by rw [ByteArray.size_extract]; omega
              have hxl : (s.extract e0 s.size).data.toList = s.data.toList.drop e0 := by rw [ByteArray.data_extract, Array.toList_extract, List.extract_eq_take_drop]; exact List.take_of_length_le (by simp)
              have HXL := Lib.hid hxl
              clear hxl
              gi_wp2_with (first
                | (refine ⟨trivial, rfl, ?_⟩; gi_at_call 84; refine (callsIn_wide.2 (Tryz.strings_Index _ _ m _ hxe HM.out)).mono ?_; rintro e w' ⟨rfl, rfl⟩; rw [HXL.out, HX.out]))
              rw [show ((e0 : Int) + ((a - e0 : Nat) : Int)) = (a : Int) from by omega]
              refine ⟨trivial, rfl, ?_⟩
              refine (callsIn_wide.2 (classes_any wd _ hwm)).mono ?_
              rintro e w2 ⟨rfl, hb2⟩
              have hg2 := grown_none hb2
              replace hR := hR.below hb2
              replace hj := HJ.out _ _ _ none hj hg2 (fun _ e => by cases e)
              replace how := how.kept hg2 (Classical.em _)
              clear hb2 hg2 cw HM
              obtain ⟨fn, tmps, assign, body, hy, hRR⟩ := HY.out _ (wd, k, a) _ hj
              dsimp only [tokV] at hy
              have HRR := Lib.hid hRR
              clear hRR
              gi_wp2_with fail
              refine ⟨rfl, HRR.out.mono ?_⟩
              rintro e W3 (⟨rfl, hJ3, hk3⟩ | ⟨rfl, hJx3⟩)
              · replace hR := hR.kp hk3
                replace how := hk3.row how
                clear hk3 hy hj
                gi_wp2_with fail
                go_roundw
                case rel => exact ⟨j + 1, bw, by omega, by go_num, int_eq (by rw [HE.out, HW.out]; omega), hR, how, by rw [HL3.out, ← List.append_assoc]; exact hJ3⟩
                case measure => simp [intOf]; omega
              · gi_wp2_with fail
                refine bodyPost_ret (results_none rfl _ _ _) rfl ?_
                refine ⟨⟨_, rfl⟩, .inr ⟨_, ?_, hJx3⟩⟩
                rw [List.append_assoc, ← HL3.out]
                refine List.IsPrefix.trans ?_ (toksFrom_prefix 0 ls (k + 1))
                rw [HT.out]
                exact (List.prefix_append_right_inj _).2 (List.take_prefix _ _)
            · have hfull : toksFrom 0 (ls.take (k + 1)) = toksFrom 0 (ls.take k) ++ (lineToks k s).take j := by
                have e : (lineToks k s).take j = lineToks k s := List.take_of_length_le (by rw [lineToks_len]; omega)
                rw [HT.out, e]
              have HF := Lib.hid hfull
              clear hfull
              gi_wp2_with fail
              go_roundw
              case rel => exact ⟨k + 1, by omega, by go_num, hR, by rw [HF.out]; exact hj⟩
              case measure => simp [intOf]; omega
      · gi_wp2_with fail
        go_end0
        obtain rfl : k = ls.length := by omega
        exact ⟨⟨_, rfl⟩, .inl ⟨_, by rw [List.take_length], hj⟩⟩
theorem words3_any (a : Option Addr) (n c : Nat) (w : World) : Calls Tryz.prog 60 #[.slice a n c] w fun e w' => e = .returned (.func (.func 82) #[] #[.pointer (some ⟨w.heap.size, 0, none⟩)]) ∧ w.alloc (.cells #[.slice a n c] 26) = w' := by
  go_enter Tryz.func60, Tryz.ntmps60
  go_wp2_with fail
  go_ret
  exact ⟨rfl, rfl⟩
end Go.Proofs.YtdcpmnkebhilpaaGreatDoor
