/-
  Contract of lex.Tokens: the errors that it finds ahead of the tokens.
-/
import Derived.Test.YtdcpmnkebhilpaaGreatDoorLi2
import Derived.Test.YtdcpmnkebhilpaaGreatDoorTo1
namespace Go.Proofs.YtdcpmnkebhilpaaGreatDoor
open Go.RowKit Go.Shelf
set_option linter.unusedVariables false
def badB (s : ByteArray) : Bool := decide (s.size = 0) || !(foldL s == s.data.toList)
def tokensR (ls : List ByteArray) : List Tok × Int :=
  if 6 < ls.length then ([], 5) else if longB ls then ([], 3) else if ls.any badB then ([], 2) else if 40 < (toksFrom 0 ls).length then ([], 5) else (toksFrom 0 ls, 0)
def toksV (ts : List Tok) : List Value := ts.flatMap fun t => (tokV t).toList
def TokPost (ls : List ByteArray) (w : World) (e : Ending) (w' : World) : Prop :=
  ∃ v, e = .returned (.tuple #[v, .int .i64 (tokensR ls).2]) ∧ Below w.heap.size w w' ∧ w'.ownsRow w.heap.size 50 4 v (tokensR ls).1.length (toksV (tokensR ls).1)
theorem tokens_err {ls : List ByteArray} {n : Int} {w w' : World} (h : tokensR ls = ([], n)) (hb : Below w.heap.size w w') : TokPost ls w (.returned (.tuple #[.slice none 0 0, .int .i64 n])) w' :=
  ⟨_, by rw [h], hb, by rw [h]; exact World.ownsRow_nil _ _ _ _⟩
theorem tokens_many (ls : List ByteArray) (a : Option Addr) (cap : Nat) (w : World) (hls : ls.length ≤ 60000) (h6 : 6 < ls.length) : Calls Tryz.prog 23 #[.slice a ls.length cap] w (TokPost ls w) := by
  have hR : tokensR ls = ([], 5) := by unfold tokensR; rw [if_pos h6]
  have HR := Lib.hid hR
  clear hR
  go_enter Tryz.func23, Tryz.ntmps23
  go_wp2_with fail
  refine bodyPost_ret (v := .tuple #[.slice none 0 0, .int .i64 5]) (by simp [results, Tryz.results23, go_sem]) rfl (tokens_err HR.out ?_)
  exact ((Below.refl _ w).alloc (Nat.le_refl _) _).alloc (by simp) _
theorem cell_2 {w : World} {a b : Obj} {g k : Nat} {v : Value} (hg : g < w.heap.size) (h : w.cell? ⟨g, k, none⟩ = some v) : ((w.alloc a).alloc b).cell? ⟨g, k, none⟩ = some v :=
  ((((Below.refl _ w).alloc (Nat.le_refl _) a).alloc (by simp) b).cell (p := ⟨g, k, none⟩) hg).trans h
theorem longB_false {ls : List ByteArray} (h : ∀ j (hj : j < ls.length), ls[j].size ≤ 60) : longB ls = false := by
  unfold longB
  rw [List.any_eq_false]
  intro x hx
  obtain ⟨j, hj, rfl⟩ := List.mem_iff_getElem.1 hx
  have := h j hj
  simp; omega
theorem tokens_long (ls : List ByteArray) (g cap base : Nat) (w : World) (h6 : ls.length ≤ 6) (hl : longB ls = true) (hsz : ∀ s ∈ ls, s.size ≤ maxLen)
    (ho : w.ownsRow base 9 1 (.slice (some ⟨g, 0, none⟩) ls.length cap) ls.length (ls.map Value.string)) : Calls Tryz.prog 23 #[.slice (some ⟨g, 0, none⟩) ls.length cap] w (TokPost ls w) := by
  have hR : tokensR ls = ([], 3) := by unfold tokensR; rw [if_neg (by omega), if_pos hl]
  have HR := Lib.hid hR
  have HL := Lib.hid hl
  have HSZ := Lib.hid hsz
  have hg := (ho.lt g rfl).2
  clear hR hl hsz
  go_enter Tryz.func23, Tryz.ntmps23
  go_wp2_with fail
  go_loop [15] (fun i => ∃ k : Nat, k ≤ ls.length ∧ i = .int .i64 k ∧ Hid (∀ j, j < k → ∀ hj : j < ls.length, ls[j].size ≤ 60)) (fun i => ls.length - (intOf i).toNat)
  case atStart => exact ⟨0, Nat.zero_le _, rfl, fun j h => by omega⟩
  case round =>
    obtain ⟨k, hk, rfl, ha⟩ := hrel
    by_cases hlt : k < ls.length
    · have c1 := cell_2 (a := .cells #[.slice none 0 0] 42) (b := .cells #[.int .i64 0] 43) hg (row_cell ho hlt)
      have hm := HSZ.out _ (List.getElem_mem hlt)
      unfold maxLen at hm
      by_cases h60 : 60 < ls[k].size
      · go_wp2_with fail
        refine bodyPost_ret (v := .tuple #[.slice none 0 0, .int .i64 3]) (by simp [results, Tryz.results23, go_sem]) rfl (tokens_err HR.out ?_)
        exact ((Below.refl _ w).alloc (Nat.le_refl _) _).alloc (by simp) _
      · go_wp2_with fail
        go_round
        case rel => exact ⟨k + 1, by omega, by go_num, fun j hj hj' => by
          by_cases e : j = k
          · subst e; omega
          · exact ha j (by omega) hj'⟩
        case measure => simp [intOf]; omega
    · exfalso
      have := longB_false (ls := ls) (fun j hj => ha j (by omega) hj)
      rw [HL.out] at this
      cases this
def RBoxes (b0 : Nat) (v : Value) (n : Int) (W : World) : Prop := Boxed W b0 42 v ∧ Boxed W (b0 + 1) 43 (.int .i64 n)
theorem RBoxes.keep {b0 : Nat} {v : Value} {n : Int} {A B : World} {row : Option Nat} (h : RBoxes b0 v n A) (hg : A.grownBy B row) (hr : ∀ r, row = some r → b0 + 2 ≤ r) : RBoxes b0 v n B :=
  ⟨h.1.kept hg (fun e => by have := hr _ e.symm; omega), h.2.kept hg (fun e => by have := hr _ e.symm; omega)⟩
theorem RBoxes.store {b0 : Nat} {v v' : Value} {n n' : Int} {W : World} (h : RBoxes b0 v n W) : RBoxes b0 v' n' ((W.setCell ⟨b0, 0, none⟩ v').setCell ⟨b0 + 1, 0, none⟩ (.int .i64 n')) :=
  ⟨(h.1.set v').kept (grownBy_setCell' _ _ _) (by simp), (h.2.kept (grownBy_setCell' _ _ _) (by simp)).set _⟩
theorem tok_results {b0 : Nat} {W : World} {v : Value} {n : Int} {tmps : Array Value} (h : RBoxes b0 v n W) (t2 : tmps.getD 2 undef = .pointer (some ⟨b0, 0, none⟩)) (t3 : tmps.getD 3 undef = .pointer (some ⟨b0 + 1, 0, none⟩)) :
    (results Tryz.f23 tmps).run Tryz.prog W = .ok (.tuple #[v, .int .i64 n]) W := by
  have c1 := h.1.cell
  have c2 := h.2.cell
  rw [results_cell2 Tryz.results23, t2, t3]
  simp [asAddr, go_sem, c1, c2]
theorem badB_none {ls : List ByteArray} (h : ∀ j (hj : j < ls.length), badB ls[j] = false) : ls.any badB = false := by
  rw [List.any_eq_false]
  intro x hx
  obtain ⟨j, hj, rfl⟩ := List.mem_iff_getElem.1 hx
  rw [h j hj]; simp
theorem upto_getElem {ls : List ByteArray} {P : ByteArray → Prop} {k : Nat} (hk : k < ls.length) (h : ∀ j, j < k → ∀ hj : j < ls.length, P ls[j]) (h' : P ls[k]) : ∀ j, j < k + 1 → ∀ hj : j < ls.length, P ls[j] := fun j hj hj' => by
  by_cases e : j = k
  · subst e; exact h'
  · exact h j (by omega) hj'
set_option maxHeartbeats 1000000 in
theorem tokens_arg (ls : List ByteArray) (g cap base : Nat) (w : World) (h6 : ls.length ≤ 6) (hl : ∀ j (hj : j < ls.length), ls[j].size ≤ 60) (hbad : ls.any badB = true)
    (ho : w.ownsRow base 9 1 (.slice (some ⟨g, 0, none⟩) ls.length cap) ls.length (ls.map Value.string)) : Calls Tryz.prog 23 #[.slice (some ⟨g, 0, none⟩) ls.length cap] w (TokPost ls w) := by
  have hR : tokensR ls = ([], 2) := by unfold tokensR; rw [if_neg (by omega), longB_false hl, if_pos hbad]; rfl
  have HR := Lib.hid hR
  have HL := Lib.hid hl
  have HB := Lib.hid hbad
  have hg := (ho.lt g rfl).2
  clear hR hl hbad
  go_enter Tryz.func23, Tryz.ntmps23
  go_wp2_with fail
  go_loop [15] (fun i => ∃ k : Nat, k ≤ ls.length ∧ i = .int .i64 k) (fun i => ls.length - (intOf i).toNat)
  case atStart => exact ⟨0, Nat.zero_le _, rfl⟩
  case round =>
    obtain ⟨k, hk, rfl⟩ := hrel
    by_cases hlt : k < ls.length
    · have c1 := cell_2 (a := .cells #[.slice none 0 0] 42) (b := .cells #[.int .i64 0] 43) hg (row_cell ho hlt)
      have hm := HL.out k hlt
      go_wp2_with fail
      go_round
      case rel => exact ⟨k + 1, by omega, by go_num⟩
      case measure => simp [intOf]; omega
    · go_wp2_with fail
      obtain ⟨W2, hW2⟩ : ∃ W2, W2 = (w.alloc (.cells #[.slice none 0 0] 42)).alloc (.cells #[.int .i64 0] 43) := ⟨_, rfl⟩
      have hb2 : Below w.heap.size w W2 := by rw [hW2]; exact ((Below.refl _ w).alloc (Nat.le_refl _) _).alloc (by simp) _
      have hrb : RBoxes w.heap.size (.slice none 0 0) 0 W2 := by rw [hW2]; exact ⟨(box_at rfl).alloc _, box_at (by simp)⟩
      have hz2 : w.heap.size + 2 ≤ W2.heap.size := by rw [hW2]; simp
      rw [← hW2]
      clear hW2
      go_loopw [25] (fun i wr => ∃ q : Nat, q ≤ ls.length ∧ i = .int .i64 q ∧ Hid (∀ j, j < q → ∀ hj : j < ls.length, badB ls[j] = false) ∧ Below w.heap.size w wr ∧ RBoxes w.heap.size (.slice none 0 0) 0 wr ∧ w.heap.size + 2 ≤ wr.heap.size) (fun i _ => ls.length - (intOf i).toNat)
      case atStart => exact ⟨0, Nat.zero_le _, rfl, fun j h => by omega, hb2, hrb, hz2⟩
      case round =>
        clear hb2 hrb hz2
        obtain ⟨q, hq, rfl, ha, hb, hrb, hz⟩ := hrel
        by_cases hlt2 : q < ls.length
        · have c1 : wr.cell? ⟨g, q, none⟩ = some (.string ls[q]) := (hb.cell (p := ⟨g, q, none⟩) hg).trans (row_cell ho hlt2)
          have hm := HL.out q hlt2
          have hrc := fun w' => right_any ls[q] w' (by omega)
          have HRC := Lib.hid hrc
          clear hrc
          have hup := fun h => upto_getElem (P := fun s => badB s = false) hlt2 ha.out h
          have HUP := Lib.hid hup
          clear hup
          cases hbd : badB ls[q]
          · have hnx := HUP.out hbd
            have HNX := Lib.hid hnx
            unfold badB at hbd
            simp only [Bool.or_eq_false_iff, decide_eq_false_iff_not, Bool.not_eq_false'] at hbd
            obtain ⟨n1, n2⟩ := hbd
            obtain ⟨ne1, ne2⟩ := ne_of_pos (s := ls[q]) (by omega)
            generalize hf : (foldL ls[q] == ls[q].data.toList) = fb at HRC n2
            subst n2
            clear hf hnx
            go_wp2_with (go_at_call 59; refine (HRC.out _).mono ?_; rintro e w1 ⟨rfl, hb1⟩)
            go_roundw
            case rel => exact ⟨q + 1, by omega, by go_num, HNX.out, hb.trans (hb1.mono hb.size), hrb.keep (grown_none hb1) (fun _ e => by cases e), Nat.le_trans hz hb1.size⟩
            case measure => simp [intOf]; omega
          · by_cases hp : 0 < ls[q].size
            · obtain ⟨ne1, ne2⟩ := ne_of_pos hp
              unfold badB at hbd
              rw [decide_eq_false (by omega), Bool.false_or, Bool.not_eq_true'] at hbd
              generalize hf : (foldL ls[q] == ls[q].data.toList) = fb at HRC hbd
              subst hbd
              clear hf
              go_wp2_with (go_at_call 59; refine (HRC.out _).mono ?_; rintro e w1 ⟨rfl, hb1⟩; replace hrb := hrb.keep (grown_none hb1) (fun _ e => by cases e); have d1 := hrb.1.cell; have d2 := hrb.1.frozen; have d3 := hrb.2.cell; have d4 := hrb.2.frozen)
              refine bodyPost_ret (tok_results hrb.store rfl rfl) rfl (tokens_err HR.out ?_)
              exact ((hb.trans (hb1.mono hb.size)).setCell (p := ⟨w.heap.size, 0, none⟩) (Nat.le_refl _) _).setCell (p := ⟨w.heap.size + 1, 0, none⟩) (by show w.heap.size ≤ w.heap.size + 1; omega) _
            · obtain ⟨ne1, ne2⟩ := eq_of_not_pos hp
              have d1 := hrb.1.cell
              have d2 := hrb.1.frozen
              have d3 := hrb.2.cell
              have d4 := hrb.2.frozen
              clear hbd HUP HRC
              go_wp2_with fail
              refine bodyPost_ret (tok_results hrb.store rfl rfl) rfl (tokens_err HR.out ?_)
              exact (hb.setCell (p := ⟨w.heap.size, 0, none⟩) (Nat.le_refl _) _).setCell (p := ⟨w.heap.size + 1, 0, none⟩) (by show w.heap.size ≤ w.heap.size + 1; omega) _
        · exfalso
          have := badB_none (ls := ls) (fun j hj => ha j (by omega) hj)
          rw [HB.out] at this
          cases this
end Go.Proofs.YtdcpmnkebhilpaaGreatDoor
