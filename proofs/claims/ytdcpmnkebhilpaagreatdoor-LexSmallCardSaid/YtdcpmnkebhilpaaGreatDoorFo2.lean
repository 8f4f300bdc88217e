/-
  Contracts of fold.Fold and fold.Right.
-/
import Derived.Test.YtdcpmnkebhilpaaGreatDoorFo1
import Derived.Lib.AppendStr
import Derived.Laws.IdiomStrings
import Derived.Lib.SmallJoins
import Derived.Lib.BufferRead
namespace Go.Proofs.YtdcpmnkebhilpaaGreatDoor
open Go.RowKit Go.WideShapes
set_option linter.unusedVariables false
theorem Tryz.infoB : (Tryz.prog.info? 5).map (fun i => (i.zero, i.size, i.bytes)) = some (some (.int .u8 0), 1, 1) := by kernel_rfl
def foldGo (s : ByteArray) : Nat → Nat → List UInt8 → Bool → List UInt8
  | 0, _, out, _ => out
  | n + 1, i, out, ap =>
    if i < s.size then
      if (foldAt s i).1 = [] then foldGo s n (i + (foldAt s i).2) out true
      else foldGo s n (i + (foldAt s i).2) (out ++ (if ap = true ∧ out ≠ [] then [32] else []) ++ (foldAt s i).1) false
    else out
def foldL (s : ByteArray) : List UInt8 := foldGo s s.size 0 [] false
theorem len_ite {c : Prop} [Decidable c] {a b : List UInt8} (ha : a.length ≤ 2) (hb : b.length ≤ 2) : (if c then a else b).length ≤ 2 := by split <;> assumption
theorem foldAt_two (s : ByteArray) (i : Nat) : 1 ≤ (foldAt s i).2 ∧ (foldAt s i).2 ≤ 2 ∧ (foldAt s i).1.length ≤ 2 := by
  have hl : ∀ a b, (lettersP a b).length ≤ 2 := by
    intro a b
    unfold lettersP lettersPT
    repeat' (refine len_ite ?_ ?_)
    all_goals decide
  unfold foldAt
  split
  · simp
  split
  · simp
  split
  · exact ⟨by simp, by simp, hl _ _⟩
  · simp
def bytesV (l : List UInt8) : List Value := l.map fun b => .int .u8 b.toNat
theorem keep3 {w wr w3 : World} {s : ByteArray} {row : Option Nat} (hb : Below w.heap.size w wr) (hc : wr.cell? ⟨w.heap.size, 0, none⟩ = some (.string s)) (hz : w.heap.size + 1 ≤ wr.heap.size)
    (hg : wr.grownBy w3 row) (hr : ∀ x, row = some x → w.heap.size + 1 ≤ x) : Below w.heap.size w w3 ∧ w3.cell? ⟨w.heap.size, 0, none⟩ = some (.string s) ∧ w.heap.size + 1 ≤ w3.heap.size := by
  have hbb : Below (w.heap.size + 1) wr w3 := (Below.refl _ _).grown hg hz hr
  exact ⟨hb.trans (hbb.mono (by omega)), (hbb.cell (p := ⟨w.heap.size, 0, none⟩) (by simp)).trans hc, Nat.le_trans hz hbb.size⟩
theorem keep3a {w wr w3 : World} {o : Obj} {s : ByteArray} {row : Option Nat} (hb : Below w.heap.size w wr) (hc : wr.cell? ⟨w.heap.size, 0, none⟩ = some (.string s)) (hz : w.heap.size + 1 ≤ wr.heap.size)
    (hg : (wr.alloc o).grownBy w3 row) (hr : ∀ x, row = some x → w.heap.size + 1 ≤ x) : Below w.heap.size w w3 ∧ w3.cell? ⟨w.heap.size, 0, none⟩ = some (.string s) ∧ w.heap.size + 1 ≤ w3.heap.size :=
  keep3 (hb.alloc hb.size _) (((Below.refl wr.heap.size wr).alloc (Nat.le_refl _) o).cell (p := ⟨w.heap.size, 0, none⟩) (by show w.heap.size < _; omega) |>.trans hc) (by simp; omega) hg hr
theorem str_facts {r : ByteArray} {L : List UInt8} (hr : r.data.toList = L) (hL : ¬ L = []) (h2 : L.length ≤ 2) : (0 < r.size ∧ r.size ≤ 2) ∧ r.toList.isEmpty = false ∧ ¬ r.toList = [] := by
  have hl : r.data.toList.length = r.size := by simp
  have hp : 0 < L.length := List.length_pos_iff.2 hL
  rw [hr] at hl
  have := ne_of_pos (s := r) (by omega)
  exact ⟨by omega, this.1, this.2⟩
theorem len3 {r : ByteArray} {L : List UInt8} (hr : r.data.toList = L) : r.size = L.length := by rw [← hr]; simp
set_option maxHeartbeats 2000000 in
theorem fold_any (s : ByteArray) (w : World) (hs : s.size ≤ 60000) :
    Calls Tryz.prog 63 #[.string s] w fun e w' => e = .returned (.string ⟨(foldL s).toArray⟩) ∧ Below w.heap.size w w' := by
  obtain ⟨i0, hi⟩ := info_parts Tryz.infoB
  have HI := Lib.hid hi
  clear hi
  go_enter Tryz.func63, Tryz.ntmps63
  go_wp2_with (at_make; refine wpList_make_own _ rfl _ _ 23 rfl (w.heap.size + 1) 5 i0 (.int .u8 0) 1 Tryz.underlying23 HI.out.1 HI.out.2.1 HI.out.2.2.1 _ _ _ s.size rfl rfl rfl (by rw [HI.out.2.2.2]; omega) (by unfold maxLen; omega) (by simp) ?_; intro w1 hown hgrow)
  have hbw1 : Below w.heap.size w w1 := ((Below.refl _ w).alloc (Nat.le_refl _) _).grown hgrow (by simp) (fun _ e => by cases e)
  have hcell : w1.cell? ⟨w.heap.size, 0, none⟩ = some (.string s) := (Below.cell (B := w.heap.size + 1) (w := w.alloc (.cells #[.string s] 9)) ((Below.refl _ _).grown hgrow (by simp) (fun _ e => by cases e)) (p := ⟨w.heap.size, 0, none⟩) (by simp)).trans (by simp [go_sem])
  have hsz1 : w.heap.size + 1 ≤ w1.heap.size := by have := hgrow.size; simpa using this
  clear hgrow
  go_loopw [4, 5, 6] (fun v ap i wr => ∃ (k n : Nat) (out : List UInt8) (b : Bool) (g cap : Nat), i = .int .i64 k ∧ ap = .bool b ∧ v = .slice (some ⟨g, 0, none⟩) out.length cap ∧ k ≤ s.size + 1 ∧ s.size ≤ k + n ∧ Hid (foldGo s n k out b = foldL s) ∧ out.length ≤ 3 * k ∧
      Below w.heap.size w wr ∧ wr.cell? ⟨w.heap.size, 0, none⟩ = some (.string s) ∧ w.heap.size + 1 ≤ wr.heap.size ∧ wr.ownsRow (w.heap.size + 1) 5 1 (.slice (some ⟨g, 0, none⟩) out.length cap) out.length (bytesV out)) (fun _ _ i _ => s.size + 1 - (intOf i).toNat)
  case atStart => exact ⟨0, s.size, [], false, w.heap.size + 1, s.size, rfl, rfl, rfl, by omega, by omega, rfl, by simp, hbw1, hcell, hsz1, by simpa [bytesV] using hown⟩
  case round =>
    clear hbw1 hcell hsz1 hown
    obtain ⟨k, n, out, b, g, cap, rfl, rfl, rfl, hk, hn, hgo, hol, hb, hcell, hsz, hown⟩ := hrel
    by_cases hlt : k < s.size
    · obtain ⟨n, rfl⟩ : ∃ m, n = m + 1 := ⟨n - 1, by omega⟩
      have hgo2 := hgo.out
      rw [foldGo, if_pos hlt] at hgo2
      have h2 := foldAt_two s k
      have hbec := fold1_any s k w.heap.size wr hlt hs hcell
      unfold Becomes at hbec
      generalize foldAt s k = ft at hgo2 h2 hbec
      obtain ⟨L, t⟩ := ft
      simp only at hgo2 h2 hbec
      obtain ⟨h20, h21, h22⟩ := h2
      have HB := Lib.hid hbec
      clear hbec hgo
      by_cases hL : L = []
      · rw [if_pos hL] at hgo2
        have HG := Lib.hid hgo2
        clear hgo2
        go_wp2_with (go_at_call 89; refine HB.out.mono ?_; rintro e w' ⟨r, hr, rfl, rfl⟩; obtain rfl : r = ⟨#[]⟩ := bytes_inj (by rw [hr, hL]); clear hr)
        go_roundw
        case rel => exact ⟨k + t, n, out, true, g, cap, by go_num, rfl, rfl, by omega, by omega, HG.out, by omega, hb, hcell, hsz, hown⟩
        case measure => simp [intOf]; omega
      · rw [if_neg hL] at hgo2
        have HL := Lib.hid hL
        clear hL
        by_cases hbl : b = true ∧ out ≠ []
        · rw [if_pos hbl] at hgo2
          obtain ⟨rfl, hne⟩ := hbl
          have hpos : 0 < out.length := List.length_pos_iff.2 hne
          have HG := Lib.hid hgo2
          clear hgo2 hne
          go_wp2_with (first
            | (go_at_call 89; refine HB.out.mono ?_; rintro e w' ⟨r, hr, rfl, rfl⟩; obtain ⟨rz, rne1, rne2⟩ := str_facts hr HL.out h22; have HR := Lib.hid hr; clear hr)
            | (at_builtin; refine wpList_append_own _ rfl _ _ 23 rfl (w.heap.size + 1) 5 i0 (.int .u8 0) 1 1 Tryz.underlying23 HI.out.1 HI.out.2.1 HI.out.2.2.1 HI.out.2.2.2 rfl (by decide) _ _ _ rfl (hown.alloc _) ⟨wr.heap.size, 0, none⟩ 1 1 [.int .u8 32] rfl rfl (cell_one_new _ _ _) (by simp [Value.oneCell']) (by unfold maxLen; omega) (by omega) (by simp; omega) ?_; intro v2 w2 hown2 hgrow2 _; obtain ⟨hb2, hc2, hz2⟩ := keep3a hb hcell hsz hgrow2 (fun x e => (hown.lt x e).1); clear hgrow2)
            | (at_builtin; refine Lib.wpList_append_own_string _ rfl _ _ 23 9 rfl (w.heap.size + 1) 5 i0 Tryz.underlying23 Tryz.underlying9 HI.out.1 HI.out.2.1 HI.out.2.2.1 HI.out.2.2.2 _ _ _ rfl hown2 r rfl (by unfold maxLen; omega) (by omega) (by omega) ?_; intro v3 w3 hown3 hgrow3 _; obtain ⟨hb3, hc3, hz3⟩ := keep3 hb2 hc2 hz2 hgrow3 (fun x e => (hown2.lt x e).1); clear hgrow3))
          obtain ⟨g3, cap3, rfl⟩ := Joins.ownsRow_form hown3 (by omega)
          go_roundw
          case rel =>
            have hlen : out.length + 1 + r.size = (out ++ [32] ++ L).length := by simp [len3 HR.out]; omega
            exact ⟨k + t, n, out ++ [32] ++ L, false, g3, cap3, by go_num, rfl, by rw [← hlen], by omega, by omega, HG.out, by rw [← hlen]; omega, hb3, hc3, hz3, by rw [← hlen]; simpa [bytesV, Lib.strCells, HR.out] using hown3⟩
          case measure => simp [intOf]; omega
        · rw [if_neg hbl] at hgo2
          have HG := Lib.hid hgo2
          have HR0 : True := trivial
          clear hgo2
          have hne : b = true → out.length = 0 := fun hb1 => by
            by_cases ho : out = []
            · rw [ho]; rfl
            · exact absurd ⟨hb1, ho⟩ hbl
          clear hbl
          cases b
          · clear hne
            go_wp2_with (first
              | (go_at_call 89; refine HB.out.mono ?_; rintro e w' ⟨r, hr, rfl, rfl⟩; obtain ⟨rz, rne1, rne2⟩ := str_facts hr HL.out h22; have HR := Lib.hid hr; clear hr)
              | (at_builtin; refine Lib.wpList_append_own_string _ rfl _ _ 23 9 rfl (w.heap.size + 1) 5 i0 Tryz.underlying23 Tryz.underlying9 HI.out.1 HI.out.2.1 HI.out.2.2.1 HI.out.2.2.2 _ _ _ rfl hown r rfl (by unfold maxLen; omega) (by omega) (by omega) ?_; intro v3 w3 hown3 hgrow3 _; obtain ⟨hb3, hc3, hz3⟩ := keep3 hb hcell hsz hgrow3 (fun x e => (hown.lt x e).1); clear hgrow3))
            obtain ⟨g3, cap3, rfl⟩ := Joins.ownsRow_form hown3 (by omega)
            go_roundw
            case rel =>
              have hlen : out.length + r.size = (out ++ [] ++ L).length := by simp [len3 HR.out]
              exact ⟨k + t, n, out ++ [] ++ L, false, g3, cap3, by go_num, rfl, by rw [← hlen], by omega, by omega, HG.out, by rw [← hlen]; omega, hb3, hc3, hz3, by rw [← hlen]; simpa [bytesV, Lib.strCells, HR.out] using hown3⟩
            case measure => simp [intOf]; omega
          · have hz0 : out.length = 0 := hne rfl
            have hz1 : ((out.length : Int) > 0) = False := by simp [hz0]
            have hz2 : out.length ≤ 0 := by omega
            clear hne hz0 hz1
            go_wp2_with (first
              | (go_at_call 89; refine HB.out.mono ?_; rintro e w' ⟨r, hr, rfl, rfl⟩; obtain ⟨rz, rne1, rne2⟩ := str_facts hr HL.out h22; have HR := Lib.hid hr; clear hr)
              | (at_builtin; refine Lib.wpList_append_own_string _ rfl _ _ 23 9 rfl (w.heap.size + 1) 5 i0 Tryz.underlying23 Tryz.underlying9 HI.out.1 HI.out.2.1 HI.out.2.2.1 HI.out.2.2.2 _ _ _ rfl hown r rfl (by unfold maxLen; omega) (by omega) (by omega) ?_; intro v3 w3 hown3 hgrow3 _; obtain ⟨hb3, hc3, hz3⟩ := keep3 hb hcell hsz hgrow3 (fun x e => (hown.lt x e).1); clear hgrow3))
            obtain ⟨g3, cap3, rfl⟩ := Joins.ownsRow_form hown3 (by omega)
            go_roundw
            case rel =>
              have hlen : out.length + r.size = (out ++ [] ++ L).length := by simp [len3 HR.out]
              exact ⟨k + t, n, out ++ [] ++ L, false, g3, cap3, by go_num, rfl, by rw [← hlen], by omega, by omega, HG.out, by rw [← hlen]; omega, hb3, hc3, hz3, by rw [← hlen]; simpa [bytesV, Lib.strCells, HR.out] using hown3⟩
            case measure => simp [intOf]; omega
    · have hout : out = foldL s := by
        rw [← hgo.out]
        cases n with
        | zero => rfl
        | succ n => rw [foldGo, if_neg hlt]
      have HOUT := Lib.hid hout
      have hconv := run_convert_bytes_back (P := Tryz.prog) wr 23 9 5 ⟨g, 0, none⟩ cap out Tryz.underlying23 Tryz.underlying5 Tryz.underlying9 (fun j hj => hown.cells (g := g) rfl j _ (by simp [bytesV, hj]))
      clear hout hgo hown hol HI
      go_wp2_with fail
      go_ret
      exact ⟨ret_str HOUT.out, hb⟩
theorem right_any (s : ByteArray) (w : World) (hs : s.size ≤ 60000) :
    Calls Tryz.prog 59 #[.string s] w fun e w' => e = .returned (.bool (foldL s == s.data.toList)) ∧ Below w.heap.size w w' := by
  go_enter Tryz.func59, Tryz.ntmps59
  go_wp2_with (go_at_call 63; refine (fold_any _ _ hs).mono ?_; rintro e w' ⟨rfl, hb⟩)
  go_ret
  exact ⟨ret_bool (by rw [ByteArray.toList_eq]), hb⟩
end Go.Proofs.YtdcpmnkebhilpaaGreatDoor
