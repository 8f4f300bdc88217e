/-
  Contract of letterbaglaw08.awake: the examples of the chapter hold.
-/
import Derived.Test.YtdcpmnkebhilpaaGreatDoorSm2
import Derived.Test.YtdcpmnkebhilpaaGreatDoorNu
import Derived.Test.YtdcpmnkebhilpaaGreatDoorCo
import Derived.Deep.DeepCutAuto
import Derived.Deep.RegionWith
namespace Go.Proofs.YtdcpmnkebhilpaaGreatDoor
open Go.RowKit
set_option linter.unusedVariables false
def exT : ByteArray := ⟨#[49, 50, 98, 32, 32, 77, 97, 105, 110, 32, 115, 116, 44, 10, 10, 83, 112, 114, 105, 110, 103, 102, 105, 101, 108, 100]⟩
def exL : List ByteArray := [⟨#[49, 50, 66, 32, 77, 65, 73, 78, 32, 83, 84]⟩, ⟨#[83, 80, 82, 73, 78, 71, 70, 73, 69, 76, 68]⟩]
def exK : List Tok := [(⟨#[49, 50, 66]⟩, 0, 0), (⟨#[77, 65, 73, 78]⟩, 0, 4), (⟨#[83, 84]⟩, 0, 9), (⟨#[83, 80, 82, 73, 78, 71, 70, 73, 69, 76, 68]⟩, 1, 0)]
theorem ev_lines : linesR exT = (exL, 0) := by kernel_rfl
theorem ev_toks : tokensR exL = (exK, 0) := by kernel_rfl
theorem ev_n1 : numR ⟨#[49, 50, 66]⟩ = (12, [66], true) := by kernel_rfl
theorem ev_n2 : numR ⟨#[48, 49, 50]⟩ = (0, [], false) := by kernel_rfl
theorem ev_n3 : numR ⟨#[49, 50, 51, 52, 53, 54, 55]⟩ = (0, [], false) := by kernel_rfl
theorem ev_c1 : codeR 2 ⟨#[75, 49, 65, 32, 48, 66, 49]⟩ = ([75, 49, 65, 48, 66, 49], true) := by kernel_rfl
theorem ev_c2 : codeR 1 ⟨#[49, 50, 51, 52]⟩ = ([], false) := by kernel_rfl
theorem lines_ex (w : World) : Calls Tryz.prog 25 #[.string ⟨#[49, 50, 98, 32, 32, 77, 97, 105, 110, 32, 115, 116, 44, 10, 10, 83, 112, 114, 105, 110, 103, 102, 105, 101, 108, 100]⟩] w fun e w' => ∃ g cap, e = .returned (.tuple #[.slice (some ⟨g, 0, none⟩) 2 cap, .int .i64 0]) ∧ Below w.heap.size w w' ∧
    w'.ownsRow w.heap.size 9 1 (.slice (some ⟨g, 0, none⟩) exL.length cap) exL.length (exL.map Value.string) := by
  refine (lines_any exT w (by decide)).mono ?_
  rintro e w' ⟨v, rfl, hb, ho⟩
  rw [ev_lines] at ho ⊢
  obtain ⟨g, cap, rfl⟩ := Joins.ownsRow_form ho (by decide)
  exact ⟨g, cap, rfl, hb, ho⟩
theorem tokens_ex (g cap base : Nat) (m : Int) (w : World) (h0 : 4 < w.heap.size) (hm : w.cell? ⟨4, 0, none⟩ = some (.int .i64 m)) (ho : w.ownsRow base 9 1 (.slice (some ⟨g, 0, none⟩) exL.length cap) exL.length (exL.map Value.string)) :
    Calls Tryz.prog 23 #[.slice (some ⟨g, 0, none⟩) 2 cap] w fun e w' => ∃ g cap, e = .returned (.tuple #[.slice (some ⟨g, 0, none⟩) 4 cap, .int .i64 0]) ∧ Below w.heap.size w w' ∧
    w'.ownsRow w.heap.size 50 4 (.slice (some ⟨g, 0, none⟩) exK.length cap) exK.length (toksV exK) := by
  refine (tokens_any exL _ base m w (by decide) (by decide) h0 hm ho).mono ?_
  rintro e w' ⟨v, rfl, hb, ho⟩
  rw [ev_toks] at ho ⊢
  obtain ⟨g, cap, rfl⟩ := Joins.ownsRow_form ho (by decide)
  exact ⟨g, cap, rfl, hb, ho⟩
theorem reads_lit {W : World} {n : Nat} (hn : W.heap.size = n) (ls : List ByteArray) (T : TypeId) : ReadsT (W.alloc (.cells (ls.map Value.string).toArray T)) (.slice (some ⟨n, 0, none⟩) ls.length ls.length) ls := by
  subst hn
  refine ⟨_, _, rfl, fun _ => ⟨W.heap.size, 0, rfl, by simp, fun i h => ?_⟩⟩
  rw [Nat.zero_add, cell_of_row _ W.heap.size i _ _ _ (World.alloc_heap_new W _)]
  simp [h]
theorem ev_k0 : classesB ⟨#[49, 50, 51, 52, 53]⟩ = 641 := by kernel_rfl
theorem ev_k1 : classesB ⟨#[48, 49, 50, 51, 52]⟩ = 640 := by kernel_rfl
theorem ev_k2 : classesB ⟨#[49, 50, 51, 52]⟩ = 8321 := by kernel_rfl
theorem ev_k3 : classesB ⟨#[75, 49, 65]⟩ = 2180 := by kernel_rfl
theorem ev_k4 : classesB ⟨#[49, 47, 50]⟩ = 0 := by kernel_rfl
theorem ev_k5 : classesB ⟨#[45]⟩ = 0 := by kernel_rfl
theorem ev_k6 : classesB ⟨#[65, 45, 66]⟩ = 4 := by kernel_rfl
theorem cells_kept {A B : World} (h : Below A.heap.size A B) : (∀ b o, b < A.heap.size → B.cell? ⟨b, o, none⟩ = A.cell? ⟨b, o, none⟩) ∧ A.heap.size ≤ B.heap.size :=
  ⟨fun b o hb => h.cell (p := ⟨b, o, none⟩) hb, h.size⟩
theorem aw_A {w wr w5 : World} {b : Nat} {o x : Obj} (hB : Below w.heap.size w wr) (hblk : wr.heap[b]? = some o) (hb5 : Below wr.drew.heap.size wr.drew w5) : Below w.heap.size w (w5.alloc x) ∧ (w5.alloc x).heap[b]? = some o := by
  have h1 : Below wr.heap.size wr w5 := (Below.refl _ wr).drew.trans hb5
  have hlt := (Array.getElem?_eq_some_iff.1 hblk).1
  exact ⟨(hB.trans (h1.mono hB.size)).alloc (Nat.le_trans hB.size h1.size) _, (Below.heap_alloc _ _ _ (Nat.lt_of_lt_of_le hlt h1.size)).trans ((h1.block b hlt).trans hblk)⟩
theorem aw_B {w wr w5 : World} {b : Nat} {o x : Obj} (hB : Below w.heap.size w wr) (hblk : wr.heap[b]? = some o) (hb5 : Below (wr.alloc x).drew.heap.size (wr.alloc x).drew w5) : Below w.heap.size w w5 ∧ w5.heap[b]? = some o := by
  have h1 : Below wr.heap.size wr w5 := ((Below.refl _ wr).alloc (Nat.le_refl _) x).drew.trans (hb5.mono (by show wr.heap.size ≤ (wr.alloc x).heap.size; simp))
  have hlt := (Array.getElem?_eq_some_iff.1 hblk).1
  exact ⟨hB.trans (h1.mono hB.size), (h1.block b hlt).trans hblk⟩
theorem number_ev {s : ByteArray} {n : Int} {l : List UInt8} {b : Bool} (h : numR s = (n, l, b)) (hs : s.size ≤ maxLen) (w : World) : Calls Tryz.prog 17 #[.string s] w fun e w' => e = .returned (.tuple #[.int .i64 n, .string ⟨l.toArray⟩, .bool b]) ∧ Below w.heap.size w w' := by
  refine (number3_any s w hs).mono ?_
  rintro e w' ⟨t, ht, rfl, hb⟩
  rw [h] at ht ⊢
  obtain rfl : t = ⟨l.toArray⟩ := WideShapes.bytes_inj (by rw [ht])
  exact ⟨rfl, hb⟩
theorem code_ev {c : Int} {s : ByteArray} {l : List UInt8} {b : Bool} (h : codeR c s = (l, b)) (hs : s.size ≤ maxLen) (w : World) : Calls Tryz.prog 19 #[.int .u8 c, .string s] w fun e w' => e = .returned (.tuple #[.string ⟨l.toArray⟩, .bool b]) ∧ Below w.heap.size w w' := by
  refine (code_any c s w hs).mono ?_
  rintro e w' ⟨t, ht, rfl, hb⟩
  rw [h] at ht ⊢
  obtain rfl : t = ⟨l.toArray⟩ := WideShapes.bytes_inj (by rw [ht])
  exact ⟨rfl, hb⟩
def wordsC : Array Value := #[.string ⟨#[49, 50, 51, 52, 53]⟩, .string ⟨#[48, 49, 50, 51, 52]⟩, .string ⟨#[49, 50, 51, 52]⟩, .string ⟨#[75, 49, 65]⟩, .string ⟨#[49, 47, 50]⟩, .string ⟨#[45]⟩, .string ⟨#[65, 45, 66]⟩]
def wantC : Array Value := #[.string ⟨#[49, 50, 66]⟩, .int .i64 0, .int .i64 0, .int .u16 134, .string ⟨#[77, 65, 73, 78]⟩, .int .i64 0, .int .i64 4, .int .u16 132, .string ⟨#[83, 84]⟩, .int .i64 0, .int .i64 9, .int .u16 404, .string ⟨#[83, 80, 82, 73, 78, 71, 70, 73, 69, 76, 68]⟩, .int .i64 1, .int .i64 0, .int .u16 4]
theorem want_eq : toksV exK = wantC.toList := by kernel_rfl
theorem want_row {W : World} {n : Nat} (hn : W.heap.size = n) : (W.alloc (.cells wantC 50)).ownsRow 0 50 4 (.slice (some ⟨n, 0, none⟩) exK.length 4) exK.length (toksV exK) := by
  subst hn
  rw [want_eq]
  exact ⟨rfl, .inr ⟨W.heap.size, 4, wantC, rfl, Nat.zero_le _, World.alloc_heap_new W _, by decide, by decide, rfl, rfl⟩⟩
set_option maxRecDepth 100000 in
set_option maxHeartbeats 4000000 in
theorem awake_any (m : Int) (w : World) (h0 : 4 < w.heap.size) (hm : w.cell? ⟨4, 0, none⟩ = some (.int .i64 m)) :
    Calls Tryz.prog 9 #[] w fun e w' => e = .returned (.bool true) ∧ Below w.heap.size w w' := by
  have HM := Lib.hid hm
  clear hm
  go_enter Tryz.func9, Tryz.ntmps9
  go_wp2_with (first
    | (go_at_call 25; refine (lines_ex _).mono ?_; rintro e w1 ⟨g1, cap1, rfl, hB, ho1⟩)
    | (go_at_call 23; refine (tokens_ex g1 cap1 _ m _ (Nat.lt_of_lt_of_le h0 hB.size) ((hB.cell (p := ⟨4, 0, none⟩) h0).trans HM.out) ho1).mono ?_; rintro e w2 ⟨g2, cap2, rfl, hb2, ho2⟩; replace ho1 := ho1.kept (grown_none hb2) (Classical.em _); replace hB := hB.trans (hb2.mono hB.size); clear hb2))
  refine (sameTexts_any exL exL _ _ _ (ReadsT.of_row ((ho1.alloc _).alloc _)) (reads_lit (by simp) exL 9) (by decide) (by decide)).mono ?_
  rintro e w3 ⟨rfl, hb3⟩
  rw [decide_eq_true rfl]
  have ho3 := ((ho2.alloc _).alloc _).kept (grown_none hb3) (Classical.em _)
  have hw3 := ((want_row (W := w2) rfl).alloc _).kept (grown_none hb3) (Classical.em _)
  have hB3 : Below w.heap.size w w3 := ((hB.alloc hB.size _).alloc (by have := hB.size; simp; omega) _).trans (hb3.mono (by have := hB.size; simp; omega))
  clear ho1 ho2 hb3
  go_wp2_with fail
  refine (same_true exK g2 w2.heap.size cap2 4 _ 0 _ (by decide) ho3 hw3).mono ?_
  rintro e w4 ⟨rfl, hb4⟩
  have hB4 := hB3.trans (hb4.mono hB3.size)
  clear hB3 hb4 hw3 ho3 hB
  go_wp2_with fail
  go_loopw [55] (fun i wr => ∃ k : Nat, k ≤ 7 ∧ i = .int .i64 k ∧ Below w.heap.size w wr ∧ wr.heap[w4.heap.size]? = some (.cells wordsC 9 (0, 0))) (fun i _ => 7 - (intOf i).toNat)
  case atStart => exact ⟨0, Nat.zero_le _, rfl, hB4.alloc hB4.size _, World.alloc_heap_new w4 _⟩
  case round =>
    clear hB4
    obtain ⟨k, hk, rfl, hB, hblk⟩ := hrel
    have hbl := (Array.getElem?_eq_some_iff.1 hblk).1
    by_cases h7 : k = 7
    · subst h7
      clear hblk hbl
      go_wp2_with fail
      refine (number_ev ev_n1 (by decide) _).mono ?_
      rintro e w6 ⟨rfl, hb6⟩
      replace hB := hB.trans (hb6.mono hB.size)
      clear hb6
      go_wp2_with fail
      refine (number_ev ev_n2 (by decide) _).mono ?_
      rintro e w7 ⟨rfl, hb7⟩
      replace hB := hB.trans (hb7.mono hB.size)
      clear hb7
      go_wp2_with fail
      refine (number_ev ev_n3 (by decide) _).mono ?_
      rintro e w8 ⟨rfl, hb8⟩
      replace hB := hB.trans (hb8.mono hB.size)
      clear hb8
      go_wp2_with fail
      refine (code_ev ev_c1 (by decide) _).mono ?_
      rintro e w9 ⟨rfl, hb9⟩
      replace hB := hB.trans (hb9.mono hB.size)
      clear hb9
      go_wp2_with fail
      refine (code_ev ev_c2 (by decide) _).mono ?_
      rintro e w10 ⟨rfl, hb10⟩
      replace hB := hB.trans (hb10.mono hB.size)
      clear hb10
      go_wp2_with fail
      go_ret
      exact ⟨rfl, hB⟩
    · have hk7 : k < 7 := by omega
      have hcase : k = 0 ∨ k = 1 ∨ k = 2 ∨ k = 3 ∨ k = 4 ∨ k = 5 ∨ k = 6 := by omega
      clear h7 hk hk7
      rcases hcase with rfl | rfl | rfl | rfl | rfl | rfl | rfl
      · have c1 : wr.cell? ⟨w4.heap.size, 0, none⟩ = some (.string ⟨#[49, 50, 51, 52, 53]⟩) := (cell_of_row wr _ 0 _ _ _ hblk).trans rfl
        go_wp2_with fail
        go_region_with (go_at_call 21; refine (classes_any _ _ (by decide)).mono ?_; rintro e w5 ⟨rfl, hb5⟩; obtain ⟨hc5, hz5⟩ := cells_kept hb5; rw [ev_k0])
        all_goals go_wp2_with fail
        · exact ⟨⟨1, by decide, rfl, aw_A hB hblk hb5⟩, by decide⟩
        · exact ⟨⟨1, by decide, rfl, aw_B hB hblk hb5⟩, by decide⟩
        · exact ⟨⟨1, by decide, rfl, aw_B hB hblk hb5⟩, by decide⟩
      · have c1 : wr.cell? ⟨w4.heap.size, 1, none⟩ = some (.string ⟨#[48, 49, 50, 51, 52]⟩) := (cell_of_row wr _ 1 _ _ _ hblk).trans rfl
        go_wp2_with fail
        go_region_with (go_at_call 21; refine (classes_any _ _ (by decide)).mono ?_; rintro e w5 ⟨rfl, hb5⟩; obtain ⟨hc5, hz5⟩ := cells_kept hb5; rw [ev_k1])
        all_goals go_wp2_with fail
        · exact ⟨⟨2, by decide, rfl, aw_A hB hblk hb5⟩, by decide⟩
        · exact ⟨⟨2, by decide, rfl, aw_B hB hblk hb5⟩, by decide⟩
        · exact ⟨⟨2, by decide, rfl, aw_B hB hblk hb5⟩, by decide⟩
      · have c1 : wr.cell? ⟨w4.heap.size, 2, none⟩ = some (.string ⟨#[49, 50, 51, 52]⟩) := (cell_of_row wr _ 2 _ _ _ hblk).trans rfl
        go_wp2_with fail
        go_region_with (go_at_call 21; refine (classes_any _ _ (by decide)).mono ?_; rintro e w5 ⟨rfl, hb5⟩; obtain ⟨hc5, hz5⟩ := cells_kept hb5; rw [ev_k2])
        all_goals go_wp2_with fail
        · exact ⟨⟨3, by decide, rfl, aw_A hB hblk hb5⟩, by decide⟩
        · exact ⟨⟨3, by decide, rfl, aw_B hB hblk hb5⟩, by decide⟩
        · exact ⟨⟨3, by decide, rfl, aw_B hB hblk hb5⟩, by decide⟩
      · have c1 : wr.cell? ⟨w4.heap.size, 3, none⟩ = some (.string ⟨#[75, 49, 65]⟩) := (cell_of_row wr _ 3 _ _ _ hblk).trans rfl
        go_wp2_with fail
        go_region_with (go_at_call 21; refine (classes_any _ _ (by decide)).mono ?_; rintro e w5 ⟨rfl, hb5⟩; obtain ⟨hc5, hz5⟩ := cells_kept hb5; rw [ev_k3])
        all_goals go_wp2_with fail
        · exact ⟨⟨4, by decide, rfl, aw_A hB hblk hb5⟩, by decide⟩
        · exact ⟨⟨4, by decide, rfl, aw_B hB hblk hb5⟩, by decide⟩
        · exact ⟨⟨4, by decide, rfl, aw_B hB hblk hb5⟩, by decide⟩
      · have c1 : wr.cell? ⟨w4.heap.size, 4, none⟩ = some (.string ⟨#[49, 47, 50]⟩) := (cell_of_row wr _ 4 _ _ _ hblk).trans rfl
        go_wp2_with fail
        go_region_with (go_at_call 21; refine (classes_any _ _ (by decide)).mono ?_; rintro e w5 ⟨rfl, hb5⟩; obtain ⟨hc5, hz5⟩ := cells_kept hb5; rw [ev_k4])
        all_goals go_wp2_with fail
        · exact ⟨⟨5, by decide, rfl, aw_A hB hblk hb5⟩, by decide⟩
        · exact ⟨⟨5, by decide, rfl, aw_B hB hblk hb5⟩, by decide⟩
        · exact ⟨⟨5, by decide, rfl, aw_B hB hblk hb5⟩, by decide⟩
      · have c1 : wr.cell? ⟨w4.heap.size, 5, none⟩ = some (.string ⟨#[45]⟩) := (cell_of_row wr _ 5 _ _ _ hblk).trans rfl
        go_wp2_with fail
        go_region_with (go_at_call 21; refine (classes_any _ _ (by decide)).mono ?_; rintro e w5 ⟨rfl, hb5⟩; obtain ⟨hc5, hz5⟩ := cells_kept hb5; rw [ev_k5])
        all_goals go_wp2_with fail
        · exact ⟨⟨6, by decide, rfl, aw_A hB hblk hb5⟩, by decide⟩
        · exact ⟨⟨6, by decide, rfl, aw_B hB hblk hb5⟩, by decide⟩
        · exact ⟨⟨6, by decide, rfl, aw_B hB hblk hb5⟩, by decide⟩
      · have c1 : wr.cell? ⟨w4.heap.size, 6, none⟩ = some (.string ⟨#[65, 45, 66]⟩) := (cell_of_row wr _ 6 _ _ _ hblk).trans rfl
        go_wp2_with fail
        go_region_with (go_at_call 21; refine (classes_any _ _ (by decide)).mono ?_; rintro e w5 ⟨rfl, hb5⟩; obtain ⟨hc5, hz5⟩ := cells_kept hb5; rw [ev_k6])
        all_goals go_wp2_with fail
        · exact ⟨⟨7, by decide, rfl, aw_A hB hblk hb5⟩, by decide⟩
        · exact ⟨⟨7, by decide, rfl, aw_B hB hblk hb5⟩, by decide⟩
        · exact ⟨⟨7, by decide, rfl, aw_B hB hblk hb5⟩, by decide⟩
end Go.Proofs.YtdcpmnkebhilpaaGreatDoor
