/-
  Contract of lex.Tokens: without lines.
-/
import Derived.Test.YtdcpmnkebhilpaaGreatDoorTo3
namespace Go.Proofs.YtdcpmnkebhilpaaGreatDoor
open Go.RowKit Go.Shelf
attribute [local go_sem] Oper.semAt_some
set_option linter.unusedVariables false
theorem toks_start_nil {base : Nat} {m : Int} {w wr W0 : World} (h0 : 4 < w.heap.size) (hm : w.cell? ⟨4, 0, none⟩ = some (.int .i64 m))
    (ho : w.ownsRow base 9 1 (.slice none 0 0) ([] : List ByteArray).length (([] : List ByteArray).map Value.string)) (hb : Below w.heap.size w wr) (hrb : RBoxes w.heap.size (.slice none 0 0) 0 wr) (hz : w.heap.size + 2 ≤ wr.heap.size)
    (hW : W0 = (wr.alloc (.cells #[.slice none 0 0] 42)).alloc (.cells #[.slice none 0 0] 26)) :
    W0.heap.size = wr.heap.size + 2 ∧ TokI w.heap.size wr.heap.size w [] W0 ∧ WordsR (wr.heap.size + 1) m (.slice none 0 0) base [] W0 := by
  have hbb : Below wr.heap.size wr W0 := by rw [hW]; exact ((Below.refl _ _).alloc (Nat.le_refl _) _).alloc (by simp) _
  have hbw : Below w.heap.size w W0 := hb.trans (hbb.mono (by omega))
  have hsz : W0.heap.size = wr.heap.size + 2 := by rw [hW]; simp
  refine ⟨hsz, ⟨.slice none 0 0, ?_, World.ownsRow_nil _ _ _ _, hrb.keep (grown_none hbb) (fun _ e => by cases e), Nat.zero_le _, hbw, hz, by omega⟩, ?_, ?_, ?_, by omega⟩
  · rw [hW]; exact (box_at rfl).alloc _
  · rw [hW]; exact box_at (by simp)
  · exact ho.kept (grown_none hbw) (Classical.em _)
  · exact (hbw.cell (p := ⟨4, 0, none⟩) h0).trans hm
set_option maxRecDepth 100000 in
set_option maxHeartbeats 4000000 in
theorem tokens_nil (m : Int) (w : World) (h0 : 4 < w.heap.size) (hm : w.cell? ⟨4, 0, none⟩ = some (.int .i64 m)) : Calls Tryz.prog 23 #[.slice none 0 0] w (TokPost [] w) := by
  obtain ⟨i0, hi⟩ := info_parts Tryz.infoT
  have HI := Lib.hid hi
  clear hi
  have HM := Lib.hid hm
  clear hm
  refine (callsIn_wide (n := 0)).1 ?_
  refine callsIn_of_wp_marks Tryz.func23 rfl trivial ?_ rfl
  simp only [Tryz.ntmps23, List.size_toArray, List.length_cons, List.length_nil, Nat.reduceAdd, Nat.reduceSub, Array.replicate_succ, Array.replicate_zero, List.push_toArray, List.append_toArray, List.nil_append, List.cons_append]
  gi_wp2_with fail
  gi_loopw [15] (fun i wr => TokW w wr ∧ i = .int .i64 0) (fun i _ => 0)
  case atStart => exact ⟨rfl, rfl⟩
  case round =>
    obtain ⟨hwr, rfl⟩ := hrel
    obtain rfl : wr = _ := hwr
    · gi_wp2_with fail
      obtain ⟨W2, hW2⟩ : ∃ W2, W2 = (w.alloc (.cells #[.slice none 0 0] 42)).alloc (.cells #[.int .i64 0] 43) := ⟨_, rfl⟩
      have hb2 : Below w.heap.size w W2 := by rw [hW2]; exact ((Below.refl _ w).alloc (Nat.le_refl _) _).alloc (by simp) _
      have hrb : RBoxes w.heap.size (.slice none 0 0) 0 W2 := by rw [hW2]; exact ⟨(box_at rfl).alloc _, box_at (by simp)⟩
      have hz2 : w.heap.size + 2 ≤ W2.heap.size := by rw [hW2]; simp
      rw [← hW2]
      clear hW2
      gi_loopw [25] (fun i wr => i = .int .i64 0 ∧ Below w.heap.size w wr ∧ RBoxes w.heap.size (.slice none 0 0) 0 wr ∧ w.heap.size + 2 ≤ wr.heap.size) (fun i _ => 0)
      case atStart => exact ⟨rfl, hb2, hrb, hz2⟩
      case round =>
        clear hb2 hrb hz2
        obtain ⟨rfl, hb, hrb, hz⟩ := hrel
        · gi_wp2_with (refine ⟨trivial, rfl, ?_⟩; gi_at_call 60; refine (callsIn_wide.2 (words3_any _ _ _ _)).mono ?_; rintro e w1 ⟨rfl, rfl⟩)
          obtain ⟨W0, hW0⟩ : ∃ W0, W0 = (wr.alloc (.cells #[.slice none 0 0] 42)).alloc (.cells #[.slice none 0 0] 26) := ⟨_, rfl⟩
          obtain ⟨hz0, hI0, hWR⟩ := toks_start_nil (base := 0) h0 HM.out (World.ownsRow_nil _ _ _ _) hb hrb hz hW0
          rw [← hW0]
          clear hW0
          generalize hB8 : wr.heap.size = B8 at hz hz0 hI0 hWR ⊢
          clear hB8 hrb
          generalize hb0 : w.heap.size = b0 at h0 hb hz hI0 ⊢
          have HB0 := Lib.hid hb0
          clear hb0
          have h00 : 4 < b0 := h0
          refine wpIn_rangeFunc_box (gf := 82) (lb := #[.pointer (some ⟨B8 + 1, 0, none⟩)]) rfl Tryz.call82 (Bs := B8 + 1) (by omega)
            (words_stops (B8 + 1) m _ 0 [] W0 (by simp) (fun s hs => by cases hs) hWR)
            (fun h k => h.trans k) (fun W l o o' hl hW hc => KpT.put hl hW hc (by omega)) (fun _ => rfl)
            (TokI b0 B8 w) (TokX b0 B8 w)
            (fun s A B row h hg hr => h.keep hg (fun r e => by obtain ⟨h1, h2⟩ := hr r e; exact ⟨by omega, .inr h2⟩))
            (fun c s A B row h hg hr => h.keep hg (fun r e => by obtain ⟨h1, h2⟩ := hr r e; omega))
            (fun s A B row h hg hr => h.keep hg (fun r e => by have := hr r e; exact ⟨by omega, .inl (by omega)⟩))
            (fun c s A B row h hg hr => h.keep hg (fun r e => by have := hr r e; omega))
            hI0
            (fun x a' W => ∃ Bx, Boxed4 W Bx x ∧ a' = { tmps := #[.slice none 0 0, undef, .pointer (some ⟨b0, 0, none⟩), .pointer (some ⟨b0 + 1, 0, none⟩), undef, u5, undef, u7, .pointer (some ⟨B8, 0, none⟩), .pointer (some ⟨Bx, 0, none⟩),
              .slice none 0 0, .int .i64 0, .bool false, .slice none 0 0, .int .i64 0, .int .i64 0, .bool false, u17, u18, u19, u20, u21, u22,
              .slice none 0 0, .int .i64 0, .int .i64 0, .bool false, u27, u28, u29, u30, u31, u32, u33, u34, u35, u36, .slice none 0 0,
              .func (.func 82) #[] #[.pointer (some ⟨B8 + 1, 0, none⟩)], .agg (tokV x), undef, undef, undef, undef, undef, undef, undef, undef], defers := [] })
            (fun x a' s A B row h hg hr => by obtain ⟨Bx, h1, h2⟩ := h; exact ⟨Bx, h1.keep hg (fun r e => (hr r e).2), h2⟩) ?assign ?body ?done ?stop
          case assign =>
            rintro l pre ⟨wd, n, at_⟩ W K hi hK
            have hzW : 4 < W.heap.size := by obtain ⟨_, _, _, _, _, _, _, h⟩ := hi; omega
            dsimp only [tokV]
            gi_wp2
            exact hK _ _ ((KeepsOthers.alloc _ _).from _) (KpT.alloc hzW _) (hi.keep (World.grownBy_alloc W _ none) (fun _ e => by cases e)) ⟨W.heap.size, World.alloc_heap_new W _, rfl⟩
          case body =>
            rintro l pre ⟨wd, n, at_⟩ a' W hI ⟨Bx, hBx, rfl⟩
            obtain ⟨v, hv, hown, hrb, hlen, hbel, hz1, hz2⟩ := hI
            have c1 := hv.cell
            have c2 := hv.frozen
            have d1 := hrb.1.cell
            have d2 := hrb.1.frozen
            have d3 := hrb.2.cell
            have d4 := hrb.2.frozen
            by_cases h40 : pre.length = 40
            · have HP := Lib.hid h40
              rw [h40] at hown
              obtain ⟨g3, cap3, rfl⟩ := Joins.ownsRow_form hown (by omega)
              clear h40
              gi_wp2_with fail
              exact ⟨((KeepsOthers.setCell _ _ _).trans (KeepsOthers.setCell _ _ _)).from _, rfl, hrb.store, by have := HP.out; simp; omega,
                (hbel.setCell (p := ⟨b0, 0, none⟩) (Nat.le_refl _) _).setCell (p := ⟨b0 + 1, 0, none⟩) (by show b0 ≤ b0 + 1; omega) _, hz1, by simpa [World.setCell] using hz2⟩
            · have hlt40 : pre.length ≤ 39 := by omega
              have hne40 : ((pre.length : Int) == 40) = false := by rw [beq_eq_false_iff_ne]; omega
              have e0 : W.cell? ⟨Bx, 0, none⟩ = some (.string wd) := (cell_of_row W Bx 0 _ _ _ hBx).trans rfl
              have e1 : W.cell? ⟨Bx, 1, none⟩ = some (.int .i64 n) := (cell_of_row W Bx 1 _ _ _ hBx).trans rfl
              have e2 : W.cell? ⟨Bx, 2, none⟩ = some (.int .i64 at_) := (cell_of_row W Bx 2 _ _ _ hBx).trans rfl
              have e3 : W.cell? ⟨Bx, 3, none⟩ = some (.int .u16 (classesB wd)) := (cell_of_row W Bx 3 _ _ _ hBx).trans rfl
              clear h40 d1 d2 d3 d4
              rcases Joins.ownsRow_forms hown with ⟨rfl, hp0⟩ | ⟨g3, cap3, rfl⟩
              · have HP := Lib.hid hp0
                clear hp0
                gi_wp2_with (gi_at_builtin; refine wpListIn_append_own _ rfl _ _ 42 rfl (B8 + 2) 50 i0 (.agg #[.string ⟨#[]⟩, .int .i64 0, .int .i64 0, .int .u16 0]) 4 40 Tryz.underlying42 HI.out.1 HI.out.2.1 HI.out.2.2.1 HI.out.2.2.2 rfl (by decide) _ _ _ rfl (hown.alloc _) ⟨W.heap.size, 0, none⟩ 1 1 [.string wd, .int .i64 n, .int .i64 at_, .int .u16 (classesB wd)] rfl rfl (cells_new _ _ _) (by simp [Value.oneCell']) (by unfold maxLen; omega) (by omega) (by simp; omega) ?_; intro v' w2 hown2 hgrow2 _; have hv2 := (hv.alloc _).kept hgrow2 (fun e => by have := (hown.lt _ e.symm).1; omega); have f1 := hv2.cell; have f2 := hv2.frozen; obtain ⟨g', cap', rfl⟩ := ownsRow_succ hown2; clear e0 e1 e2 e3 c1 c2)
                exact tok_next hbel hz1 hz2 hrb hv hown hgrow2 hown2 hlt40 h00
              · gi_wp2_with (gi_at_builtin; refine wpListIn_append_own _ rfl _ _ 42 rfl (B8 + 2) 50 i0 (.agg #[.string ⟨#[]⟩, .int .i64 0, .int .i64 0, .int .u16 0]) 4 40 Tryz.underlying42 HI.out.1 HI.out.2.1 HI.out.2.2.1 HI.out.2.2.2 rfl (by decide) _ _ _ rfl (hown.alloc _) ⟨W.heap.size, 0, none⟩ 1 1 [.string wd, .int .i64 n, .int .i64 at_, .int .u16 (classesB wd)] rfl rfl (cells_new _ _ _) (by simp [Value.oneCell']) (by unfold maxLen; omega) (by omega) (by simp; omega) ?_; intro v' w2 hown2 hgrow2 _; have hv2 := (hv.alloc _).kept hgrow2 (fun e => by have := (hown.lt _ e.symm).1; omega); have f1 := hv2.cell; have f2 := hv2.frozen; obtain ⟨g', cap', rfl⟩ := ownsRow_succ hown2; clear e0 e1 e2 e3 c1 c2)
                exact tok_next hbel hz1 hz2 hrb hv hown hgrow2 hown2 hlt40 h00
          case done =>
            rintro D xs W hD hS hI hK
            obtain rfl : xs = toksFrom 0 [] := hS
            obtain ⟨v, hv, hown, hrb, hlen, hbel, hz1, hz2⟩ := hI
            have hR : tokensR [] = (toksFrom 0 [], 0) := by
              rw [tokensR_ok (ls := []) (by simp) (fun j hj => by simp at hj) (fun j hj => by simp at hj), if_neg (by omega)]
            have HR := Lib.hid hR
            have c1 := hv.cell
            have d1 := hrb.1.cell
            have d2 := hrb.1.frozen
            have d3 := hrb.2.cell
            have d4 := hrb.2.frozen
            clear hR
            generalize toksFrom 0 [] = T at hown hlen HR
            rcases Joins.ownsRow_forms hown with ⟨rfl, hp0⟩ | ⟨g3, cap3, rfl⟩
            · clear hp0
              gi_wp2_with fail
              refine ⟨by simp, .inl ⟨_, _, rfl, run_takeDeferred (set2_obj hK), ?_⟩⟩
              exact ⟨_, tok_results ((hrb.store).keep (grownBy_putObj' _ _ _) (fun r e => by cases e; omega)) rfl rfl, tok_fin HR.out hbel hz1 (by omega) hown hK HB0.out⟩
            · gi_wp2_with fail
              refine ⟨by simp, .inl ⟨_, _, rfl, run_takeDeferred (set2_obj hK), ?_⟩⟩
              exact ⟨_, tok_results ((hrb.store).keep (grownBy_putObj' _ _ _) (fun r e => by cases e; omega)) rfl rfl, tok_fin HR.out hbel hz1 (by omega) hown hK HB0.out⟩
          case stop =>
            rintro D c pre W hD hS hX hK
            obtain ⟨rfl, hrb, h40, hbel, hz1, hz2⟩ := hX
            have hR : tokensR [] = ([], 5) := by
              have : 40 < (toksFrom 0 []).length := Nat.lt_of_lt_of_le h40 hS.length_le
              rw [tokensR_ok (ls := []) (by simp) (fun j hj => by simp at hj) (fun j hj => by simp at hj), if_pos this]
            have HR := Lib.hid hR
            clear hR
            gi_wp2_with fail
            refine ⟨by simp, .inl ⟨_, _, rfl, run_takeDeferred hK, ?_⟩⟩
            exact ⟨_, tok_results (hrb.keep (grownBy_putObj' _ _ _) (fun r e => by cases e; omega)) rfl rfl, tokens_err HR.out (by rw [HB0.out]; exact hbel.grown (grownBy_putObj' _ _ _) (by omega) (fun k e => by cases e; omega))⟩
theorem tokens_any (ls : List ByteArray) (v : Value) (base : Nat) (m : Int) (w : World) (hls : ls.length ≤ 60000) (hsz : ∀ s ∈ ls, s.size ≤ maxLen) (h0 : 4 < w.heap.size) (hm : w.cell? ⟨4, 0, none⟩ = some (.int .i64 m))
    (ho : w.ownsRow base 9 1 v ls.length (ls.map Value.string)) : Calls Tryz.prog 23 #[v] w (TokPost ls w) := by
  rcases Joins.ownsRow_forms ho with ⟨rfl, hp⟩ | ⟨g, cap, rfl⟩
  · obtain rfl : ls = [] := List.length_eq_zero_iff.1 hp
    exact tokens_nil m w h0 hm
  by_cases h6 : 6 < ls.length
  · exact tokens_many ls _ cap w hls h6
  cases hl : longB ls
  · have hl' : ∀ j (hj : j < ls.length), ls[j].size ≤ 60 := fun j hj => by
      have := List.any_eq_false.1 hl ls[j] (List.getElem_mem hj)
      simpa using this
    cases hb : ls.any badB
    · exact tokens_go ls g cap base m w (by omega) hl' (fun j hj => by have := List.any_eq_false.1 hb ls[j] (List.getElem_mem hj); simpa using this) h0 hm ho
    · exact tokens_arg ls g cap base w (by omega) hl' hb ho
  · exact tokens_long ls g cap base w (by omega) hl hsz ho
end Go.Proofs.YtdcpmnkebhilpaaGreatDoor
