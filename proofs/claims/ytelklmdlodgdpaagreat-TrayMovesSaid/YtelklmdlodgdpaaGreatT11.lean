/-
  letterbaglaw26.example.
-/
import Derived.Test.YtelklmdlodgdpaaGreatT10
import Derived.Test.YtelklmdlodgdpaaGreatWT
import Derived.BigRegion
namespace Go.Proofs.YtelklmdlodgdpaaGreat
open Go.RowKit Go.Sort
set_option linter.unusedVariables false
set_option maxRecDepth 100000
theorem OwnsP.form {w : World} {base : Nat} {v : Value} {ps : List Pce} (h : OwnsP w base v ps) : ∃ a cap, v = .slice a ps.length cap := by
  rcases Joins.ownsRow_forms h with ⟨rfl, hp⟩ | ⟨g, cap, rfl⟩
  · exact ⟨none, 0, by rw [hp]⟩
  · exact ⟨_, cap, rfl⟩
theorem pCells_set (L : List Pce) (k j : Nat) (h : k < L.length) (hj : j < 5) (u : Value) (p' : Pce) (hp : pceC p' = (pceC L[k]).set j u) : (L.flatMap pceC).set (k * 5 + j) u = (L.set k p').flatMap pceC := by
  induction L generalizing k with
  | nil => simp at h
  | cons p r ih =>
    have hl : (pceC p).length = 5 := rfl
    cases k with
    | zero =>
      rw [List.flatMap_cons, Nat.zero_mul, Nat.zero_add, List.set_append_left _ _ (by omega), List.set_cons_zero, List.flatMap_cons, hp]
      rfl
    | succ k =>
      rw [List.flatMap_cons, List.set_append_right _ _ (by rw [hl]; omega), hl, show (k + 1) * 5 + j - 5 = k * 5 + j by omega, ih k (by simpa using h) hp]
      rfl
theorem OwnsP.put {w : World} {base g cap n : Nat} {ps : List Pce} (h : OwnsP w base (.slice (some ⟨g, 0, none⟩) n cap) ps) (i j : Nat) (hi : i < ps.length) (hj : j < 5) (p' : Pce) (u : Value) (hu : pceC p' = (pceC ps[i]).set j u) :
    OwnsP (w.setCell ⟨g, i * 5 + j, none⟩ u) base (.slice (some ⟨g, 0, none⟩) n cap) (ps.set i p') := by
  obtain ⟨_, _, e⟩ := h.form
  injection e with _ e _
  subst e
  have h' : w.ownsRow base 45 5 (.slice (some ⟨g, 0, none⟩) ps.length cap) ps.length (ps.flatMap pceC) := h
  have hst := (h'.stored (i * 5 + j) u).1
  unfold OwnsP
  rw [List.length_set, ← pCells_set ps i j hi hj u p' hu]
  exact hst
theorem OwnsP.at {w : World} {base g cap n : Nat} {ps : List Pce} (h : OwnsP w base (.slice (some ⟨g, 0, none⟩) n cap) ps) (i j : Nat) (hi : i < ps.length) (hj : j < 5) : w.cell? ⟨g, i * 5 + j, none⟩ = (pceC ps[i])[j]? ∧ w.frozen? ⟨g, i * 5 + j, none⟩ = false ∧ base ≤ g ∧ g < w.heap.size := by
  obtain ⟨_, _, e⟩ := h.form
  injection e with _ e _
  subst e
  have h' : w.ownsRow base 45 5 (.slice (some ⟨g, 0, none⟩) ps.length cap) ps.length (ps.flatMap pceC) := h
  exact ⟨by rw [h'.cellAt (i * 5 + j) (by omega), flat_pce ps i j hi hj], h'.frozenAt _, h'.lt g rfl⟩
def exCs : List ByteArray := [c100, c100, c200, c100]
def exPs (k : Nat) : List Pce := (List.range 4).map (fun i => if i < k then ⟨1 + (i : Int), 0, exCs.getD i ⟨#[]⟩, 10, false⟩ else mailP i (exCs.getD i ⟨#[]⟩))
theorem exPs_at {k : Nat} (h : k < 4) : (exPs k)[k]'(by simpa [exPs] using h) = mailP k (exCs.getD k ⟨#[]⟩) := by simp [exPs]
theorem exPs_succ {k : Nat} (h : k < 4) : exPs (k + 1) = (exPs k).set k ⟨1 + (k : Int), 0, exCs.getD k ⟨#[]⟩, 10, false⟩ := by
  have : k = 0 ∨ k = 1 ∨ k = 2 ∨ k = 3 := by omega
  rcases this with rfl | rfl | rfl | rfl <;> rfl
theorem exPs_end : exPs 4 = exMl.ps := rfl
theorem exPs_len (k : Nat) : (exPs k).length = 4 := by simp [exPs]
abbrev sets4x (w : World) (g : Nat) (a b c d : Value) : World := (((w.setCell ⟨g, 0, none⟩ a).setCell ⟨g, 1, none⟩ b).setCell ⟨g, 2, none⟩ c).setCell ⟨g, 3, none⟩ d
def exO : Obj := .cells #[.string ⟨#[51]⟩, .int .i64 3, .slice none 0 0, .int .i64 1, .int .i64 0, .string ⟨#[97, 108, 108]⟩, .int .i64 0, .slice none 0 0, .int .i64 0, .int .i64 0] 102
theorem exS_reads {W : World} {g : Nat} (hg : W.heap[g]? = some exO) : RdLevs W (.slice (some ⟨g, 0, none⟩) 2 2) exS := by
  have hgl := (Array.getElem?_eq_some_iff.1 hg).1
  have cg : ∀ j, W.cell? ⟨g, j, none⟩ = _ := fun j => cell_of_row W g j _ _ _ hg
  refine ⟨_, 2, rfl, fun _ => ⟨g, 0, rfl, hgl, fun i hi => ?_⟩⟩
  have h3 : i = 0 ∨ i = 1 := by have : i < 2 := hi
                                omega
  rcases h3 with rfl | rfl
  · exact ⟨.slice none 0 0, rd_nil W, cg 0, cg 1, cg 2, cg 3, cg 4⟩
  · exact ⟨.slice none 0 0, rd_nil W, cg 5, cg 6, cg 7, cg 8, cg 9⟩
theorem results_tmp_cell {fn : Func} {p u : Tmp} {ty : TypeId} (h : fn.results = #[.tmp u, .cell p ty]) (tmps : Array Value) (w : World) (g : Nat) (x : Value)
    (hp : tmps.getD p undef = .pointer (some ⟨g, 0, none⟩)) (hL : (loadVar ty ⟨g, 0, none⟩).run Tryz.prog w = .ok x w) : (results fn tmps).run Tryz.prog w = .ok (.tuple #[tmps.getD u undef, x]) w := by
  have hp' : tmps[p]?.getD undef = .pointer (some ⟨g, 0, none⟩) := by simpa using hp
  simp [results, h, hp', asAddr, hL, Result.andThen]
theorem own_some {w : World} {base n : Nat} {v : Value} {ps : List Pce} (h : OwnsP w base v ps) (hn : ps.length = n) (h0 : 0 < n) : ∃ g cap, v = .slice (some ⟨g, 0, none⟩) n cap ∧ base ≤ g ∧ g < w.heap.size := by
  have h' : w.ownsRow base 45 5 v ps.length (ps.flatMap pceC) := h
  rcases Joins.ownsRow_forms h' with ⟨_, hp⟩ | ⟨g, cap, rfl⟩
  · omega
  · exact ⟨g, cap, by rw [hn], h'.lt g rfl⟩
theorem cells4e {w : World} {g : Nat} {a b c d : Value} {t : TypeId} (h : w.heap[g]? = some (.cells #[a, b, c, d] t (0, 0))) :
    w.cell? ⟨g, 0, none⟩ = some a ∧ w.cell? ⟨g, 1, none⟩ = some b ∧ w.cell? ⟨g, 2, none⟩ = some c ∧ w.cell? ⟨g, 3, none⟩ = some d ∧ w.frozen? ⟨g, 0, none⟩ = false ∧ w.frozen? ⟨g, 1, none⟩ = false ∧ w.frozen? ⟨g, 2, none⟩ = false ∧ w.frozen? ⟨g, 3, none⟩ = false :=
  ⟨cell_of_row _ _ 0 _ _ _ h, cell_of_row _ _ 1 _ _ _ h, cell_of_row _ _ 2 _ _ _ h, cell_of_row _ _ 3 _ _ _ h, by simp [World.frozen?, h], by simp [World.frozen?, h], by simp [World.frozen?, h], by simp [World.frozen?, h]⟩
set_option maxHeartbeats 8000000 in
theorem example26_any (w : World) : Calls Tryz.prog 17 #[] w fun e w' => ∃ vl vp, e = .returned (.tuple #[vl, maiV exMl vp]) ∧ Below w.heap.size w w' ∧ RdLevs w' vl exS ∧ RdPces w' vp exMl.ps := by
  have HML : Hid (∀ W u, ReadsT W u exCs → Calls Tryz.prog 42 #[u] W fun e w' => ∃ g cp, e = .returned (.agg #[.int .u8 1, .int .u8 1, .string ⟨#[49, 48, 48, 48, 48]⟩, .slice (some ⟨g, 0, none⟩) 4 cp]) ∧ Below W.heap.size W w' ∧ OwnsP w' W.heap.size (.slice (some ⟨g, 0, none⟩) 4 cp) (exPs 0) ∧ W.heap.size ≤ g ∧ g < w'.heap.size) := by
    intro W u hu
    refine (mail_any exCs u W hu (by decide)).mono ?_
    rintro e w1 ⟨vp, rfl, hb1, ho1⟩
    obtain ⟨g, cp, rfl, hg1, hg2⟩ := own_some ho1 (n := 4) rfl (by decide)
    exact ⟨g, cp, rfl, hb1, ho1, hg1, hg2⟩
  go_enter Tryz.func17, Tryz.ntmps17
  go_wp2_with (go_at_call 42; refine (HML.out _ _ (rd_texts (T := 9) exCs (n := w.heap.size + 1) (by have := alloc_new (w.alloc (.cells #[.int .u8 0, .int .u8 0, .string ⟨#[]⟩, .slice none 0 0] 29)) (.cells #[.string ⟨#[49, 48, 48]⟩, .string ⟨#[49, 48, 48]⟩, .string ⟨#[50, 48, 48]⟩, .string ⟨#[49, 48, 48]⟩] 9); rw [World.size_alloc] at this; exact this))).mono ?_; rintro e w1 ⟨g, cp, rfl, hb1, ho1, hg1, hg2⟩)
  obtain ⟨w0, hw0⟩ : ∃ w0, w0 = (w.alloc (.cells #[.int .u8 0, .int .u8 0, .string ⟨#[]⟩, .slice none 0 0] 29)).alloc (.cells #[.string ⟨#[49, 48, 48]⟩, .string ⟨#[49, 48, 48]⟩, .string ⟨#[50, 48, 48]⟩, .string ⟨#[49, 48, 48]⟩] 9) := ⟨_, rfl⟩
  rw [← hw0] at hb1 ho1 hg1
  obtain ⟨k1, _, k3, k4⟩ := boxes2 hw0
  have hz1 := hb1.size
  have hm1 : w1.heap[w.heap.size]? = _ := (hb1.block _ (by omega)).trans k1
  have hb2 : Below w.heap.size w w1 := k4.trans (hb1.mono k4.size)
  rw [k3] at hg1 ho1 hz1
  clear hb1 hw0 k1 k3 k4
  have HO1 := Lib.hid ho1
  clear ho1
  go_loopw [9] (fun i wr => ∃ k : Nat, k ≤ 4 ∧ i = .int .i64 k ∧ Below w.heap.size w wr ∧ w1.heap.size + 1 ≤ wr.heap.size ∧ wr.heap[w.heap.size]? = some (.cells #[.int .u8 0, .int .u8 0, .string ⟨#[]⟩, .slice none 0 0] 29 (0, 0)) ∧
    wr.heap[w1.heap.size]? = some (.cells #[.int .u8 1, .int .u8 1, .string ⟨#[49, 48, 48, 48, 48]⟩, .slice (some ⟨g, 0, none⟩) 4 cp] 29 (0, 0)) ∧ OwnsP wr (w.heap.size + 1) (.slice (some ⟨g, 0, none⟩) 4 cp) (exPs k)) (fun i _ => 4 - (intOf i).toNat)
  case atStart =>
    refine ⟨0, by omega, rfl, hb2.alloc hb2.size _, by simp, (Below.heap_alloc _ _ _ (by omega)).trans hm1, alloc_new w1 _, ?_⟩
    exact OwnsP.mono (row_belowT HO1.out ((Below.refl _ w1).alloc (Nat.le_refl _) _)) (by omega)
  case round =>
    obtain ⟨k, hk, rfl, hB, hz, h0, h1, hO⟩ := hrel
    have H0 := Lib.hid h0
    have H1 := Lib.hid h1
    have HO := Lib.hid hO
    by_cases hlt : k < 4
    · obtain ⟨q1, q2, q3, q4⟩ := OwnsP.at hO k 3 (by rw [exPs_len]; exact hlt) (by decide)
      have hput := OwnsP.put hO k 3 (by rw [exPs_len]; exact hlt) (by decide) ⟨1 + (k : Int), 0, exCs.getD k ⟨#[]⟩, 10, false⟩ (.int .i64 10) (by rw [exPs_at hlt]; rfl)
      rw [← exPs_succ hlt] at hput
      rw [exPs_at hlt] at q1
      obtain ⟨b0, b1, b2, b3, _, _, _, _⟩ := cells4e h1
      have q1' : wr.cell? ⟨g, k * 5 + 3, none⟩ = some (.int .i64 (1 + (k : Int) % 20)) := q1
      clear h0 h1 hO q1
      have HPU := Lib.hid hput
      clear hput
      go_wp2_with fail
      go_roundw
      case rel =>
        refine ⟨k + 1, by omega, by go_num, hB.setCell (p := ⟨g, k * 5 + 3, none⟩) (by show w.heap.size ≤ g; omega) _, by simp [World.setCell]; omega, (Below.heap_setCell _ _ _ _ (by show w.heap.size ≠ g; omega)).trans H0.out, (Below.heap_setCell _ _ _ _ (by show w1.heap.size ≠ g; omega)).trans H1.out, HPU.out⟩
      case measure => simp [intOf]; omega
    · obtain rfl : k = 4 := by omega
      have hlt1 : w.heap.size < wr.heap.size := (Array.getElem?_eq_some_iff.1 h0).1
      have hbx : Below wr.heap.size wr (wr.alloc exO) := (Below.refl _ wr).alloc (Nat.le_refl _) _
      obtain ⟨z0, z1, z2, z3, y0, y1, y2, y3⟩ := cells4e ((hbx.block _ hlt1).trans h0)
      obtain ⟨b0, b1, b2, b3, _, _, _, _⟩ := cells4e ((hbx.block _ (by omega)).trans h1)
      obtain ⟨c0, c1, c2, c3, d0, d1, d2, d3⟩ := cells4e h0
      obtain ⟨e0, e1, e2, e3, _, _, _, _⟩ := cells4e h1
      unfold exO at z0 z1 z2 z3 y0 y1 y2 y3 b0 b1 b2 b3
      clear h0 h1 hO hbx hlt
      go_upto_region 7 with fail
      go_region
      go_wp2_with fail
      obtain ⟨wf, hwf⟩ : ∃ wf, wf = sets4x wr w.heap.size (.int .u8 1) (.int .u8 1) (.string ⟨#[49, 48, 48, 48, 48]⟩) (.slice (some ⟨g, 0, none⟩) 4 cp) := ⟨_, rfl⟩
      have hf0 : wf.heap[w.heap.size]? = some (.cells #[.int .u8 1, .int .u8 1, .string ⟨#[49, 48, 48, 48, 48]⟩, .slice (some ⟨g, 0, none⟩) 4 cp] 29 (0, 0)) := by rw [hwf]; exact set4 H0.out
      have hfz : wf.heap.size = wr.heap.size := by rw [hwf]; simp [sets4x, World.setCell]
      have hfb : Below w.heap.size w wf := by
        rw [hwf]
        exact (((hB.setCell (p := ⟨w.heap.size, 0, none⟩) (Nat.le_refl _) _).setCell (p := ⟨w.heap.size, 1, none⟩) (Nat.le_refl _) _).setCell (p := ⟨w.heap.size, 2, none⟩) (Nat.le_refl _) _).setCell (p := ⟨w.heap.size, 3, none⟩) (Nat.le_refl _) _
      have hfo : OwnsP wf (w.heap.size + 1) (.slice (some ⟨g, 0, none⟩) 4 cp) exMl.ps := by
        rw [hwf, ← exPs_end]
        exact own_set4 HO.out (Nat.lt_succ_self _) _ _ _ _
      have hff : Below wf.heap.size wf ((wf.alloc exO).drew) := ((Below.refl _ wf).alloc (Nat.le_refl _) _).drew
      have hg0 : (wf.alloc exO).drew.heap[wr.heap.size]? = some exO := by rw [← hfz]; exact alloc_new wf exO
      have hall : (((((wr.setCell ⟨w.heap.size, 0, none⟩ (.int .u8 1)).setCell ⟨w.heap.size, 1, none⟩ (.int .u8 1)).setCell ⟨w.heap.size, 2, none⟩ (.string ⟨#[49, 48, 48, 48, 48]⟩)).setCell ⟨w.heap.size, 3, none⟩ (.slice (some ⟨g, 0, none⟩) 4 cp)).alloc exO).drew = (wf.alloc exO).drew := by rw [hwf]
      refine bodyPost_ret (results_tmp_cell rfl _ _ w.heap.size _ rfl (run_loadVar_row _ _ _ _ _ _ _ (((hall ▸ (hff.block _ (by omega)).trans hf0))) Tryz.underlying29 rfl (by kernel_rfl))) rfl ?_
      refine ⟨_, .slice (some ⟨g, 0, none⟩) 4 cp, rfl, ?_, ?_, ?_⟩
      · exact hall ▸ (hfb.trans (hff.mono hfb.size))
      · exact hall ▸ exS_reads hg0
      · exact hall ▸ RdPces.below (RdPces.of_owns hfo) hff
end Go.Proofs.YtelklmdlodgdpaaGreat
