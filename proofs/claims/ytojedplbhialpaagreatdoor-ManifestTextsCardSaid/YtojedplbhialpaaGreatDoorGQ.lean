import Derived.Test.YtojedplbhialpaaGreatDoorGO
import Derived.Test.YtojedplbhialpaaGreatDoorGX
import Derived.Test.YtojedplbhialpaaGreatDoorMP
import Derived.Deep.RegionHeld3
import Derived.Deep.DeepCutAuto
import Derived.Deep.DrawnRows
import Derived.BigRegion
import Derived.Test.YtojedplbhialpaaGreatDoorGM
import Derived.Test.YtojedplbhialpaaGreatDoorGN
/-! M6 -/
namespace Go.Proofs.YtojedplbhialpaaGreatDoor
open Go.RowKit Go.Sort
set_option linter.unusedVariables false
set_option maxRecDepth 100000
theorem OwnsP.form {w : World} {base : Nat} {v : Value} {ps : List Pce} (h : OwnsP w base v ps) : ∃ a cap, v = .slice a ps.length cap := by
  rcases Joins.ownsRow_forms h with ⟨rfl, hp⟩ | ⟨g, cap, rfl⟩
  · exact ⟨none, 0, by rw [hp]⟩
  · exact ⟨_, cap, rfl⟩
theorem pCells_set (L : List Pce) (k j : Nat) (h : k < L.length) (hj : j < 5) (u : Value) (p' : Pce) (hp : pceC p' = (pceC L[k]).set j u) : (L.flatMap pceC).set (k * 5 + j) u = (L.set k p').flatMap pceC := by
  induction L generalizing k with
  | nil => simp at h
  | cons p r ih =>
    have hl : (pceC p).length = 5 := rfl
    cases k with
    | zero =>
      rw [List.flatMap_cons, Nat.zero_mul, Nat.zero_add, List.set_append_left _ _ (by omega), List.set_cons_zero, List.flatMap_cons, hp]
      rfl
    | succ k =>
      rw [List.flatMap_cons, List.set_append_right _ _ (by rw [hl]; omega), hl, show (k + 1) * 5 + j - 5 = k * 5 + j by omega, ih k (by simpa using h) hp]
      rfl
theorem OwnsP.put {w : World} {base g cap n : Nat} {ps : List Pce} (h : OwnsP w base (.slice (some ⟨g, 0, none⟩) n cap) ps) (i j : Nat) (hi : i < ps.length) (hj : j < 5) (p' : Pce) (u : Value) (hu : pceC p' = (pceC ps[i]).set j u) :
    OwnsP (w.setCell ⟨g, i * 5 + j, none⟩ u) base (.slice (some ⟨g, 0, none⟩) n cap) (ps.set i p') := by
  obtain ⟨_, _, e⟩ := h.form
  injection e with _ e _
  subst e
  have h' : w.ownsRow base 90 5 (.slice (some ⟨g, 0, none⟩) ps.length cap) ps.length (ps.flatMap pceC) := h
  have hst := (h'.stored (i * 5 + j) u).1
  unfold OwnsP
  rw [List.length_set, ← pCells_set ps i j hi hj u p' hu]
  exact hst
theorem OwnsP.at {w : World} {base g cap n : Nat} {ps : List Pce} (h : OwnsP w base (.slice (some ⟨g, 0, none⟩) n cap) ps) (i j : Nat) (hi : i < ps.length) (hj : j < 5) : w.cell? ⟨g, i * 5 + j, none⟩ = (pceC ps[i])[j]? ∧ w.frozen? ⟨g, i * 5 + j, none⟩ = false ∧ base ≤ g ∧ g < w.heap.size := by
  obtain ⟨_, _, e⟩ := h.form
  injection e with _ e _
  subst e
  have h' : w.ownsRow base 90 5 (.slice (some ⟨g, 0, none⟩) ps.length cap) ps.length (ps.flatMap pceC) := h
  exact ⟨by rw [h'.cellAt (i * 5 + j) (by omega), flat_pce ps i j hi hj], h'.frozenAt _, h'.lt g rfl⟩
def exCs : List ByteArray := [c100, c100, c200]
def exPs (k : Nat) : List Pce := (List.range 3).map (fun i => if i < k then ⟨1 + (i : Int), 0, exCs.getD i ⟨#[]⟩, 10, decide (i = 0)⟩ else mailP i (exCs.getD i ⟨#[]⟩))
theorem exPs_at {k : Nat} (h : k < 3) : (exPs k)[k]'(by simpa [exPs] using h) = mailP k (exCs.getD k ⟨#[]⟩) := by simp [exPs]
theorem exPs_succ {k : Nat} (h : k < 3) : exPs (k + 1) = (exPs k).set k ⟨1 + (k : Int), 0, exCs.getD k ⟨#[]⟩, 10, decide (k = 0)⟩ := by
  have : k = 0 ∨ k = 1 ∨ k = 2 := by omega
  rcases this with rfl | rfl | rfl <;> rfl
theorem exPs_end : exPs 3 = exMl.ps := rfl
theorem exPs_len (k : Nat) : (exPs k).length = 3 := by simp [exPs]
abbrev sets4x (w : World) (g : Nat) (a b c d : Value) : World := (((w.setCell ⟨g, 0, none⟩ a).setCell ⟨g, 1, none⟩ b).setCell ⟨g, 2, none⟩ c).setCell ⟨g, 3, none⟩ d
def exO : Obj := .cells #[.string ⟨#[51]⟩, .int .i64 3, .slice none 0 0, .int .i64 2, .int .i64 5, .string ⟨#[97, 108, 108]⟩, .int .i64 0, .slice none 0 0, .int .i64 0, .int .i64 0] 93
theorem exS_reads {W : World} {g : Nat} (hg : W.heap[g]? = some exO) : RdLevs W (.slice (some ⟨g, 0, none⟩) 2 2) exS := by
  have hgl := (Array.getElem?_eq_some_iff.1 hg).1
  have cg : ∀ j, W.cell? ⟨g, j, none⟩ = _ := fun j => cell_of_row W g j _ _ _ hg
  refine ⟨_, 2, rfl, fun _ => ⟨g, 0, rfl, hgl, fun i hi => ?_⟩⟩
  have h3 : i = 0 ∨ i = 1 := by have : i < 2 := hi
                                omega
  rcases h3 with rfl | rfl
  · exact ⟨.slice none 0 0, rd_nil W, cg 0, cg 1, cg 2, cg 3, cg 4⟩
  · exact ⟨.slice none 0 0, rd_nil W, cg 5, cg 6, cg 7, cg 8, cg 9⟩
theorem own_some {w : World} {base n : Nat} {v : Value} {ps : List Pce} (h : OwnsP w base v ps) (hn : ps.length = n) (h0 : 0 < n) : ∃ g cap, v = .slice (some ⟨g, 0, none⟩) n cap ∧ base ≤ g ∧ g < w.heap.size := by
  have h' : w.ownsRow base 90 5 v ps.length (ps.flatMap pceC) := h
  rcases Joins.ownsRow_forms h' with ⟨_, hp⟩ | ⟨g, cap, rfl⟩
  · omega
  · exact ⟨g, cap, by rw [hn], h'.lt g rfl⟩
theorem cells4e {w : World} {g : Nat} {a b c d : Value} {t : TypeId} (h : w.heap[g]? = some (.cells #[a, b, c, d] t (0, 0))) :
    w.cell? ⟨g, 0, none⟩ = some a ∧ w.cell? ⟨g, 1, none⟩ = some b ∧ w.cell? ⟨g, 2, none⟩ = some c ∧ w.cell? ⟨g, 3, none⟩ = some d ∧ w.frozen? ⟨g, 0, none⟩ = false ∧ w.frozen? ⟨g, 1, none⟩ = false ∧ w.frozen? ⟨g, 2, none⟩ = false ∧ w.frozen? ⟨g, 3, none⟩ = false :=
  ⟨cell_of_row _ _ 0 _ _ _ h, cell_of_row _ _ 1 _ _ _ h, cell_of_row _ _ 2 _ _ _ h, cell_of_row _ _ 3 _ _ _ h, by simp [World.frozen?, h], by simp [World.frozen?, h], by simp [World.frozen?, h], by simp [World.frozen?, h]⟩
theorem results_tcc {fn : Func} {p q u : Tmp} {ty tz : TypeId} (h : fn.results = #[.tmp u, .cell p ty, .cell q tz]) (tmps : Array Value) (w : World) (g g' : Nat) (x y : Value)
    (hp : tmps.getD p undef = .pointer (some ⟨g, 0, none⟩)) (hq : tmps.getD q undef = .pointer (some ⟨g', 0, none⟩)) (hL : (loadVar ty ⟨g, 0, none⟩).run Tryz.prog w = .ok x w) (hM : (loadVar tz ⟨g', 0, none⟩).run Tryz.prog w = .ok y w) :
    (results fn tmps).run Tryz.prog w = .ok (.tuple #[tmps.getD u undef, x, y]) w := by
  have hp' : tmps[p]?.getD undef = .pointer (some ⟨g, 0, none⟩) := by simpa using hp
  have hq' : tmps[q]?.getD undef = .pointer (some ⟨g', 0, none⟩) := by simpa using hq
  simp [results, h, hp', hq', asAddr, hL, hM, Result.andThen]
theorem sets4x_other {w : World} {g b : Nat} {a a1 a2 a3 : Value} (h : b ≠ g) : (sets4x w g a a1 a2 a3).heap[b]? = w.heap[b]? :=
  ((Below.heap_setCell _ _ _ _ h).trans (Below.heap_setCell _ _ _ _ h)).trans ((Below.heap_setCell _ _ _ _ h).trans (Below.heap_setCell _ _ _ _ h))
theorem sets4x_below {B : Nat} {w w' : World} {g : Nat} {a a1 a2 a3 : Value} (h : Below B w w') (hg : B ≤ g) : Below B w (sets4x w' g a a1 a2 a3) :=
  (((h.setCell (p := ⟨g, 0, none⟩) hg _).setCell (p := ⟨g, 1, none⟩) hg _).setCell (p := ⟨g, 2, none⟩) hg _).setCell (p := ⟨g, 3, none⟩) hg _
set_option maxHeartbeats 8000000 in
theorem example27_any (w : World) : Calls Tryz.prog 11 #[] w fun e w' => ∃ vl vp, e = .returned (.tuple #[vl, maiV exMl vp, pckV exK]) ∧ Below w.heap.size w w' ∧ RdLevs w' vl exS ∧ RdPces w' vp exMl.ps := by
  have HML : Hid (∀ W u, ReadsT W u exCs → Calls Tryz.prog 37 #[u] W fun e w' => ∃ g cp, e = .returned (.agg #[.int .u8 1, .int .u8 1, .string ⟨#[49, 48, 48, 48, 48]⟩, .slice (some ⟨g, 0, none⟩) 3 cp]) ∧ Below W.heap.size W w' ∧ OwnsP w' W.heap.size (.slice (some ⟨g, 0, none⟩) 3 cp) (exPs 0) ∧ W.heap.size ≤ g ∧ g < w'.heap.size) := by
    intro W u hu
    refine (mail_any exCs u W hu (by decide)).mono ?_
    rintro e w1 ⟨vp, rfl, hb1, ho1⟩
    obtain ⟨g, cp, rfl, hg1, hg2⟩ := own_some ho1 (n := 3) rfl (by decide)
    exact ⟨g, cp, rfl, hb1, ho1, hg1, hg2⟩
  obtain ⟨W0, hW0⟩ : ∃ W0, W0 = ((w.alloc (.cells #[.int .u8 0, .int .u8 0, .string ⟨#[]⟩, .slice none 0 0] 29)).alloc (.cells #[.int .i64 0, .int .i64 0, .int .i64 0, .int .i64 0] 32)).alloc (.cells #[.string ⟨#[49, 48, 48]⟩, .string ⟨#[49, 48, 48]⟩, .string ⟨#[50, 48, 48]⟩] 9) := ⟨_, rfl⟩
  obtain ⟨k1, k2, k3⟩ := boxes3 hW0
  have hz0 : W0.heap.size = w.heap.size + 3 := by rw [hW0, World.size_alloc, World.size_alloc, World.size_alloc]
  have hb0 : Below w.heap.size w W0 := by
    rw [hW0]
    exact (((Below.refl _ w).alloc (Nat.le_refl _) _).alloc (by simp) _).alloc (by simp; omega) _
  have hrd : ReadsT W0 (.slice (some ⟨w.heap.size + 1 + 1, 0, none⟩) 3 3) exCs := rd_texts (T := 9) exCs k3
  have HRD := Lib.hid hrd
  have HW0 := Lib.hid hW0
  have K1 := Lib.hid k1
  have K2 := Lib.hid k2
  have HB0 := Lib.hid hb0
  clear hrd hW0 k1 k2 k3 hb0
  go_enter Tryz.func11, Tryz.ntmps11
  go_wp2_with fail
  rw [← HW0.out]
  refine (HML.out _ _ HRD.out).mono ?_
  rintro e w1 ⟨g, cp, rfl, hb1, ho1, hg1, hg2⟩
  have hs1 := hb1.size
  have q1 := (hb1.block w.heap.size (by omega)).trans K1.out
  have q2 := (hb1.block (w.heap.size + 1) (by omega)).trans K2.out
  have HB1 := Lib.hid (below_c HB0.out HB0.out.size hb1)
  have Q1 := Lib.hid q1
  have Q2 := Lib.hid q2
  have HO1 := Lib.hid ho1
  clear hb1 ho1 q1 q2
  go_wp2_with fail
  have hbn := (Below.refl w1.heap.size w1).alloc (Nat.le_refl _) (.cells #[.int .u8 1, .int .u8 1, .string ⟨#[49, 48, 48, 50, 51]⟩, .slice (some ⟨g, 0, none⟩) 3 cp] 29)
  have HBN := Lib.hid hbn
  have HSZ : Hid (w1.heap.size + 1 ≤ (w1.alloc (.cells #[.int .u8 1, .int .u8 1, .string ⟨#[49, 48, 48, 50, 51]⟩, .slice (some ⟨g, 0, none⟩) 3 cp] 29)).heap.size) := by show _ ≤ _; simp
  have HNW := Lib.hid (alloc_new w1 (.cells #[.int .u8 1, .int .u8 1, .string ⟨#[49, 48, 48, 50, 51]⟩, .slice (some ⟨g, 0, none⟩) 3 cp] 29))
  clear hbn
  go_loopw [11] (fun i wr => ∃ k : Nat, k ≤ 3 ∧ i = .int .i64 k ∧ Below w.heap.size w wr ∧ w1.heap.size + 1 ≤ wr.heap.size ∧ wr.heap[w.heap.size]? = some (.cells #[.int .u8 0, .int .u8 0, .string ⟨#[]⟩, .slice none 0 0] 29 (0, 0)) ∧ wr.heap[w.heap.size + 1]? = some (.cells #[.int .i64 0, .int .i64 0, .int .i64 0, .int .i64 0] 32 (0, 0)) ∧
    wr.heap[w1.heap.size]? = some (.cells #[.int .u8 1, .int .u8 1, .string ⟨#[49, 48, 48, 50, 51]⟩, .slice (some ⟨g, 0, none⟩) 3 cp] 29 (0, 0)) ∧ OwnsP wr (w.heap.size + 3) (.slice (some ⟨g, 0, none⟩) 3 cp) (exPs k)) (fun i _ => 3 - (intOf i).toNat)
  case atStart =>
    exact ⟨0, by omega, rfl, below_c HB1.out HB1.out.size HBN.out, HSZ.out, (HBN.out.block _ (by omega)).trans Q1.out, (HBN.out.block _ (by omega)).trans Q2.out, HNW.out, OwnsP.mono (row_belowT HO1.out HBN.out) (by omega)⟩
  case round =>
    clear HBN HSZ HNW
    obtain ⟨k, hk, rfl, hB, hz, h0, h01, h1, hO⟩ := hrel
    have HB := Lib.hid hB
    have H0 := Lib.hid h0
    have H01 := Lib.hid h01
    have H1 := Lib.hid h1
    have HO := Lib.hid hO
    by_cases hlt : k < 3
    · obtain ⟨q1, q2, q3, q4⟩ := OwnsP.at hO k 3 (by rw [exPs_len]; exact hlt) (by decide)
      obtain ⟨r1, r2, _, _⟩ := OwnsP.at hO k 4 (by rw [exPs_len]; exact hlt) (by decide)
      have hput := OwnsP.put hO k 3 (by rw [exPs_len]; exact hlt) (by decide) ⟨1 + (k : Int), 0, exCs.getD k ⟨#[]⟩, 10, false⟩ (.int .i64 10) (by rw [exPs_at hlt]; rfl)
      have hput2 := OwnsP.put hput k 4 (by rw [List.length_set, exPs_len]; exact hlt) (by decide) ⟨1 + (k : Int), 0, exCs.getD k ⟨#[]⟩, 10, decide (k = 0)⟩ (.bool (decide (k = 0))) (by rw [List.getElem_set_self]; rfl)
      rw [List.set_set, ← exPs_succ hlt] at hput2
      rw [exPs_at hlt] at q1 r1
      have b3 := cell_of_row _ _ 3 _ _ _ h1
      have q1' : wr.cell? ⟨g, k * 5 + 3, none⟩ = some (.int .i64 (1 + (k : Int) % 20)) := q1
      have r1' : wr.cell? ⟨g, k * 5 + 4, none⟩ = some (.bool false) := r1
      have hbq : ((k : Int) == 0) = decide (k = 0) := by
        rw [Bool.eq_iff_iff]; simp
      have HPU := Lib.hid hput2
      have hne1 : g ≠ w1.heap.size := by omega
      have hw1r : w1.heap.size < wr.heap.size := by omega
      clear h0 h01 h1 hO q1 r1 hput hput2 HML
      go_wp2_with fail
      go_region_held3 (fun w' => w'.cell? ⟨w1.heap.size, 3, none⟩ = some (.slice (some ⟨g, 0, none⟩) 3 cp))
        (first | exact b3 | (simp only [far_set hne1, drew_c]; exact b3))
        (fail)
      go_wp2_with fail
      go_roundw
      case rel =>
        have e1 : ∀ b, b ≠ g → ((wr.setCell ⟨g, k * 5 + 3, none⟩ (.int .i64 10)).setCell ⟨g, k * 5 + 4, none⟩ (.bool (decide (k = 0)))).heap[b]? = wr.heap[b]? := fun b hb => (Below.heap_setCell _ _ _ _ hb).trans (Below.heap_setCell _ _ _ _ hb)
        exact ⟨k + 1, by omega, by go_num, ((HB.out.setCell (p := ⟨g, k * 5 + 3, none⟩) (by show w.heap.size ≤ g; omega) _).setCell (p := ⟨g, k * 5 + 4, none⟩) (by show w.heap.size ≤ g; omega) _).drew, by simp [World.setCell]; omega, (e1 _ (by omega)).trans H0.out, (e1 _ (by omega)).trans H01.out, (e1 _ (by omega)).trans H1.out, HPU.out⟩
      case measure => simp [intOf]; omega
    · obtain rfl : k = 3 := by omega
      have hlt0 : w.heap.size + 1 < wr.heap.size := by omega
      have hw1r : w1.heap.size < wr.heap.size := by omega
      have hw1w : w.heap.size + 3 ≤ w1.heap.size := by omega
      have hkk : ∀ W : World, W.heap[w1.heap.size]? = wr.heap[w1.heap.size]? → W.cell? ⟨w1.heap.size, 0, none⟩ = some (.int .u8 1) ∧ W.cell? ⟨w1.heap.size, 1, none⟩ = some (.int .u8 1) ∧ W.cell? ⟨w1.heap.size, 2, none⟩ = some (.string ⟨#[49, 48, 48, 50, 51]⟩) ∧ W.cell? ⟨w1.heap.size, 3, none⟩ = some (.slice (some ⟨g, 0, none⟩) 3 cp) := fun W h => by
        have h2 := h.trans h1
        exact ⟨cell_of_row _ _ 0 _ _ _ h2, cell_of_row _ _ 1 _ _ _ h2, cell_of_row _ _ 2 _ _ _ h2, cell_of_row _ _ 3 _ _ _ h2⟩
      have HK0 := Lib.hid (hkk wr rfl)
      have hk1 := hkk (wr.alloc exO) (Below.heap_alloc _ _ _ hw1r)
      unfold exO at hk1
      have HK1 := Lib.hid hk1
      have hd0 : w.heap.size ≠ w1.heap.size := by omega
      have hd1 : w.heap.size + 1 ≠ w1.heap.size := by omega
      clear hk1
      obtain ⟨W2, hW2⟩ : ∃ W2, W2 = wr.alloc exO := ⟨_, rfl⟩
      have hb2 : Below wr.heap.size wr W2 := by rw [hW2]; exact (Below.refl _ wr).alloc (Nat.le_refl _) _
      have HB2 := Lib.hid hb2
      obtain ⟨m0, m1, m2, m3, n0, n1, n2, n3⟩ := cells4e ((hb2.block _ (by omega)).trans h0)
      obtain ⟨x0, x1, x2, x3, y0, y1, y2, y3⟩ := cells4e ((hb2.block _ hlt0).trans h01)
      have HW2 := Lib.hid hW2
      unfold exO at hW2
      rw [hW2] at m0 m1 m2 m3 n0 n1 n2 n3 x0 x1 x2 x3 y0 y1 y2 y3
      clear h0 h01 h1 hO hkk hb2 hW2 hlt HML
      go_wp2_with fail
      go_region_held3 (fun W => W.cell? ⟨w1.heap.size, 0, none⟩ = some (.int .u8 1) ∧ W.cell? ⟨w1.heap.size, 1, none⟩ = some (.int .u8 1) ∧ W.cell? ⟨w1.heap.size, 2, none⟩ = some (.string ⟨#[49, 48, 48, 50, 51]⟩) ∧ W.cell? ⟨w1.heap.size, 3, none⟩ = some (.slice (some ⟨g, 0, none⟩) 3 cp))
        (first | with_reducible exact HK0.out | with_reducible exact HK1.out | (simp only [far_set hd0, far_set hd1, drew_c]; (first | with_reducible exact HK0.out | with_reducible exact HK1.out)))
        (fail)
      go_wp2_with fail
      obtain ⟨wf, hwf⟩ : ∃ wf, wf = sets4x (sets4x W2 w.heap.size (.int .u8 1) (.int .u8 1) (.string ⟨#[49, 48, 48, 50, 51]⟩) (.slice (some ⟨g, 0, none⟩) 3 cp)) (w.heap.size + 1) (.int .i64 10) (.int .i64 1000) (.int .i64 10) (.int .i64 10) := ⟨_, rfl⟩
      have hb2 := HB2.out
      have g0 := (hb2.block _ (by omega)).trans H0.out
      have g1 := (hb2.block _ hlt0).trans H01.out
      have hf0 : wf.heap[w.heap.size]? = some (.cells #[.int .u8 1, .int .u8 1, .string ⟨#[49, 48, 48, 50, 51]⟩, .slice (some ⟨g, 0, none⟩) 3 cp] 29 (0, 0)) := by rw [hwf, sets4x_other (by omega)]; exact set4 g0
      have hf1 : wf.heap[w.heap.size + 1]? = some (.cells #[.int .i64 10, .int .i64 1000, .int .i64 10, .int .i64 10] 32 (0, 0)) := by rw [hwf]; exact set4 ((sets4x_other (by omega)).trans g1)
      have hfb : Below w.heap.size w wf := by rw [hwf]; exact sets4x_below (sets4x_below (below_c HB.out HB.out.size hb2) (Nat.le_refl _)) (Nat.le_succ _)
      have hfo : OwnsP wf (w.heap.size + 3) (.slice (some ⟨g, 0, none⟩) 3 cp) exMl.ps := by
        rw [hwf, ← exPs_end]
        exact own_set4 (own_set4 (row_belowT HO.out hb2) (by omega) _ _ _ _) (by omega) _ _ _ _
      have hg0 : wf.heap[wr.heap.size]? = some exO := by
        rw [hwf, sets4x_other (by omega), sets4x_other (by omega), HW2.out]
        exact alloc_new wr exO
      have HF0 := Lib.hid hf0
      rw [HW2.out] at hwf
      unfold exO at hwf
      simp only [sets4x] at hwf
      rw [← hwf]
      refine bodyPost_ret (results_tcc rfl _ _ w.heap.size (w.heap.size + 1) _ _ rfl rfl (run_loadVar_row _ _ _ _ _ _ _ hf0 Tryz.underlying29 rfl (by kernel_rfl)) (run_loadVar_row _ _ _ _ _ _ _ hf1 Tryz.underlying32 rfl (by kernel_rfl))) rfl ?_
      exact ⟨_, .slice (some ⟨g, 0, none⟩) 3 cp, rfl, hfb.drew, exS_reads hg0, RdPces.of_owns hfo⟩
end Go.Proofs.YtojedplbhialpaaGreatDoor

/-! MPk -/
namespace Go.Proofs.YtojedplbhialpaaGreatDoor
open Go.RowKit Go.Sort
set_option linter.unusedVariables false
set_option maxRecDepth 100000
theorem rd_lod {W : World} {B : Nat} {vb vt vc : Value} {l : Lod} (h1 : OwnsX 53 4 bunCell (fun b => b.ids) W B vb l.buns) (h2 : OwnsX 55 3 traCell (fun t => t.bs) W B vt l.tras) (h3 : OwnsX 57 2 conCell (fun c => c.ts) W B vc l.cons) :
    RdLod W vb vt vc l := ⟨h1.rd (fun _ => rfl), h2.rd (fun _ => rfl), h3.rd (fun _ => rfl)⟩
theorem pack_rd {ls : List Lev} {m : Mai} (h : HasPlan ls m) {v vp vz : Value} {zs : List Int} {k : Pck} {w : World} (hr : RdLevs w v ls) (hrp : RdPces w vp m.ps) (hz : RdInts w vz zs) (hzl : zs.length = m.ps.length) (hn : numsB ls.length zs = true) (hA : allR ls m zs k = 0)
    (hk : pckB k = true) (hkg : ∀ p ∈ m.ps, p.grams ≤ k.grams) {Gs : List Grp} (hG : gAll ls (codesM m.ps) ls.length = Gs) :
    Calls Tryz.prog 18 #[v, maiV m vp, vz, pckV k] w fun e w' => ∃ ab cb at' ct ac cc, e = .returned (.tuple #[lodV (.slice ab (lodP k m.ps zs Gs).buns.length cb) (.slice at' (lodP k m.ps zs Gs).tras.length ct) (.slice ac (lodP k m.ps zs Gs).cons.length cc), .int .i64 0]) ∧ Below w.heap.size w w' ∧
      RdLod w' (.slice ab (lodP k m.ps zs Gs).buns.length cb) (.slice at' (lodP k m.ps zs Gs).tras.length ct) (.slice ac (lodP k m.ps zs Gs).cons.length cc) (lodP k m.ps zs Gs) := by
  refine (pack_ok h v vp vz zs k w hr hrp hz hzl hn hA hk hkg).mono ?_
  rintro e w' ⟨vb, vt, vc, rfl, hb, h1, h2, h3⟩
  rw [hG] at h1 h2 h3
  obtain ⟨ab, cb, rfl⟩ := h1.form
  obtain ⟨at', ct, rfl⟩ := h2.form
  obtain ⟨ac, cc, rfl⟩ := h3.form
  exact ⟨ab, cb, at', ct, ac, cc, rfl, hb, rd_lod h1 h2 h3⟩
theorem check_true {ls : List Lev} {m : Mai} (h : HasPlan ls m) {v vp vz vb vt vc : Value} {zs : List Int} {k : Pck} {l : Lod} {w : World} (hr : RdLevs w v ls) (hrp : RdPces w vp m.ps) (hz : RdInts w vz zs) (hzl : zs.length = m.ps.length) (hn : numsB ls.length zs = true) (hA : allR ls m zs k = 0)
    (hrl : RdLod w vb vt vc l) (hpd : Pkd k m.ps zs (nmTo zs (gAll ls (codesM m.ps) ls.length) m.ps.length (gAll ls (codesM m.ps) ls.length).length) l) :
    Calls Tryz.prog 49 #[v, maiV m vp, vz, pckV k, lodV vb vt vc] w fun e w' => e = .returned (.tuple #[.bool true, .int .i64 0]) ∧ Below w.heap.size w w' := by
  have hfew := h.few
  refine Calls.mono (check_ok h v vp vz vb vt vc zs k l w hr hrp hz hzl hn hA hrl (hpd.smallL (by omega)) (fun b hb i hi => by have := (hpd.own b hb).2.2 i hi; omega)) ?_
  rintro e w' ⟨u, rfl, hb, hu⟩
  rw [hu.true hpd.ok]
  exact ⟨rfl, hb⟩
end Go.Proofs.YtojedplbhialpaaGreatDoor

/-! M8 -/
namespace Go.Proofs.YtojedplbhialpaaGreatDoor
open Go.RowKit Go.Sort
set_option linter.unusedVariables false
set_option maxRecDepth 100000
theorem exPk : pckB exK = true := by kernel_rfl
theorem ex_grams : ∀ p ∈ exMl.ps, p.grams ≤ exK.grams := by
  intro p hp
  have h : p = exMl.ps[0] ∨ p = exMl.ps[1] ∨ p = exMl.ps[2] := by simpa [exMl] using hp
  rcases h with rfl | rfl | rfl <;> decide
theorem ex_pkd : Pkd exK exMl.ps exPl (nmTo exPl (gAll exS (codesM exMl.ps) exS.length) exMl.ps.length (gAll exS (codesM exMl.ps) exS.length).length) exLod := by
  have := pkd_of ex_has (zs := exPl) rfl ex_nums exPk ex_grams
  rw [exG_eq, ex_lod] at this
  rw [exG_eq]
  exact this
abbrev exB (i : Nat) : Int := (pricedR exT exRt exMl i).1
theorem ex_in : ∀ i, i < exMl.ps.length → LnIn 1000000 (pcLn exMl 10 exB (postR exT exRt exS exMl exPl) exS exPl i) := by
  intro i hi
  have h3 : i < 3 := hi
  match i, h3 with
  | 0, _ =>
    have e : pcLn exMl 10 exB (postR exT exRt exS exMl exPl) exS exPl 0 = ⟨0, 1, 1, 10, 100, 10, 5, 85⟩ := by kernel_rfl
    rw [e]; exact ⟨by decide, by decide, by decide, by decide, by decide, by decide, by decide⟩
  | 1, _ =>
    have e : pcLn exMl 10 exB (postR exT exRt exS exMl exPl) exS exPl 1 = ⟨0, 1, 0, 10, 100, 0, 5, 95⟩ := by kernel_rfl
    rw [e]; exact ⟨by decide, by decide, by decide, by decide, by decide, by decide, by decide⟩
  | 2, _ =>
    have e : pcLn exMl 10 exB (postR exT exRt exS exMl exPl) exS exPl 2 = ⟨0, 1, 0, 10, 150, 0, 0, 150⟩ := by kernel_rfl
    rw [e]; exact ⟨by decide, by decide, by decide, by decide, by decide, by decide, by decide⟩
theorem ex_ok0 : ∀ i, i < exMl.ps.length → (pricedR exT exRt exMl i).2 = 0 := fun i hi => by rw [ex_base i hi]
theorem ex_cz : ∀ p ∈ exMl.ps, p.code.size ≤ maxLen := fun p hp => by have := codeB_size ((mail_parts exM_mail).2 p hp); unfold maxLen; omega
theorem ex_zs : ∀ x ∈ exPl, 0 ≤ x ∧ x < (exS.length : Int) := by decide
theorem ex_state {vr vz vl vp vn vb vt vc : Value} (W : World) (h : RdTar W vr vz exT) (hr : RdLevs W vl exS) (hrp : RdPces W vp exMl.ps) (hn : RdInts W vn exPl) (hb : ∃ a c, vb = .slice a 2 c) (ht : ∃ a c, vt = .slice a 2 c) (hc : ∃ a c, vc = .slice a 2 c) :
    Calls Tryz.prog 44 #[.agg #[vr, vz], vl, maiV exMl vp, vn, .agg #[vb, vt, vc]] W fun e w' => ∃ v, e = .returned (.tuple #[manA exMan v, .int .i64 0]) ∧ Below W.heap.size W w' ∧ OwnsLn w' W.heap.size v exMan.lines := by
  obtain ⟨ar, cr, rfl, _⟩ := id h.r
  obtain ⟨az, cz, rfl, _⟩ := id h.z
  have hq : 0 < exT.rates.length := by decide
  have := state_ok (m := exMl) (ls := exS) (zs := exPl) (bar := 10) (B := exB) (R := postR exT exRt exS exMl exPl) (vb := vb) (vt := vt) (vc := vc) (nb := 2) (nt := 2) (nc := 2) W hrp hr hn ⟨_, _, _, rfl⟩ ⟨_, _, _, rfl⟩ hb ht hc (by decide) (by decide) rfl ex_zs (by decide) ex_in
    (fun W' hW => postage_ok exT_ok exT_fit W' (h.below hW) (hr.below hW) (right_fits exS_right) exS_right (hrp.below hW) exM_mail (by decide) ex_cz (hn.below hW) rfl ex_zs hq rfl ex_ok0)
    (fun W' hW => bases_ok exT_ok W' (h.below hW) (hrp.below hW) exM_mail (by decide) ex_cz hq rfl ex_ok0)
    (fun W' hW => barOf_yes 1 W' (h.below hW) (by decide) hq rfl (fun i hi hlt => absurd hlt (Nat.not_lt_zero _)))
  have e : manOf exPl (pcLn exMl 10 exB (postR exT exRt exS exMl exPl) exS exPl) exMl.ps.length exS.length 2 2 2 = exMan := ex_man
  rw [e] at this
  exact this
theorem want_lines {W : World} {g : Nat} (h : W.heap[g]? = some (.cells #[.int .i64 0, .int .i64 2, .int .i64 1, .int .i64 20, .int .i64 200, .int .i64 10, .int .i64 10, .int .i64 180, .int .i64 1, .int .i64 1, .int .i64 0, .int .i64 10, .int .i64 150, .int .i64 0, .int .i64 0, .int .i64 150] 42)) : RdLns W (.slice (some ⟨g, 0, none⟩) 2 2) exMan.lines :=
  ⟨_, _, rfl, fun _ => ⟨g, 0, rfl, (Array.getElem?_eq_some_iff.1 h).1, fun i hi j u hj => by
    rw [cell_of_row _ _ _ _ _ _ h]
    have hi2 : i < 2 := hi
    have hj8 : j < 8 := (List.getElem?_eq_some_iff.1 hj).1
    rw [← hj]
    match i, hi2 with
    | 0, _ =>
      match j, hj8 with
      | 0, _ => rfl
      | 1, _ => rfl
      | 2, _ => rfl
      | 3, _ => rfl
      | 4, _ => rfl
      | 5, _ => rfl
      | 6, _ => rfl
      | 7, _ => rfl
    | 1, _ =>
      match j, hj8 with
      | 0, _ => rfl
      | 1, _ => rfl
      | 2, _ => rfl
      | 3, _ => rfl
      | 4, _ => rfl
      | 5, _ => rfl
      | 6, _ => rfl
      | 7, _ => rfl⟩⟩
theorem cells12 {W : World} {g : Nat} {a0 a1 a2 a3 a4 a5 a6 a7 a8 a9 a10 a11 : Value} {t : TypeId} {fr : Nat × Nat} (h : W.heap[g]? = some (.cells #[a0, a1, a2, a3, a4, a5, a6, a7, a8, a9, a10, a11] t fr)) :
    W.cell? ⟨g, 0, none⟩ = some a0 ∧ W.cell? ⟨g, 1, none⟩ = some a1 ∧ W.cell? ⟨g, 2, none⟩ = some a2 ∧ W.cell? ⟨g, 3, none⟩ = some a3 ∧ W.cell? ⟨g, 4, none⟩ = some a4 ∧ W.cell? ⟨g, 5, none⟩ = some a5 ∧ W.cell? ⟨g, 6, none⟩ = some a6 ∧ W.cell? ⟨g, 7, none⟩ = some a7 ∧ W.cell? ⟨g, 8, none⟩ = some a8 ∧ W.cell? ⟨g, 9, none⟩ = some a9 ∧ W.cell? ⟨g, 10, none⟩ = some a10 ∧ W.cell? ⟨g, 11, none⟩ = some a11 :=
  ⟨cell_of_row _ _ 0 _ _ _ h, cell_of_row _ _ 1 _ _ _ h, cell_of_row _ _ 2 _ _ _ h, cell_of_row _ _ 3 _ _ _ h, cell_of_row _ _ 4 _ _ _ h, cell_of_row _ _ 5 _ _ _ h, cell_of_row _ _ 6 _ _ _ h, cell_of_row _ _ 7 _ _ _ h, cell_of_row _ _ 8 _ _ _ h, cell_of_row _ _ 9 _ _ _ h, cell_of_row _ _ 10 _ _ _ h, cell_of_row _ _ 11 _ _ _ h⟩
set_option maxHeartbeats 16000000 in
theorem awake27_any (w : World) (ht : TabW w) : Calls Tryz.prog 7 #[] w fun e w' => e = .returned (.bool true) ∧ Below w.heap.size w w' := by
  have HEX : Hid (∀ W, Calls Tryz.prog 11 #[] W fun e w' => ∃ al cl ap cp, e = .returned (.tuple #[.slice al 2 cl, .agg #[.int .u8 1, .int .u8 1, .string ⟨#[49, 48, 48, 50, 51]⟩, .slice ap 3 cp], .agg #[.int .i64 10, .int .i64 1000, .int .i64 10, .int .i64 10]]) ∧ Below W.heap.size W w' ∧ RdLevs w' (.slice al 2 cl) exS ∧ RdPces w' (.slice ap 3 cp) exMl.ps) := by
    intro W
    refine (example27_any W).mono ?_
    rintro e w' ⟨vl, vp, rfl, hb, hl, hp⟩
    obtain ⟨al, cl, rfl, _⟩ := id hl
    obtain ⟨ap, cp, rfl, _⟩ := id hp
    exact ⟨al, cl, ap, cp, rfl, hb, hl, hp⟩
  have HE4 : Hid (∀ W, Calls Tryz.prog 12 #[] W fun e w' => ∃ ar cr az cz, e = .returned (.agg #[.slice ar 1 cr, .slice az 2 cz]) ∧ Below W.heap.size W w' ∧ RdTar w' (.slice ar 1 cr) (.slice az 2 cz) exT) := by
    intro W
    refine (example24_any W).mono ?_
    rintro e w' ⟨vr, vz, rfl, hb, hT⟩
    obtain ⟨ar, cr, rfl, _⟩ := id hT.r
    obtain ⟨az, cz, rfl, _⟩ := id hT.z
    exact ⟨ar, cr, az, cz, rfl, hb, hT⟩
  have HMK : Hid (∀ W ar cr az cz al cl ap cp vn, RdTar W (.slice ar 1 cr) (.slice az 2 cz) exT → RdLevs W (.slice al 2 cl) exS → RdPces W (.slice ap 3 cp) exMl.ps → RdInts W vn exPl → Calls Tryz.prog 17 #[.agg #[.slice ar 1 cr, .slice az 2 cz], .slice al 2 cl, .agg #[.int .u8 1, .int .u8 1, .string ⟨#[49, 48, 48, 50, 51]⟩, .slice ap 3 cp], vn, .agg #[.int .i64 10, .int .i64 1000, .int .i64 10, .int .i64 10]] W fun e w' => ∃ ax cx, e = .returned (.tuple #[.agg #[.slice ax 2 cx, .int .i64 2, .int .i64 3, .int .i64 1, .int .i64 30, .int .i64 350, .int .i64 10, .int .i64 10, .int .i64 330, .int .i64 2, .int .i64 2, .int .i64 2], .int .i64 0]) ∧ Below W.heap.size W w' ∧ RdLns w' (.slice ax 2 cx) exMan.lines) := by
    intro W ar cr az cz al cl ap cp vn h1 h2 h3 h4
    obtain ⟨an, cn, rfl, _⟩ := id h4
    refine Calls.mono (make_ok (M := exMan) (m := exMl) (k := exK) (nb := 2) (nt := 2) (nc := 2) W ⟨_, _, _, rfl⟩ ⟨_, _, _, rfl⟩ ⟨_, _, _, rfl⟩ ⟨_, _, _, rfl⟩ ⟨_, _, _, rfl⟩ (fun W' hW => ?_) (fun W' ab cb at' ct ac cc hW => ex_state W' (h1.below hW) (h2.below hW) (h3.below hW) (h4.below hW) ⟨_, _, rfl⟩ ⟨_, _, rfl⟩ ⟨_, _, rfl⟩)) ?_
    · have := pack_rd ex_has (h2.below hW) (h3.below hW) (h4.below hW) rfl ex_nums ex_all exPk ex_grams exG_eq
      rw [ex_lod] at this
      refine this.mono ?_
      rintro e w' ⟨ab, cb, at', ct, ac, cc, rfl, hb, _⟩
      exact ⟨ab, cb, at', ct, ac, cc, rfl, hb⟩
    · rintro e w' ⟨v, rfl, hb, ho⟩
      have hr := OwnsLn.rd ho
      obtain ⟨ax, cx, rfl, _⟩ := id hr
      exact ⟨ax, cx, rfl, hb, hr⟩
  have HPK : Hid (∀ W al cl ap cp vn, RdLevs W (.slice al 2 cl) exS → RdPces W (.slice ap 3 cp) exMl.ps → RdInts W vn exPl → Calls Tryz.prog 18 #[.slice al 2 cl, .agg #[.int .u8 1, .int .u8 1, .string ⟨#[49, 48, 48, 50, 51]⟩, .slice ap 3 cp], vn, .agg #[.int .i64 10, .int .i64 1000, .int .i64 10, .int .i64 10]] W fun e w' => ∃ ab cb at' ct ac cc, e = .returned (.tuple #[.agg #[.slice ab 2 cb, .slice at' 2 ct, .slice ac 2 cc], .int .i64 0]) ∧ Below W.heap.size W w' ∧ RdLod w' (.slice ab 2 cb) (.slice at' 2 ct) (.slice ac 2 cc) exLod) := by
    intro W al cl ap cp vn h2 h3 h4
    have := pack_rd ex_has h2 h3 h4 rfl ex_nums ex_all exPk ex_grams exG_eq
    rw [ex_lod] at this
    exact this
  have HRC : Hid (∀ W ar cr az cz al cl ap cp an cn ab cb at' ct ac cc ax cx, RdTar W (.slice ar 1 cr) (.slice az 2 cz) exT → RdLevs W (.slice al 2 cl) exS → RdPces W (.slice ap 3 cp) exMl.ps → RdInts W (.slice an 3 cn) exPl → RdLod W (.slice ab 2 cb) (.slice at' 2 ct) (.slice ac 2 cc) exLod → RdLns W (.slice ax 2 cx) exMan.lines →
      Calls Tryz.prog 19 #[.agg #[.slice ar 1 cr, .slice az 2 cz], .slice al 2 cl, .agg #[.int .u8 1, .int .u8 1, .string ⟨#[49, 48, 48, 50, 51]⟩, .slice ap 3 cp], .slice an 3 cn, .agg #[.int .i64 10, .int .i64 1000, .int .i64 10, .int .i64 10], .agg #[.slice ab 2 cb, .slice at' 2 ct, .slice ac 2 cc], .agg #[.slice ax 2 cx, .int .i64 2, .int .i64 3, .int .i64 1, .int .i64 30, .int .i64 350, .int .i64 10, .int .i64 10, .int .i64 330, .int .i64 2, .int .i64 2, .int .i64 2]] W fun e w' => e = .returned (.tuple #[.bool true, .int .i64 0]) ∧ Below W.heap.size W w') := by
    intro W ar cr az cz al cl ap cp an cn ab cb at' ct ac cc ax cx h1 h2 h3 h4 h5 h6
    have := reconcile_ok (X := exMan) (M := exMan) (m := exMl) (k := exK) (b := true) (nb := 2) (nt := 2) (nc := 2) W ⟨_, _, _, rfl⟩ ⟨_, _, _, rfl⟩ ⟨_, _, _, rfl⟩ ⟨_, _, _, rfl⟩ ⟨_, _, _, rfl⟩ ⟨ab, cb, rfl⟩ ⟨at', ct, rfl⟩ ⟨ac, cc, rfl⟩ h6 (by decide) (by decide)
      (fun W' hW => check_true ex_has (h2.below hW) (h3.below hW) (h4.below hW) rfl ex_nums ex_all (h5.below hW) ex_pkd)
      (fun W' hW => ex_state W' (h1.below hW) (h2.below hW) (h3.below hW) (h4.below hW) ⟨_, _, rfl⟩ ⟨_, _, rfl⟩ ⟨_, _, rfl⟩)
    refine Calls.mono this ?_
    rintro e w' ⟨rfl, hb⟩
    exact ⟨by simp, hb⟩
  have HTX : Hid (∀ W al cl ax cx, TabW W → RdLevs W (.slice al 2 cl) exS → RdLns W (.slice ax 2 cx) exMan.lines → Calls Tryz.prog 20 #[.slice al 2 cl, .agg #[.slice ax 2 cx, .int .i64 2, .int .i64 3, .int .i64 1, .int .i64 30, .int .i64 350, .int .i64 10, .int .i64 10, .int .i64 330, .int .i64 2, .int .i64 2, .int .i64 2]] W fun e w' => e = .returned (.tuple #[.string ⟨([51, 32, 50, 32, 49, 32, 50, 48, 32, 50, 46, 48, 48, 32, 48, 46, 49, 48, 32, 48, 46, 49, 48, 32, 49, 46, 56, 48, 10, 97, 108, 108, 32, 49, 32, 48, 32, 49, 48, 32, 49, 46, 53, 48, 32, 48, 46, 48, 48, 32, 48, 46, 48, 48, 32, 49, 46, 53, 48, 10, 116, 111, 116, 97, 108, 32, 51, 32, 49, 32, 51, 48, 32, 51, 46, 53, 48, 32, 48, 46, 49, 48, 32, 48, 46, 49, 48, 32, 51, 46, 51, 48, 10, 112, 97, 99, 107, 101, 100, 32, 50, 32, 50, 32, 50, 10] : List UInt8).toArray⟩, .int .i64 0]) ∧ Below W.heap.size W w') := by
    intro W al cl ax cx h1 h2 h3
    have := text_any (ls := exS) (X := exMan) W h2 exS_right h3 rfl ⟨by decide, ⟨by decide, by decide⟩, ⟨by decide, by decide⟩, ⟨by decide, by decide⟩⟩ (fun l hl => by
      have h : l = exMan.lines[0] ∨ l = exMan.lines[1] := by simpa [exMan] using hl
      rcases h with rfl | rfl <;> exact ⟨by decide, ⟨by decide, by decide⟩, ⟨by decide, by decide⟩, ⟨by decide, by decide⟩⟩) ⟨by decide, by decide⟩ ⟨by decide, by decide⟩ ⟨by decide, by decide⟩ h1
    rw [ex_text] at this
    exact this
  have HSM : Hid (∀ W ax cx ay cy, RdLns W (.slice ax 2 cx) exMan.lines → RdLns W (.slice ay 2 cy) exMan.lines → Calls Tryz.prog 21 #[.agg #[.slice ax 2 cx, .int .i64 2, .int .i64 3, .int .i64 1, .int .i64 30, .int .i64 350, .int .i64 10, .int .i64 10, .int .i64 330, .int .i64 2, .int .i64 2, .int .i64 2], .agg #[.slice ay 2 cy, .int .i64 2, .int .i64 3, .int .i64 1, .int .i64 30, .int .i64 350, .int .i64 10, .int .i64 10, .int .i64 330, .int .i64 2, .int .i64 2, .int .i64 2]] W fun e w' => e = .returned (.bool true) ∧ Below W.heap.size W w') := by
    intro W ax cx ay cy h1 h2
    exact sameMan_same exMan (.slice ax 2 cx) (.slice ay 2 cy) W h1 h2 (by decide)
  have HTB := Lib.hid ht
  clear ht
  go_enter Tryz.func7, Tryz.ntmps7
  go_wp2_with fail
  refine (HEX.out _).mono ?_
  rintro e w1 ⟨al, cl, ap, cp, rfl, hb1, hl1, hp1⟩
  go_wp2_with fail
  obtain ⟨W2, hW2⟩ : ∃ W2, W2 = (w1.alloc (.cells #[.int .u8 1, .int .u8 1, .string ⟨#[49, 48, 48, 50, 51]⟩, .slice ap 3 cp] 29)).alloc (.cells #[.int .i64 10, .int .i64 1000, .int .i64 10, .int .i64 10] 32) := ⟨_, rfl⟩
  obtain ⟨t1, t2, t3, t4⟩ := two_new hW2
  rw [← hW2]
  clear hW2
  refine (HE4.out _).mono ?_
  rintro e w3 ⟨ar, cr, az, cz, rfl, hb3, hT3⟩
  have b3 := below_c t4 t4.size hb3
  have s3 := hb3.size
  have q1 := (hb3.block _ (by omega)).trans t1
  have q2 := (hb3.block _ (by omega)).trans t2
  obtain ⟨m0, m1, m2, m3⟩ := cells4 q1
  obtain ⟨k0, k1, k2, k3⟩ := cells4 q2
  have l1 : w1.heap.size < w3.heap.size := by omega
  have l2 : w1.heap.size + 1 < w3.heap.size := by omega
  have HB1 := Lib.hid hb1
  have HL1 := Lib.hid hl1
  have HP1 := Lib.hid hp1
  have HQ1 := Lib.hid q1
  have HQ2 := Lib.hid q2
  have HB3 := Lib.hid b3
  have HT3 := Lib.hid hT3
  clear hb1 hl1 hp1 q1 q2 b3 hT3 hb3 t1 t2 t4
  go_wp2_with fail
  obtain ⟨W4, hW4⟩ : ∃ W4, W4 = (w3.alloc (.cells #[.slice ar 1 cr, .slice az 2 cz] 25)).alloc (.cells #[.int .i64 0, .int .i64 0, .int .i64 1] 3) := ⟨_, rfl⟩
  obtain ⟨t1, t2, t5, t4⟩ := two_new hW4
  rw [← hW4]
  have b14 := below_c HB3.out HB3.out.size t4
  have HK : Hid (∀ W, Below W4.heap.size W4 W → ((W.cell? ⟨w1.heap.size, 0, none⟩ = some (.int .u8 1) ∧ W.cell? ⟨w1.heap.size, 1, none⟩ = some (.int .u8 1) ∧ W.cell? ⟨w1.heap.size, 2, none⟩ = some (.string ⟨#[49, 48, 48, 50, 51]⟩) ∧ W.cell? ⟨w1.heap.size, 3, none⟩ = some (.slice ap 3 cp)) ∧
      (W.cell? ⟨w1.heap.size + 1, 0, none⟩ = some (.int .i64 10) ∧ W.cell? ⟨w1.heap.size + 1, 1, none⟩ = some (.int .i64 1000) ∧ W.cell? ⟨w1.heap.size + 1, 2, none⟩ = some (.int .i64 10) ∧ W.cell? ⟨w1.heap.size + 1, 3, none⟩ = some (.int .i64 10)) ∧
      (W.cell? ⟨w3.heap.size, 0, none⟩ = some (.slice ar 1 cr) ∧ W.cell? ⟨w3.heap.size, 1, none⟩ = some (.slice az 2 cz)) ∧ w1.heap.size < W.heap.size ∧ w1.heap.size + 1 < W.heap.size ∧ w3.heap.size < W.heap.size) ∧
      (RdTar W (.slice ar 1 cr) (.slice az 2 cz) exT ∧ RdLevs W (.slice al 2 cl) exS ∧ RdPces W (.slice ap 3 cp) exMl.ps ∧ RdInts W (.slice (some ⟨w3.heap.size + 1, 0, none⟩) 3 3) exPl ∧ TabW W ∧ Below w.heap.size w W)) := by
    intro W hW
    have hz := hW.size
    have c1 := (hW.block _ (by omega)).trans ((t4.block _ (by omega)).trans HQ1.out)
    have c2 := (hW.block _ (by omega)).trans ((t4.block _ (by omega)).trans HQ2.out)
    have c3 := (hW.block _ (by omega)).trans t1
    have c4 := (hW.block _ (by omega)).trans t2
    have bW : Below w1.heap.size w1 W := below_c b14 b14.size hW
    have b3W : Below w3.heap.size w3 W := below_c t4 t4.size hW
    have bw : Below w.heap.size w W := below_c HB1.out HB1.out.size bW
    exact ⟨⟨cells4 c1, cells4 c2, ⟨cell_of_row _ _ 0 _ _ _ c3, cell_of_row _ _ 1 _ _ _ c3⟩, by omega, by omega, by omega⟩, HT3.out.below b3W, HL1.out.below bW, HP1.out.below bW, rd_ints_block (zs := [0, 0, 1]) c4, HTB.out.below bw, bw⟩
  clear hW4 t1 t2 t4 t5 b14 m0 m1 m2 m3 k0 k1 k2 k3 HEX HE4
  obtain ⟨_, r1, r2, r3, r4, _, _⟩ := HK.out W4 (Below.refl _ _)
  refine (HMK.out W4 _ _ _ _ _ _ _ _ _ r1 r2 r3 r4).mono ?_
  clear r1 r2 r3 r4 HMK l1 l2
  rintro e w5 ⟨ax, cx, rfl, hb5, hn5⟩
  obtain ⟨⟨⟨m0, m1, m2, m3⟩, ⟨k0, k1, k2, k3⟩, ⟨y0, y1⟩, l1, l2, l3⟩, _⟩ := HK.out w5 hb5
  go_wp2_with fail
  obtain ⟨W6, hW6⟩ : ∃ W6, W6 = w5.alloc (.cells #[.slice ax 2 cx, .int .i64 2, .int .i64 3, .int .i64 1, .int .i64 30, .int .i64 350, .int .i64 10, .int .i64 10, .int .i64 330, .int .i64 2, .int .i64 2, .int .i64 2] 44) := ⟨_, rfl⟩
  have h6 : W6.heap[w5.heap.size]? = some (.cells #[.slice ax 2 cx, .int .i64 2, .int .i64 3, .int .i64 1, .int .i64 30, .int .i64 350, .int .i64 10, .int .i64 10, .int .i64 330, .int .i64 2, .int .i64 2, .int .i64 2] 44 (0, 0)) := by rw [hW6]; exact alloc_new w5 _
  have b56 : Below w5.heap.size w5 W6 := by rw [hW6]; exact (Below.refl _ w5).alloc (Nat.le_refl _) _
  have s6 : W6.heap.size = w5.heap.size + 1 := by rw [hW6]; simp
  rw [← hW6]
  have b46 := below_c hb5 hb5.size b56
  have hn6 := hn5.below b56
  obtain ⟨G, hG⟩ : ∃ G, G = w5.heap.size := ⟨_, rfl⟩
  rw [← hG] at h6 s6 ⊢
  clear hW6 hG m0 m1 m2 m3 k0 k1 k2 k3 y0 y1 l1 l2 l3 hb5 hn5 b56
  have HM : Hid (∀ W, Below W6.heap.size W6 W → W.heap[G]? = some (.cells #[.slice ax 2 cx, .int .i64 2, .int .i64 3, .int .i64 1, .int .i64 30, .int .i64 350, .int .i64 10, .int .i64 10, .int .i64 330, .int .i64 2, .int .i64 2, .int .i64 2] 44 (0, 0)) ∧ G < W.heap.size ∧ RdLns W (.slice ax 2 cx) exMan.lines) := fun W hW => ⟨(hW.block _ (by omega)).trans h6, by have := hW.size; omega, hn6.below hW⟩
  clear h6 hn6 s6
  obtain ⟨_, r1, r2, r3, r4, _, _⟩ := HK.out W6 b46
  refine (HPK.out W6 _ _ _ _ _ r2 r3 r4).mono ?_
  clear r1 r2 r3 r4 HPK
  rintro e w7 ⟨ab, cb, at', ct, ac, cc, rfl, hb7, hn7⟩
  have b47 := below_c b46 b46.size hb7
  obtain ⟨⟨⟨m0, m1, m2, m3⟩, ⟨k0, k1, k2, k3⟩, ⟨y0, y1⟩, l1, l2, l3⟩, _⟩ := HK.out w7 b47
  obtain ⟨h7, l4, _⟩ := HM.out w7 hb7
  obtain ⟨n0, n1, n2, n3, n4, n5, n6, n7, n8, n9, n10, n11⟩ := cells12 h7
  clear h7
  go_wp2_with fail
  obtain ⟨W8, hW8⟩ : ∃ W8, W8 = w7.alloc (.cells #[.slice ab 2 cb, .slice at' 2 ct, .slice ac 2 cc] 39) := ⟨_, rfl⟩
  have b78 : Below w7.heap.size w7 W8 := by rw [hW8]; exact (Below.refl _ w7).alloc (Nat.le_refl _) _
  rw [← hW8]
  have b48 := below_c b47 b47.size b78
  have b68 := below_c hb7 hb7.size b78
  have hn8 := hn7.below b78
  clear hW8 b78 hn7 b47 hb7 m0 m1 m2 m3 k0 k1 k2 k3 y0 y1 l1 l2 l3 l4 n0 n1 n2 n3 n4 n5 n6 n7 n8 n9 n10 n11
  obtain ⟨_, r1, r2, r3, r4, _, _⟩ := HK.out W8 b48
  obtain ⟨_, _, r5⟩ := HM.out W8 b68
  refine (HRC.out W8 _ _ _ _ _ _ _ _ _ _ _ _ _ _ _ _ _ _ r1 r2 r3 r4 hn8 r5).mono ?_
  clear r1 r2 r3 r4 r5 HRC hn8
  rintro e w9 ⟨rfl, hb9⟩
  have b49 := below_c b48 b48.size hb9
  have b69 := below_c b68 b68.size hb9
  obtain ⟨h9, l4, _⟩ := HM.out w9 b69
  obtain ⟨n0, n1, n2, n3, n4, n5, n6, n7, n8, n9, n10, n11⟩ := cells12 h9
  clear h9 b48 b68 hb9
  go_wp2_with fail
  obtain ⟨_, r1, r2, r3, r4, r6, _⟩ := HK.out w9 b49
  obtain ⟨_, _, r5⟩ := HM.out w9 b69
  refine (HTX.out w9 _ _ _ _ r6 r2 r5).mono ?_
  clear r1 r2 r3 r4 r5 r6 HTX n0 n1 n2 n3 n4 n5 n6 n7 n8 n9 n10 n11
  rintro e w10 ⟨rfl, hb10⟩
  have b410 := below_c b49 b49.size hb10
  have b610 := below_c b69 b69.size hb10
  have hs46 := b46.size
  obtain ⟨h10, l4, _⟩ := HM.out w10 b610
  obtain ⟨n0, n1, n2, n3, n4, n5, n6, n7, n8, n9, n10, n11⟩ := cells12 h10
  clear h10 b49 b69 hb10 b46
  go_upto_region 9 with fail
  obtain ⟨W11, hW11⟩ : ∃ W, W = (w10.alloc (.cells #[.int .i64 0, .int .i64 2, .int .i64 1, .int .i64 20, .int .i64 200, .int .i64 10, .int .i64 10, .int .i64 180, .int .i64 1, .int .i64 1, .int .i64 0, .int .i64 10, .int .i64 150, .int .i64 0, .int .i64 0, .int .i64 150] 42)).alloc (.cells #[.slice (some ⟨w10.heap.size, 0, none⟩) 2 2, .int .i64 2, .int .i64 3, .int .i64 1, .int .i64 30, .int .i64 350, .int .i64 10, .int .i64 10, .int .i64 330, .int .i64 2, .int .i64 2, .int .i64 2] 44) := ⟨_, rfl⟩
  rw [← hW11]
  obtain ⟨t1, t2, t3, t4⟩ := two_new hW11
  obtain ⟨_, _, r5⟩ := HM.out W11 (below_c b610 b610.size t4)
  have r6 := want_lines t1
  have hm11 := (HM.out W11 (below_c b610 b610.size t4)).1
  obtain ⟨v0, v1, v2, v3, v4, v5, v6, v7, v8, v9, v10, v11⟩ := cells12 t2
  obtain ⟨x0, x1, x2, x3, x4, x5, x6, x7, x8, x9, x10, x11⟩ := cells12 hm11
  have HS11 := Lib.hid (HSM.out W11 _ _ _ _ r5 r6)
  obtain ⟨_, _, _, _, _, _, hbw⟩ := HK.out W11 (below_c b410 b410.size t4)
  have HBW := Lib.hid hbw
  have HT4 := Lib.hid t4
  clear hW11 t1 t2 t3 t4 r5 r6 hm11 hbw n0 n1 n2 n3 n4 n5 n6 n7 n8 n9 n10 n11 l4 b410 b610 HK HM HSM HTB HB1 HL1 HP1 HQ1 HQ2 HB3 HT3 s3
  go_wp2_with (go_at_call 21; refine HS11.out.mono ?_; rintro e w12 ⟨rfl, hb12⟩; have HB12 := Lib.hid hb12; clear hb12)
  go_ret
  exact ⟨rfl, below_c HBW.out HBW.out.size HB12.out⟩
end Go.Proofs.YtojedplbhialpaaGreatDoor
