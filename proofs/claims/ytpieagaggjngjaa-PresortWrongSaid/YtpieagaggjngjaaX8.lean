/-
  Copies of pieces and mailings; pieces of the call's own, changed.
-/
import Derived.Test.YtpieagaggjngjaaX6
import Derived.Test.YtpieagaggjngjaaWT
namespace Go.Proofs.Ytpieagaggjngjaa
open Go.RowKit Go.Sort
set_option linter.unusedVariables false
set_option maxRecDepth 100000
theorem pces_news {w : World} {g off : Nat} {ps : List Pce} (h : ∀ i (h : i < ps.length), PceAt w g (off + i * 5) ps[i]) :
    ∀ j u, (ps.flatMap pceC)[j]? = some u → w.cell? ((⟨g, off, none⟩ : Addr).add j) = some u := fun j u hj => by
  rw [addr_add]
  refine flat_newsN (f := pceC) (n := 5) (off := off) (fun _ => rfl) ps off (fun i hi j u hj => ?_) j u hj
  obtain ⟨h0, h1, h2, h3, h4⟩ := h i hi
  match j, hj with
  | 0, hj => simp [pceC] at hj; subst hj; exact h0
  | 1, hj => simp [pceC] at hj; subst hj; exact h1
  | 2, hj => simp [pceC] at hj; subst hj; exact h2
  | 3, hj => simp [pceC] at hj; subst hj; exact h3
  | 4, hj => simp [pceC] at hj; subst hj; exact h4
  | j + 5, hj => simp [pceC] at hj
set_option maxHeartbeats 4000000 in
theorem copyPieces_any {ps : List Pce} {v : Value} {w : World} (h : RdPces w v ps) (hl : ps.length ≤ 100000) :
    Calls Try.prog 42 #[v] w fun e w' => ∃ v', e = .returned v' ∧ Below w.heap.size w w' ∧ OwnsP w' w.heap.size v' ps := by
  obtain ⟨a, cap, rfl, hc⟩ := h
  obtain ⟨j0, hj⟩ := info_parts Try.infoPc
  have HJ := Lib.hid hj
  clear hj
  by_cases h0 : 0 < ps.length
  · obtain ⟨g, off, rfl, hg, hcc⟩ := hc h0
    have HNW := Lib.hid (pces_news hcc)
    have HLN := Lib.hid (flat_lenN (f := pceC) (n := 5) (fun _ => rfl) ps)
    have HON := Lib.hid (flat_oneN (f := pceC) (by intro x u hu; simp [pceC] at hu; rcases hu with rfl | rfl | rfl | rfl | rfl <;> rfl) ps)
    clear hc hcc
    go_enter Try.func42, Try.ntmps42
    go_wp2_with (at_builtin; refine wpList_append_own _ rfl _ _ 26 rfl w.heap.size 57 j0 (.agg #[.int .i64 0, .int .i64 0, .string ⟨#[]⟩, .int .i64 0, .bool false]) 5 48 Try.underlying26 HJ.out.1 HJ.out.2.1 HJ.out.2.2.1 HJ.out.2.2.2 rfl (by decide) _ _ _ rfl (World.ownsRow_nil _ _ _ _) ⟨g, off, none⟩ ps.length cap (ps.flatMap pceC) rfl HLN.out HNW.out HON.out (by unfold maxLen; omega) (by omega) (Nat.le_refl _) ?_; intro v' w5 hown' hgrow _)
    rw [Nat.zero_add, List.nil_append] at hown'
    go_ret
    exact ⟨_, rfl, (Below.refl _ w).grown hgrow (Nat.le_refl _) (fun _ e => by cases e), hown'⟩
  · obtain rfl : ps = [] := List.length_eq_zero_iff.1 (by omega)
    clear hc
    go_enter Try.func42, Try.ntmps42
    go_wp2_with (at_builtin; refine wpList_append_nothing _ rfl _ _ 26 26 rfl 57 57 j0 Try.underlying26 HJ.out.1 Try.underlying26 rfl a cap rfl ?_)
    go_ret
    exact ⟨_, rfl, Below.refl _ w, World.ownsRow_nil _ _ _ _⟩
theorem box_set3 {w : World} {g : Nat} {a b c d u : Value} {t : TypeId} {fr : Nat × Nat} (h : w.heap[g]? = some (.cells #[a, b, c, d] t fr)) : (w.setCell ⟨g, 3, none⟩ u).heap[g]? = some (.cells #[a, b, c, u] t fr) := by
  simp [World.setCell, Array.getElem?_modify, h]
theorem cells4b {w : World} {g : Nat} {a b c d : Value} {t : TypeId} {fr : Nat × Nat} (h : w.heap[g]? = some (.cells #[a, b, c, d] t fr)) :
    w.cell? ⟨g, 0, none⟩ = some a ∧ w.cell? ⟨g, 1, none⟩ = some b ∧ w.cell? ⟨g, 2, none⟩ = some c ∧ w.cell? ⟨g, 3, none⟩ = some d :=
  ⟨cell_of_row _ _ 0 _ _ _ h, cell_of_row _ _ 1 _ _ _ h, cell_of_row _ _ 2 _ _ _ h, cell_of_row _ _ 3 _ _ _ h⟩
theorem OwnsP.form {w : World} {base : Nat} {v : Value} {ps : List Pce} (h : OwnsP w base v ps) : ∃ a cap, v = .slice a ps.length cap := by
  rcases Joins.ownsRow_forms h with ⟨rfl, hp⟩ | ⟨g, cap, rfl⟩
  · exact ⟨none, 0, by rw [hp]⟩
  · exact ⟨_, cap, rfl⟩
set_option maxHeartbeats 4000000 in
theorem copyMailing_any {ps : List Pce} {c1 c2 : Int} {o : ByteArray} {v : Value} {w : World} (h : RdPces w v ps) (hl : ps.length ≤ 100000) :
    Calls Try.prog 19 #[.agg #[.int .u8 c1, .int .u8 c2, .string o, v]] w fun e w' => ∃ v', e = .returned (.agg #[.int .u8 c1, .int .u8 c2, .string o, v']) ∧ Below w.heap.size w w' ∧ OwnsP w' w.heap.size v' ps := by
  have HC := Lib.hid (fun W (hW : Below w.heap.size w W) => copyPieces_any (h.below hW) hl)
  obtain ⟨a, cap, rfl, _⟩ := h
  go_enter Try.func19, Try.ntmps19
  go_wp2_with (first
    | (go_at_call 42; refine (HC.out _ (((Below.refl _ w).alloc (Nat.le_refl _) _).alloc (by simp) _)).mono ?_; rintro e w1 ⟨v', rfl, hb1, ho1⟩; obtain ⟨a', c', rfl⟩ := ho1.form; obtain ⟨k0, k1, hz⟩ := two_boxes hb1; (have k0' := box_set3 (u := .slice a' ps.length c') k0); (have k1' := (Below.heap_setCell w1 ⟨w.heap.size, 3, none⟩ (.slice a' ps.length c') (w.heap.size + 1) (by show w.heap.size + 1 ≠ w.heap.size; omega)).trans k1); (have c3 := cell_of_row _ _ 3 _ _ _ k0); (have y3 := free_row k0 3); obtain ⟨q0, q1, q2, q3⟩ := cells4b k0'; obtain ⟨z0, z1, z2, z3⟩ := cells4b k1'; (have y := free_row k1'); (have f0 := y 0); (have f1 := y 1); (have f2 := y 2); (have f3 := y 3); (have HK1 := Lib.hid k1'); (have HO := Lib.hid ho1); (have HB := Lib.hid hb1); (have HZ := Lib.hid hz); clear k0 k1 k0' k1' y ho1 hb1 hz))
  refine bodyPost_ret (results_cell_row rfl _ _ (w.heap.size + 1) 28 _ (0, 0) _ rfl (set4 HK1.out) Try.underlying28 rfl (by kernel_rfl)) rfl ?_
  refine ⟨_, rfl, ?_, ?_⟩
  · have hb : Below w.heap.size w w1 := (((Below.refl _ w).alloc (Nat.le_refl _) _).alloc (by simp) _).trans (HB.out.mono (by rw [World.size_alloc, World.size_alloc]; omega))
    exact ((((hb.setCell (p := ⟨w.heap.size, 3, none⟩) (Nat.le_refl _) _).setCell (p := ⟨w.heap.size + 1, 0, none⟩) (Nat.le_succ _) _).setCell (p := ⟨w.heap.size + 1, 1, none⟩) (Nat.le_succ _) _).setCell (p := ⟨w.heap.size + 1, 2, none⟩) (Nat.le_succ _) _).setCell (p := ⟨w.heap.size + 1, 3, none⟩) (Nat.le_succ _) _
  · have ho := HO.out
    simp only [World.size_alloc] at ho
    have k : ∀ {W : World} {g j : Nat} (u : Value), g ≤ w.heap.size + 1 → OwnsP W (w.heap.size + 1 + 1) (.slice a' ps.length c') ps → OwnsP (W.setCell ⟨g, j, none⟩ u) (w.heap.size + 1 + 1) (.slice a' ps.length c') ps := fun u hg h => own_past h (Nat.lt_succ_of_le hg) u
    exact OwnsP.mono (k _ (by omega) (k _ (by omega) (k _ (by omega) (k _ (by omega) (k _ (by omega) ho))))) (by omega)
theorem pCells_set (L : List Pce) (k j : Nat) (h : k < L.length) (hj : j < 5) (u : Value) (p' : Pce) (hp : pceC p' = (pceC L[k]).set j u) : (L.flatMap pceC).set (k * 5 + j) u = (L.set k p').flatMap pceC := by
  induction L generalizing k with
  | nil => simp at h
  | cons p r ih =>
    have hl : (pceC p).length = 5 := rfl
    cases k with
    | zero =>
      rw [List.flatMap_cons, Nat.zero_mul, Nat.zero_add, List.set_append_left _ _ (by omega), List.set_cons_zero, List.flatMap_cons, hp]
      rfl
    | succ k =>
      rw [List.flatMap_cons, List.set_append_right _ _ (by rw [hl]; omega), hl, show (k + 1) * 5 + j - 5 = k * 5 + j by omega, ih k (by simpa using h) hp]
      rfl
theorem OwnsP.put {w : World} {base g cap n : Nat} {ps : List Pce} (h : OwnsP w base (.slice (some ⟨g, 0, none⟩) n cap) ps) (i j : Nat) (hi : i < ps.length) (hj : j < 5) (p' : Pce) (u : Value) (hu : pceC p' = (pceC ps[i]).set j u) :
    OwnsP (w.setCell ⟨g, i * 5 + j, none⟩ u) base (.slice (some ⟨g, 0, none⟩) n cap) (ps.set i p') := by
  obtain ⟨_, _, e⟩ := h.form
  injection e with _ e _
  subst e
  have h' : w.ownsRow base 57 5 (.slice (some ⟨g, 0, none⟩) ps.length cap) ps.length (ps.flatMap pceC) := h
  have hst := (h'.stored (i * 5 + j) u).1
  unfold OwnsP
  rw [List.length_set, ← pCells_set ps i j hi hj u p' hu]
  exact hst
theorem set_set_same {α : Type} (l : List α) (i : Nat) (a b : α) : (l.set i a).set i b = l.set i b := by simp
/-- Four fields of a piece are stored. -/
theorem OwnsP.put4 {w : World} {base g cap n : Nat} {ps : List Pce} (h : OwnsP w base (.slice (some ⟨g, 0, none⟩) n cap) ps) (i : Nat) (hi : i < ps.length) (a b d : Int) (e : Bool) :
    OwnsP ((((w.setCell ⟨g, i * 5, none⟩ (.int .i64 a)).setCell ⟨g, i * 5 + 1, none⟩ (.int .i64 b)).setCell ⟨g, i * 5 + 3, none⟩ (.int .i64 d)).setCell ⟨g, i * 5 + 4, none⟩ (.bool e)) base (.slice (some ⟨g, 0, none⟩) n cap) (ps.set i ⟨a, b, ps[i].code, d, e⟩) := by
  have h1 := OwnsP.put h i 0 hi (by omega) { ps[i] with id := a } (.int .i64 a) rfl
  have h2 := OwnsP.put h1 i 1 (by simpa using hi) (by omega) { { ps[i] with id := a } with point := b } (.int .i64 b) (by rw [List.getElem_set_self]; rfl)
  rw [set_set_same] at h2
  have h3 := OwnsP.put h2 i 3 (by simpa using hi) (by omega) { { { ps[i] with id := a } with point := b } with grams := d } (.int .i64 d) (by rw [List.getElem_set_self]; rfl)
  rw [set_set_same] at h3
  have h4 := OwnsP.put h3 i 4 (by simpa using hi) (by omega) { { { { ps[i] with id := a } with point := b } with grams := d } with barred := e } (.bool e) (by rw [List.getElem_set_self]; rfl)
  rw [set_set_same] at h4
  exact h4
end Go.Proofs.Ytpieagaggjngjaa
