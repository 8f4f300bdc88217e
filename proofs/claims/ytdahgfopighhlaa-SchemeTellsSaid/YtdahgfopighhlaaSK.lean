/-
  Contract of awake: the examples of the chapter hold.
-/
import Derived.Test.YtdahgfopighhlaaSJ
namespace Go.Proofs.Ytdahgfopighhlaa
open Go.RowKit
set_option linter.unusedVariables false
set_option maxRecDepth 100000
theorem path_ex (c : ByteArray) (P : List ByteArray) (h : pathR exLevs c = (P, 0)) (hc : c.size ≤ maxLen) (hP : 0 < P.length) (v : Value) (w W : World) (hr : RdLevs W v exLevs) (hw : Below w.heap.size w W) : Calls Try.prog 17 #[v, .string c] W fun e w' => ∃ v g cap, e = .returned (.tuple #[v, .int .i64 0]) ∧ Below w.heap.size w w' ∧ Below W.heap.size W w' ∧ ReadsT w' v P ∧ v = .slice (some ⟨g, 0, none⟩) P.length cap := by
  refine (path_any exLevs v c W hr ex_fits (by decide) hc).mono ?_
  rintro e w' ⟨v', rfl, hb, ho⟩
  rw [h] at ho ⊢
  obtain ⟨g, cap, hv⟩ := Joins.ownsRow_form ho hP
  exact ⟨v', g, cap, rfl, below_c hw hw.size hb, hb, ReadsT.of_row ho, hv⟩
theorem rd_texts {W : World} {n : Nat} {T : TypeId} (ls : List ByteArray) (h : W.heap[n]? = some (.cells (ls.map Value.string).toArray T (0, 0))) : ReadsT W (.slice (some ⟨n, 0, none⟩) ls.length ls.length) ls := by
  refine ⟨_, _, rfl, fun _ => ⟨n, 0, rfl, (Array.getElem?_eq_some_iff.1 h).1, fun i hi => ?_⟩⟩
  rw [Nat.zero_add, cell_of_row _ n i _ _ _ h]
  simp [hi]
theorem bad_reads {W : World} {g b c : Nat} (hg : W.heap[g]? = some (.cells #[.string ⟨#[53]⟩, .int .i64 5, .slice (some ⟨c, 0, none⟩) 1 1, .int .i64 10, .int .i64 9, .string ⟨#[51]⟩, .int .i64 3, .slice (some ⟨b, 0, none⟩) 2 2, .int .i64 10, .int .i64 5, .string ⟨#[97, 108, 108]⟩, .int .i64 0, .slice none 0 0, .int .i64 0, .int .i64 0] 45 (0, 0))) (hb : W.heap[b]? = some exLabO)
    (hc : W.heap[c]? = some (.cells #[.string ⟨#[49, 48, 48, 50, 51]⟩, .string ⟨#[50, 48, 48, 48, 49]⟩] 47 (0, 0))) : RdLevs W (.slice (some ⟨g, 0, none⟩) 3 3) badLevs := by
  have hgl := (Array.getElem?_eq_some_iff.1 hg).1
  have hbl := (Array.getElem?_eq_some_iff.1 hb).1
  have hcl := (Array.getElem?_eq_some_iff.1 hc).1
  have cg : ∀ j, W.cell? ⟨g, j, none⟩ = _ := fun j => cell_of_row W g j _ _ _ hg
  have cb : ∀ j, W.cell? ⟨b, j, none⟩ = _ := fun j => cell_of_row W b j _ _ _ hb
  have cc : ∀ j, W.cell? ⟨c, j, none⟩ = _ := fun j => cell_of_row W c j _ _ _ hc
  refine ⟨_, 3, rfl, fun _ => ⟨g, 0, rfl, hgl, fun i hi => ?_⟩⟩
  have h3 : i = 0 ∨ i = 1 ∨ i = 2 := by have : i < 3 := hi
                                        omega
  rcases h3 with rfl | rfl | rfl
  · refine ⟨.slice (some ⟨c, 0, none⟩) 1 1, ⟨_, 1, rfl, fun _ => ⟨c, 0, rfl, hcl, fun j hj => ?_⟩⟩, cg 0, cg 1, cg 2, cg 3, cg 4⟩
    obtain rfl : j = 0 := by have : j < 1 := hj
                             omega
    exact ⟨cc 0, cc 1⟩
  · refine ⟨.slice (some ⟨b, 0, none⟩) 2 2, ⟨_, 2, rfl, fun _ => ⟨b, 0, rfl, hbl, fun j hj => ?_⟩⟩, cg 5, cg 6, cg 7, cg 8, cg 9⟩
    have h2 : j = 0 ∨ j = 1 := by have : j < 2 := hj
                                  omega
    rcases h2 with rfl | rfl
    · exact ⟨cb 0, cb 1⟩
    · exact ⟨cb 2, cb 3⟩
  · exact ⟨.slice none 0 0, rd_nil W, cg 10, cg 11, cg 12, cg 13, cg 14⟩
theorem bad_fits : ∀ l ∈ badLevs, LevFits l := by
  intro l hl
  have h : l = badLevs[0] ∨ l = badLevs[1] ∨ l = badLevs[2] := by simpa [badLevs] using hl
  rcases h with rfl | rfl | rfl
  · refine ⟨by decide, by decide, fun x hx => ?_⟩
    obtain rfl : x = ⟨⟨#[49, 48, 48, 50, 51]⟩, ⟨#[50, 48, 48, 48, 49]⟩⟩ := by simpa [badLevs] using hx
    exact ⟨by decide, by decide⟩
  · exact ex_fits exLevs[1] (by simp [exLevs])
  · exact ⟨by decide, by decide, fun x hx => by cases hx⟩
/-- The groups that the chapter's example has, as a literal lays them. -/
theorem want_reads {W : World} {g a b c d e f : Nat} {T : TypeId} (hg : W.heap[g]? = some (.cells #[.int .i64 0, .string ⟨#[49, 48, 48, 50, 51]⟩, .int .i64 4, .slice (some ⟨a, 0, none⟩) 1 1, .int .i64 0, .string ⟨#[49, 48, 49, 48, 48]⟩, .int .i64 4, .slice (some ⟨b, 0, none⟩) 1 1, .int .i64 0, .string ⟨#[50, 48, 48, 48, 49]⟩, .int .i64 3, .slice (some ⟨c, 0, none⟩) 1 1,
      .int .i64 1, .string ⟨#[50, 48, 48]⟩, .int .i64 5, .slice (some ⟨d, 0, none⟩) 1 1, .int .i64 1, .string ⟨#[67, 73, 84, 89]⟩, .int .i64 5, .slice (some ⟨e, 0, none⟩) 2 2, .int .i64 2, .string ⟨#[]⟩, .int .i64 (-1), .slice (some ⟨f, 0, none⟩) 3 3] T (0, 0)))
    (ha : W.heap[a]? = some (.cells #[.int .i64 1] 3 (0, 0))) (hb : W.heap[b]? = some (.cells #[.int .i64 2] 3 (0, 0))) (hc : W.heap[c]? = some (.cells #[.int .i64 0] 3 (0, 0))) (hd : W.heap[d]? = some (.cells #[.int .i64 0] 3 (0, 0))) (he : W.heap[e]? = some (.cells #[.int .i64 1, .int .i64 2] 3 (0, 0))) (hf : W.heap[f]? = some (.cells #[.int .i64 0, .int .i64 1, .int .i64 2] 3 (0, 0))) :
    RdGrps W (.slice (some ⟨g, 0, none⟩) 6 6) exWant := by
  have cg : ∀ j, W.cell? ⟨g, j, none⟩ = _ := fun j => cell_of_row W g j _ _ _ hg
  have row : ∀ {n : Nat} {zs : List Int}, W.heap[n]? = some (.cells (zs.map (Value.int .i64)).toArray 3 (0, 0)) → RdInts W (.slice (some ⟨n, 0, none⟩) zs.length zs.length) zs := fun {n zs} h =>
    RdInts.of_row ⟨n, zs.length, _, rfl, h, List.take_of_length_le (by simp)⟩
  refine ⟨_, 6, rfl, fun _ => ⟨g, 0, rfl, (Array.getElem?_eq_some_iff.1 hg).1, fun i hi => ?_⟩⟩
  have h6 : i = 0 ∨ i = 1 ∨ i = 2 ∨ i = 3 ∨ i = 4 ∨ i = 5 := by have : i < 6 := hi
                                                                omega
  rcases h6 with rfl | rfl | rfl | rfl | rfl | rfl
  · exact ⟨_, row (zs := [1]) ha, cg 0, cg 1, cg 2, cg 3⟩
  · exact ⟨_, row (zs := [2]) hb, cg 4, cg 5, cg 6, cg 7⟩
  · exact ⟨_, row (zs := [0]) hc, cg 8, cg 9, cg 10, cg 11⟩
  · exact ⟨_, row (zs := [0]) hd, cg 12, cg 13, cg 14, cg 15⟩
  · exact ⟨_, row (zs := [1, 2]) he, cg 16, cg 17, cg 18, cg 19⟩
  · exact ⟨_, row (zs := [0, 1, 2]) hf, cg 20, cg 21, cg 22, cg 23⟩
theorem groups_ex (v : Value) (w W : World) (hr : RdLevs W v exLevs) (hw : Below w.heap.size w W) : Calls Try.prog 14 #[v, .slice (some ⟨W.heap.size, 0, none⟩) 3 3] (W.alloc (.cells #[.string ⟨#[50, 48, 48, 48, 49]⟩, .string ⟨#[49, 48, 48, 50, 51]⟩, .string ⟨#[49, 48, 49, 48, 48]⟩] 9)) fun e w' => ∃ g cap, e = .returned (.tuple #[.slice (some ⟨g, 0, none⟩) 6 cap, .int .i64 0]) ∧ Below w.heap.size w w' ∧ Below W.heap.size W w' ∧ RdGrps w' (.slice (some ⟨g, 0, none⟩) 6 cap) exWant := by
  have hb := (Below.refl _ W).alloc (Nat.le_refl _) (.cells #[.string ⟨#[50, 48, 48, 48, 49]⟩, .string ⟨#[49, 48, 48, 50, 51]⟩, .string ⟨#[49, 48, 49, 48, 48]⟩] 9)
  have := groups_any exLevs v (.slice (some ⟨W.heap.size, 0, none⟩) 3 3) [exC2, exC1, exC3] _ (hr.below hb) ex_fits (by decide) (rd_texts (T := 9) [exC2, exC1, exC3] (alloc_new W _)) (by decide) (by
    intro c hc
    have h : c = exC2 ∨ c = exC1 ∨ c = exC3 := by simpa using hc
    rcases h with rfl | rfl | rfl <;> decide)
  rw [ev_groups] at this
  refine this.mono ?_
  rintro e w' ⟨v', rfl, hb', ho⟩
  have ho' := ho
  obtain ⟨L, hL, _, hrow⟩ := ho'
  have hl : L.length = 6 := by rw [← List.length_map (f := Prod.fst), hL]; rfl
  rw [hl] at hrow
  obtain ⟨g, cap, rfl⟩ := Joins.ownsRow_form hrow (by decide)
  exact ⟨g, cap, rfl, below_ac hw hw.size hb', below_ac (Below.refl _ W) (Nat.le_refl _) hb', RdGrps.of_owns ho⟩
def allocs (W : World) (os : List Obj) : World := os.foldl World.alloc W
theorem allocs_heap (os : List Obj) : ∀ W : World, (allocs W os).heap.toList = W.heap.toList ++ os := by
  induction os with
  | nil => intro W; simp [allocs]
  | cons o r ih =>
    intro W
    show (allocs (W.alloc o) r).heap.toList = _
    rw [ih]
    show (W.heap.push o).toList ++ r = _
    simp
theorem allocs_block (W : World) (os : List Obj) (j : Nat) {o : Obj} (h : os[j]? = some o) : (allocs W os).heap[W.heap.size + j]? = some o := by
  rw [← Array.getElem?_toList, allocs_heap, List.getElem?_append_right (by simp)]
  simpa using h
theorem allocs_below (os : List Obj) : ∀ (B : Nat) (w W : World), Below B w W → B ≤ W.heap.size → Below B w (allocs W os) := by
  induction os with
  | nil => intro B w W h _; exact h
  | cons o r ih => intro B w W h hB; exact ih B w (W.alloc o) (h.alloc hB o) (by simp; omega)
def litO (n : Nat) : List Obj :=
  [.cells #[.int .i64 1] 3, .cells #[.int .i64 2] 3, .cells #[.int .i64 0] 3, .cells #[.int .i64 0] 3, .cells #[.int .i64 1, .int .i64 2] 3, .cells #[.int .i64 0, .int .i64 1, .int .i64 2] 3,
    .cells #[.int .i64 0, .string ⟨#[49, 48, 48, 50, 51]⟩, .int .i64 4, .slice (some ⟨n, 0, none⟩) 1 1, .int .i64 0, .string ⟨#[49, 48, 49, 48, 48]⟩, .int .i64 4, .slice (some ⟨n + 1, 0, none⟩) 1 1, .int .i64 0, .string ⟨#[50, 48, 48, 48, 49]⟩, .int .i64 3, .slice (some ⟨n + 1 + 1, 0, none⟩) 1 1,
      .int .i64 1, .string ⟨#[50, 48, 48]⟩, .int .i64 5, .slice (some ⟨n + 1 + 1 + 1, 0, none⟩) 1 1, .int .i64 1, .string ⟨#[67, 73, 84, 89]⟩, .int .i64 5, .slice (some ⟨n + 1 + 1 + 1 + 1, 0, none⟩) 2 2, .int .i64 2, .string ⟨#[]⟩, .int .i64 (-1), .slice (some ⟨n + 1 + 1 + 1 + 1 + 1, 0, none⟩) 3 3] 36]
theorem lit_reads (W : World) : RdGrps (allocs W (litO W.heap.size)) (.slice (some ⟨W.heap.size + 1 + 1 + 1 + 1 + 1 + 1, 0, none⟩) 6 6) exWant :=
  want_reads (allocs_block W _ 6 rfl) (allocs_block W _ 0 rfl) (allocs_block W _ 1 rfl) (allocs_block W _ 2 rfl) (allocs_block W _ 3 rfl) (allocs_block W _ 4 rfl) (allocs_block W _ 5 rfl)
def badO (n : Nat) : List Obj :=
  [exLabO, .cells #[.string ⟨#[53]⟩, .int .i64 5, .slice (some ⟨n + 1 + 1, 0, none⟩) 1 1, .int .i64 10, .int .i64 9, .string ⟨#[51]⟩, .int .i64 3, .slice (some ⟨n, 0, none⟩) 2 2, .int .i64 10, .int .i64 5, .string ⟨#[97, 108, 108]⟩, .int .i64 0, .slice none 0 0, .int .i64 0, .int .i64 0] 45,
    .cells #[.string ⟨#[49, 48, 48, 50, 51]⟩, .string ⟨#[50, 48, 48, 48, 49]⟩] 47]
theorem badO_reads (W : World) : RdLevs (allocs W (badO W.heap.size)) (.slice (some ⟨W.heap.size + 1, 0, none⟩) 3 3) badLevs :=
  bad_reads (allocs_block W _ 1 rfl) (allocs_block W _ 0 rfl) (allocs_block W _ 2 rfl)
set_option maxHeartbeats 8000000 in
theorem awake_any (w : World) : Calls Try.prog 10 #[] w fun e w' => e = .returned (.bool true) ∧ Below w.heap.size w w' := by
  have HEX := Lib.hid example_any
  go_enter Try.func10, Try.ntmps10
  go_wp2_with fail
  refine (HEX.out _).mono ?_
  rintro e W1 ⟨rfl, hW1⟩
  have hx : RdLevs W1 (.slice (some ⟨w.heap.size + 1, 0, none⟩) 3 3) exLevs := by
    rw [← hW1]
    refine ex_reads (b := w.heap.size) ?_ ?_
    · have := alloc_new (w.alloc exLabO) (exLevO w.heap.size)
      simpa using this
    · exact (((Below.refl _ (w.alloc exLabO)).alloc (Nat.le_refl _) _).block w.heap.size (by simp)).trans (alloc_new w _)
  have hB : Below w.heap.size w W1 := by rw [← hW1]; exact ((Below.refl _ w).alloc (Nat.le_refl _) _).alloc (by simp) _
  clear hW1
  have HX := Lib.hid hx
  clear hx
  go_wp2_with fail
  refine (path_ex exC1 exP1 ev_p1 (by decide) (by decide) _ w W1 HX.out hB).mono ?_
  rintro e W2 ⟨va, ga, ca, rfl, hB2, hb12, ra, hva⟩
  subst hva
  have HX2 := Lib.hid (HX.out.below hb12)
  clear hB hb12 HX
  go_wp2_with fail
  refine (path_ex exC2 exP2 ev_p2 (by decide) (by decide) _ w W2 HX2.out hB2).mono ?_
  rintro e W3 ⟨vb, gb, cb, rfl, hB3, hb23, rb, hvb⟩
  subst hvb
  have HX3 := Lib.hid (HX2.out.below hb23)
  have RA := Lib.hid (ra.below hb23)
  have RB := Lib.hid rb
  clear hB2 hb23 HX2 ra rb
  go_wp2_with fail
  refine (groups_ex _ w W3 HX3.out hB3).mono ?_
  rintro e W4 ⟨gg, cg, rfl, hB4, hb34, rg⟩
  have HX4 := Lib.hid (HX3.out.below hb34)
  have RA4 := Lib.hid (RA.out.below hb34)
  have RB4 := Lib.hid (RB.out.below hb34)
  have RG4 := Lib.hid rg
  clear hB3 hb34 HX3 RA RB rg
  go_wp2_with fail
  refine (sameTexts_true exP1 _ _ _ (RA4.out.below ((Below.refl _ W4).alloc (Nat.le_refl _) _)) (rd_texts (T := 9) exP1 (alloc_new W4 _)) (by decide)).mono ?_
  rintro e W5 ⟨rfl, hb5⟩
  have b45 : Below W4.heap.size W4 W5 := below_ac (Below.refl _ W4) (Nat.le_refl _) hb5
  have B5 := below_c hB4 hB4.size b45
  have HX5 := Lib.hid (HX4.out.below b45)
  have RB5 := Lib.hid (RB4.out.below b45)
  have RG5 := Lib.hid (RG4.out.below b45)
  clear hB4 hb5 b45 HX4 RA4 RB4 RG4
  go_wp2_with fail
  refine (sameTexts_true exP2 _ _ _ (RB5.out.below ((Below.refl _ W5).alloc (Nat.le_refl _) _)) (rd_texts (T := 9) exP2 (alloc_new W5 _)) (by decide)).mono ?_
  rintro e W6 ⟨rfl, hb6⟩
  have b56 : Below W5.heap.size W5 W6 := below_ac (Below.refl _ W5) (Nat.le_refl _) hb6
  have B6 := below_c B5 B5.size b56
  have HX6 := Lib.hid (HX5.out.below b56)
  have RG6 := Lib.hid (RG5.out.below b56)
  clear B5 hb6 b56 HX5 RB5 RG5
  go_wp2_with fail
  have RL := Lib.hid (lit_reads W6)
  have BL := allocs_below (litO W6.heap.size) W6.heap.size W6 W6 (Below.refl _ _) (Nat.le_refl _)
  refine (HEX.out (allocs W6 (litO W6.heap.size))).mono ?_
  generalize allocs W6 (litO W6.heap.size) = W7 at RL BL
  rintro e W8 ⟨rfl, hW8⟩
  have HX7 := Lib.hid (HX6.out.below BL)
  have RG7 := Lib.hid (RG6.out.below BL)
  have B7 := below_c B6 B6.size BL
  clear HX6 RG6 B6 BL
  subst hW8
  unfold exLabO exLevO
  go_wp2_with fail
  have b78 := allocs_below (badO W7.heap.size) W7.heap.size W7 W7 (Below.refl _ _) (Nat.le_refl _)
  have BR := Lib.hid (badO_reads W7)
  refine (sameGroups_true exWant _ _ (allocs W7 (badO W7.heap.size)) (RG7.out.below b78) (RL.out.below b78) (by decide) (by decide)).mono ?_
  generalize allocs W7 (badO W7.heap.size) = W8 at b78 BR
  rintro e W9 ⟨rfl, hb9⟩
  have b79 := below_c b78 b78.size hb9
  have HX9 := Lib.hid (HX7.out.below b79)
  have BR9 := Lib.hid (BR.out.below hb9)
  have B9 := below_c B7 B7.size b79
  clear HX7 RG7 RL B7 b78 b79 hb9 BR
  go_wp2_with fail
  have H1 := right_any exLevs _ W9 HX9.out ex_fits (by decide)
  rw [ev_right] at H1
  refine H1.mono ?_
  rintro e W10 ⟨rfl, hb10⟩
  have B10 := below_c B9 B9.size hb10
  have BR10 := Lib.hid (BR9.out.below hb10)
  clear HX9 BR9 B9 hb10 H1
  go_wp2_with fail
  have H1 := right_any badLevs _ W10 BR10.out bad_fits (by decide)
  rw [ev_bad] at H1
  refine H1.mono ?_
  rintro e W11 ⟨rfl, hb11⟩
  have B11 := below_c B10 B10.size hb11
  clear BR10 B10 hb11 H1
  go_wp2_with fail
  go_ret
  exact ⟨rfl, B11⟩
end Go.Proofs.Ytdahgfopighhlaa
