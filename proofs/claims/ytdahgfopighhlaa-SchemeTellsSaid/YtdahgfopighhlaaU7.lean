/-
  The kit's LentLabels.
-/
import Derived.Test.YtdahgfopighhlaaU6
import Derived.OwnWalk
namespace Go.Proofs.Ytdahgfopighhlaa
open Go.RowKit Go.Sort
set_option linter.unusedVariables false
set_option maxRecDepth 100000
/-- A slice that is nil has no room. -/
def NilOk (v : Value) : Prop := ∀ l c, v = .slice none l c → l = 0 ∧ c = 0
/-- A lent slice of labels: the labels, and twelve marks behind them. -/
def LentLab (W : World) (base : Nat) (v : Value) (labs : List Lab) : Prop :=
  ∃ g, v = .slice (some ⟨g, 0, none⟩) labs.length (labs.length + 12) ∧ base ≤ g ∧ g < W.heap.size ∧ ∀ i (h : i < (labs ++ marksL 12).length), W.cell? ⟨g, i * 2, none⟩ = some (.string (labs ++ marksL 12)[i].pre) ∧ W.cell? ⟨g, i * 2 + 1, none⟩ = some (.string (labs ++ marksL 12)[i].grp)
theorem LentLab.grown {W W' : World} {base C : Nat} {v : Value} {labs : List Lab} (h : LentLab W base v labs) (hg : W.grownBy W' (some C)) (hC : C < base) : LentLab W' base v labs := by
  obtain ⟨g, rfl, h1, h2, h3⟩ := h
  exact ⟨g, rfl, h1, Nat.lt_of_lt_of_le h2 hg.size, fun i hi => ⟨hg.cell (h3 i hi).1 (by simp; omega), hg.cell (h3 i hi).2 (by simp; omega)⟩⟩
theorem LentLab.below {W W' : World} {base : Nat} {v : Value} {labs : List Lab} (h : LentLab W base v labs) (hb : Below W.heap.size W W') : LentLab W' base v labs := by
  obtain ⟨g, rfl, h1, h2, h3⟩ := h
  exact ⟨g, rfl, h1, Nat.lt_of_lt_of_le h2 hb.size, fun i hi => ⟨(hb.cell (p := ⟨g, i * 2, none⟩) h2).trans (h3 i hi).1, (hb.cell (p := ⟨g, i * 2 + 1, none⟩) h2).trans (h3 i hi).2⟩⟩
theorem LentLab.mono {W : World} {base base' : Nat} {v : Value} {labs : List Lab} (h : LentLab W base v labs) (hb : base' ≤ base) : LentLab W base' v labs := by
  obtain ⟨g, rfl, h1, h2, h3⟩ := h
  exact ⟨g, rfl, by omega, h2, h3⟩
theorem LentLab.reads {W : World} {base : Nat} {v : Value} {labs : List Lab} (h : LentLab W base v labs) : RdLabs W v labs := by
  obtain ⟨g, rfl, h1, h2, h3⟩ := h
  refine ⟨_, _, rfl, fun h0 => ⟨g, 0, rfl, h2, fun i hi => ?_⟩⟩
  have := h3 i (by rw [List.length_append]; omega)
  rw [List.getElem_append_left hi] at this
  rw [Nat.zero_add]
  exact this
theorem lab_cells {w w1 : World} {a : Option Addr} {labs : List Lab} (hc : 0 < labs.length → ∃ g off, a = some ⟨g, off, none⟩ ∧ g < w.heap.size ∧ ∀ i (h : i < labs.length), w.cell? ⟨g, off + i * 2, none⟩ = some (.string labs[i].pre) ∧ w.cell? ⟨g, off + i * 2 + 1, none⟩ = some (.string labs[i].grp)) (hB : Below w.heap.size w w1) :
    ∀ ad, a = some ad → ∀ j u, (labs.flatMap labCell)[j]? = some u → w1.cell? (ad.add j) = some u := by
  intro ad had j u hu
  have hlen : (labs.flatMap labCell).length = labs.length * 2 := by
    clear hc hu
    induction labs with
    | nil => rfl
    | cons x r ih => rw [List.flatMap_cons, List.length_append, ih, List.length_cons]; show 2 + _ = _; omega
  have hj : j < labs.length * 2 := by
    have := (List.getElem?_eq_some_iff.1 hu).1
    omega
  obtain ⟨k, r, hr, rfl⟩ : ∃ k r, r < 2 ∧ j = k * 2 + r := ⟨j / 2, j % 2, by omega, by omega⟩
  have hk : k < labs.length := by omega
  obtain ⟨g, off, e, hg, hcc⟩ := hc (by omega)
  rw [e] at had
  obtain rfl := Option.some.inj had
  rw [labCells_get labs k r hk hr] at hu
  have ea : (⟨g, off, none⟩ : Addr).add (k * 2 + r) = ⟨g, off + (k * 2 + r), none⟩ := by unfold Addr.add; split <;> simp_all
  rw [ea]
  refine (hB.cell (p := ⟨g, off + (k * 2 + r), none⟩) hg).trans ?_
  have : r = 0 ∨ r = 1 := by omega
  rcases this with rfl | rfl
  · rw [Nat.add_zero, (hcc k hk).1]; exact hu
  · rw [← Nat.add_assoc, (hcc k hk).2]; exact hu
theorem lab_one (labs : List Lab) : ∀ u ∈ labs.flatMap labCell, u.oneCell' = true := by
  intro u hu
  obtain ⟨x, _, hx⟩ := List.mem_flatMap.1 hu
  rcases List.mem_cons.1 hx with rfl | hx
  · rfl
  · rcases List.mem_cons.1 hx with rfl | hx
    · rfl
    · cases hx
theorem lab_len (labs : List Lab) : (labs.flatMap labCell).length = labs.length * 2 := by
  induction labs with
  | nil => rfl
  | cons x r ih => rw [List.flatMap_cons, List.length_append, ih, List.length_cons]; show 2 + _ = _; omega
set_option maxHeartbeats 8000000 in
theorem lentLabels_any (labs : List Lab) (v : Value) (w : World) (hr : RdLabs w v labs) (hnil : NilOk v) (hl : labs.length ≤ 100000) :
    Calls Try.prog 65 #[v] w fun e w' => ∃ u, e = .returned u ∧ LentLab w' w.heap.size u labs ∧ Below w.heap.size w w' := by
  obtain ⟨a, cap, rfl, hc⟩ := hr
  obtain ⟨i0, hi⟩ := info_parts Try.infoB
  have HI := Lib.hid hi
  have HC := Lib.hid hc
  have HNIL := Lib.hid hnil
  have HL := Lib.hid (lab_len labs)
  clear hi hc hnil
  go_enter Try.func65, Try.ntmps65
  go_wp2_with (first
    | (at_make; refine wpList_make_own _ rfl _ _ 43 rfl w.heap.size 47 i0 (.agg #[.string ⟨#[]⟩, .string ⟨#[]⟩]) 2 Try.underlying43 HI.out.1 HI.out.2.1 HI.out.2.2.1 _ _ _ (labs.length + 12) rfl (by first | rfl | simp) rfl (by rw [HI.out.2.2.2]; omega) (by unfold maxLen; omega) (Nat.le_refl _) ?_; intro w1 hown hgrow; have hB : Below w.heap.size w w1 := (Below.refl _ w).grown hgrow (Nat.le_refl _) (fun _ e => by cases e); clear hgrow)
    | (at_builtin; refine wpList_append_fits_any w1 rfl _ _ 43 rfl w.heap.size 47 i0 2 Try.underlying43 HI.out.1 HI.out.2.2.1 w.heap.size 0 (labs.length + 12) [] rfl hown a labs.length cap (labs.flatMap labCell) rfl HL.out (fun e => HNIL.out _ _ (by rw [e])) (lab_cells HC.out hB) (lab_one labs) (by omega) ?_; intro w2 hown2 hgrow2; replace hB : Below w.heap.size w w2 := hB.grown hgrow2 hB.size (fun r e => by cases e; exact Nat.le_refl _); clear hown hgrow2))
  rw [Nat.zero_add, List.nil_append] at hown2
  go_loopw [3, 4] (fun x i wr => ∃ k : Nat, k ≤ 12 ∧ i = .int .i64 k ∧ x = .slice (some ⟨w.heap.size, 0, none⟩) (labs.length + k) (labs.length + 12) ∧ Below w.heap.size w wr ∧ wr.ownsRow w.heap.size 47 2 (.slice (some ⟨w.heap.size, 0, none⟩) (labs.length + k) (labs.length + 12)) (labs.length + k) ((labs ++ marksL k).flatMap labCell)) (fun _ i _ => 12 - (intOf i).toNat)
  case atStart => exact ⟨0, Nat.zero_le _, rfl, by simp, hB, by simpa [marksL] using hown2⟩
  case round =>
    clear hB hown2
    obtain ⟨k, hk, rfl, rfl, hB, hown⟩ := hrel
    by_cases hlt : k < 12
    · have HSU : Hid ((labs ++ marksL (k + 1)).flatMap labCell = (labs ++ marksL k).flatMap labCell ++ [.string ⟨#[]⟩, .string (markB k)]) := by
        show _ = _
        rw [marksL_succ, ← List.append_assoc, List.flatMap_append]
        rfl
      have hmt := fun W => markLabel_any k hlt W
      generalize markB k = mk at HSU hmt
      have HMT := Lib.hid hmt
      clear hmt
      go_wp2_with (first
        | (go_at_call 83; refine (HMT.out _).mono ?_; rintro e w3 ⟨rfl, hb3⟩; replace hown := hown.kept (grown_none hb3) (Classical.em _); replace hB := hB.trans (hb3.mono hB.size); clear hb3)
        | (at_builtin; refine wpList_append_fits _ rfl _ _ 43 rfl w.heap.size 47 i0 2 Try.underlying43 HI.out.1 HI.out.2.2.1 w.heap.size (labs.length + k) (labs.length + 12) _ rfl (hown.alloc _) ⟨w3.heap.size, 0, none⟩ 1 1 [.string ⟨#[]⟩, .string mk] rfl rfl (cells_new _ _ _) (by simp [Value.oneCell']) (by omega) ?_; intro w4 hown4 hgrow4))
      have hb4 : Below w.heap.size w w4 := (hB.alloc hB.size _).grown hgrow4 (by have := hB.size; simp; omega) (fun r e => by cases e; exact Nat.le_refl _)
      clear hgrow4
      go_roundw
      case rel => exact ⟨k + 1, by omega, by go_num, by rw [Nat.add_assoc], hb4, by rw [HSU.out, ← Nat.add_assoc]; exact hown4⟩
      case measure => simp [intOf]; omega
    · obtain rfl : k = 12 := by omega
      have hbw := (hown.lt w.heap.size rfl).2
      have HO := Lib.hid hown
      go_wp2_with fail
      go_ret
      refine ⟨_, rfl, ⟨w.heap.size, rfl, Nat.le_refl _, hbw, fun i h => ?_⟩, hB⟩
      have hm := marksL_len 12
      have h' : i < labs.length + 12 := by rw [List.length_append, hm] at h; exact h
      constructor
      · rw [HO.out.cellAt _ (by omega), show i * 2 = i * 2 + 0 from rfl, labCells_get (labs ++ marksL 12) i 0 h (by omega)]; rfl
      · rw [HO.out.cellAt _ (by omega), labCells_get (labs ++ marksL 12) i 1 h (by omega)]; rfl
set_option maxHeartbeats 4000000 in
theorem lentLevel_any (l : Lev) (v : Value) (w : World) (hr : RdLabs w v l.labs) (hnil : NilOk v) (hl : l.labs.length ≤ 100000) :
    Calls Try.prog 49 #[lvA l v] w fun e w' => ∃ u, e = .returned (lvA l u) ∧ LentLab w' w.heap.size u l.labs ∧ Below w.heap.size w w' := by
  obtain ⟨a, cap, rfl, hc⟩ := hr
  have HLL : Hid (∀ W, Below w.heap.size w W → Calls Try.prog 65 #[.slice a l.labs.length cap] W fun e w' => ∃ u, e = .returned u ∧ LentLab w' W.heap.size u l.labs ∧ Below W.heap.size W w') := fun W hW =>
    lentLabels_any l.labs _ W (RdLabs.below ⟨a, cap, rfl, hc⟩ hW) hnil hl
  have HB : Hid (∀ o1 o2, Below w.heap.size w ((w.alloc o1).alloc o2)) := fun o1 o2 => ((Below.refl _ w).alloc (Nat.le_refl _) _).alloc (by simp) _
  unfold lvA
  clear hc hnil hl
  go_enter Try.func49, Try.ntmps49
  go_wp2_with fail
  refine (HLL.out _ (HB.out _ _)).mono ?_
  rintro e w1 ⟨u, rfl, hu, hb1⟩
  have hz2 : ((w.alloc (.cells #[.string l.name, .int .i64 l.pre, .slice a l.labs.length cap, .int .i64 l.min, .int .i64 l.cents] 45)).alloc (.cells #[.string ⟨#[]⟩, .int .i64 0, .slice none 0 0, .int .i64 0, .int .i64 0] 45)).heap.size = w.heap.size + 2 := by simp
  have hz1 : w.heap.size + 2 ≤ w1.heap.size := by have := hb1.size; omega
  have hzl : (w.alloc (.cells #[.string l.name, .int .i64 l.pre, .slice a l.labs.length cap, .int .i64 l.min, .int .i64 l.cents] 45)).heap.size = w.heap.size + 1 := by simp
  have c00 : w1.cell? ⟨w.heap.size, 0, none⟩ = some (.string l.name) := (hb1.cell (p := ⟨w.heap.size, 0, none⟩) (by rw [hz2]; show w.heap.size < w.heap.size + 2; omega)).trans ((cell_alloc_old (.cells #[.string ⟨#[]⟩, .int .i64 0, .slice none 0 0, .int .i64 0, .int .i64 0] 45) (W := w.alloc (.cells #[.string l.name, .int .i64 l.pre, .slice a l.labs.length cap, .int .i64 l.min, .int .i64 l.cents] 45)) (b := w.heap.size) (i := 0) (by omega)).trans (by rw [World.cell?_alloc_new]; rfl))
  have f00 : w1.frozen? ⟨w.heap.size, 0, none⟩ = false := (hb1.frozen (p := ⟨w.heap.size, 0, none⟩) (by rw [hz2]; show w.heap.size < w.heap.size + 2; omega)).trans (by simp [go_sem])
  have c01 : w1.cell? ⟨w.heap.size, 1, none⟩ = some (.int .i64 l.pre) := (hb1.cell (p := ⟨w.heap.size, 1, none⟩) (by rw [hz2]; show w.heap.size < w.heap.size + 2; omega)).trans ((cell_alloc_old (.cells #[.string ⟨#[]⟩, .int .i64 0, .slice none 0 0, .int .i64 0, .int .i64 0] 45) (W := w.alloc (.cells #[.string l.name, .int .i64 l.pre, .slice a l.labs.length cap, .int .i64 l.min, .int .i64 l.cents] 45)) (b := w.heap.size) (i := 1) (by omega)).trans (by rw [World.cell?_alloc_new]; rfl))
  have f01 : w1.frozen? ⟨w.heap.size, 1, none⟩ = false := (hb1.frozen (p := ⟨w.heap.size, 1, none⟩) (by rw [hz2]; show w.heap.size < w.heap.size + 2; omega)).trans (by simp [go_sem])
  have c02 : w1.cell? ⟨w.heap.size, 2, none⟩ = some (.slice a l.labs.length cap) := (hb1.cell (p := ⟨w.heap.size, 2, none⟩) (by rw [hz2]; show w.heap.size < w.heap.size + 2; omega)).trans ((cell_alloc_old (.cells #[.string ⟨#[]⟩, .int .i64 0, .slice none 0 0, .int .i64 0, .int .i64 0] 45) (W := w.alloc (.cells #[.string l.name, .int .i64 l.pre, .slice a l.labs.length cap, .int .i64 l.min, .int .i64 l.cents] 45)) (b := w.heap.size) (i := 2) (by omega)).trans (by rw [World.cell?_alloc_new]; rfl))
  have f02 : w1.frozen? ⟨w.heap.size, 2, none⟩ = false := (hb1.frozen (p := ⟨w.heap.size, 2, none⟩) (by rw [hz2]; show w.heap.size < w.heap.size + 2; omega)).trans (by simp [go_sem])
  have c03 : w1.cell? ⟨w.heap.size, 3, none⟩ = some (.int .i64 l.min) := (hb1.cell (p := ⟨w.heap.size, 3, none⟩) (by rw [hz2]; show w.heap.size < w.heap.size + 2; omega)).trans ((cell_alloc_old (.cells #[.string ⟨#[]⟩, .int .i64 0, .slice none 0 0, .int .i64 0, .int .i64 0] 45) (W := w.alloc (.cells #[.string l.name, .int .i64 l.pre, .slice a l.labs.length cap, .int .i64 l.min, .int .i64 l.cents] 45)) (b := w.heap.size) (i := 3) (by omega)).trans (by rw [World.cell?_alloc_new]; rfl))
  have f03 : w1.frozen? ⟨w.heap.size, 3, none⟩ = false := (hb1.frozen (p := ⟨w.heap.size, 3, none⟩) (by rw [hz2]; show w.heap.size < w.heap.size + 2; omega)).trans (by simp [go_sem])
  have c04 : w1.cell? ⟨w.heap.size, 4, none⟩ = some (.int .i64 l.cents) := (hb1.cell (p := ⟨w.heap.size, 4, none⟩) (by rw [hz2]; show w.heap.size < w.heap.size + 2; omega)).trans ((cell_alloc_old (.cells #[.string ⟨#[]⟩, .int .i64 0, .slice none 0 0, .int .i64 0, .int .i64 0] 45) (W := w.alloc (.cells #[.string l.name, .int .i64 l.pre, .slice a l.labs.length cap, .int .i64 l.min, .int .i64 l.cents] 45)) (b := w.heap.size) (i := 4) (by omega)).trans (by rw [World.cell?_alloc_new]; rfl))
  have f04 : w1.frozen? ⟨w.heap.size, 4, none⟩ = false := (hb1.frozen (p := ⟨w.heap.size, 4, none⟩) (by rw [hz2]; show w.heap.size < w.heap.size + 2; omega)).trans (by simp [go_sem])
  have c10 : w1.cell? ⟨w.heap.size + 1, 0, none⟩ = some (.string ⟨#[]⟩) := (hb1.cell (p := ⟨w.heap.size + 1, 0, none⟩) (by rw [hz2]; show w.heap.size + 1 < w.heap.size + 2; omega)).trans (by rw [← hzl, World.cell?_alloc_new]; rfl)
  have f10 : w1.frozen? ⟨w.heap.size + 1, 0, none⟩ = false := (hb1.frozen (p := ⟨w.heap.size + 1, 0, none⟩) (by rw [hz2]; show w.heap.size + 1 < w.heap.size + 2; omega)).trans (by simp [go_sem])
  have c11 : w1.cell? ⟨w.heap.size + 1, 1, none⟩ = some (.int .i64 0) := (hb1.cell (p := ⟨w.heap.size + 1, 1, none⟩) (by rw [hz2]; show w.heap.size + 1 < w.heap.size + 2; omega)).trans (by rw [← hzl, World.cell?_alloc_new]; rfl)
  have f11 : w1.frozen? ⟨w.heap.size + 1, 1, none⟩ = false := (hb1.frozen (p := ⟨w.heap.size + 1, 1, none⟩) (by rw [hz2]; show w.heap.size + 1 < w.heap.size + 2; omega)).trans (by simp [go_sem])
  have c12 : w1.cell? ⟨w.heap.size + 1, 2, none⟩ = some (.slice none 0 0) := (hb1.cell (p := ⟨w.heap.size + 1, 2, none⟩) (by rw [hz2]; show w.heap.size + 1 < w.heap.size + 2; omega)).trans (by rw [← hzl, World.cell?_alloc_new]; rfl)
  have f12 : w1.frozen? ⟨w.heap.size + 1, 2, none⟩ = false := (hb1.frozen (p := ⟨w.heap.size + 1, 2, none⟩) (by rw [hz2]; show w.heap.size + 1 < w.heap.size + 2; omega)).trans (by simp [go_sem])
  have c13 : w1.cell? ⟨w.heap.size + 1, 3, none⟩ = some (.int .i64 0) := (hb1.cell (p := ⟨w.heap.size + 1, 3, none⟩) (by rw [hz2]; show w.heap.size + 1 < w.heap.size + 2; omega)).trans (by rw [← hzl, World.cell?_alloc_new]; rfl)
  have f13 : w1.frozen? ⟨w.heap.size + 1, 3, none⟩ = false := (hb1.frozen (p := ⟨w.heap.size + 1, 3, none⟩) (by rw [hz2]; show w.heap.size + 1 < w.heap.size + 2; omega)).trans (by simp [go_sem])
  have c14 : w1.cell? ⟨w.heap.size + 1, 4, none⟩ = some (.int .i64 0) := (hb1.cell (p := ⟨w.heap.size + 1, 4, none⟩) (by rw [hz2]; show w.heap.size + 1 < w.heap.size + 2; omega)).trans (by rw [← hzl, World.cell?_alloc_new]; rfl)
  have f14 : w1.frozen? ⟨w.heap.size + 1, 4, none⟩ = false := (hb1.frozen (p := ⟨w.heap.size + 1, 4, none⟩) (by rw [hz2]; show w.heap.size + 1 < w.heap.size + 2; omega)).trans (by simp [go_sem])
  have hB1 : Below w.heap.size w w1 := (HB.out _ _).trans (hb1.mono (by rw [hz2]; omega))
  rw [hz2] at hu
  have HU := Lib.hid hu
  obtain ⟨g, hg, hgb, hgl, hgc⟩ := hu
  subst hg
  clear hb1 hgc
  go_wp2_with fail
  have hset : ∀ {W : World} {o : Nat} {b : Nat} {x : Value}, LentLab W (w.heap.size + 2) (.slice (some ⟨g, 0, none⟩) l.labs.length (l.labs.length + 12)) l.labs → b < w.heap.size + 2 → LentLab (W.setCell ⟨b, o, none⟩ x) (w.heap.size + 2) (.slice (some ⟨g, 0, none⟩) l.labs.length (l.labs.length + 12)) l.labs := fun h hb => h.grown (set_grown _ _ _) hb
  have hx : w.heap.size < w.heap.size + 2 := by omega
  have hy : w.heap.size + 1 < w.heap.size + 2 := by omega
  have hbs : ∀ {W : World} {o : Nat} {b : Nat} {x : Value}, Below w.heap.size w W → w.heap.size ≤ b → Below w.heap.size w (W.setCell ⟨b, o, none⟩ x) := fun h hb => h.setCell (p := ⟨_, _, none⟩) hb _
  have hz : w.heap.size ≤ w.heap.size + 1 := by omega
  exact bodyPost_ret (v := .agg #[.string l.name, .int .i64 l.pre, .slice (some ⟨g, 0, none⟩) l.labs.length (l.labs.length + 12), .int .i64 l.min, .int .i64 l.cents])
    (by simp [results, Try.results49, go_sem, c10, c11, c12, c13, c14]) rfl
    ⟨_, rfl, (hset (hset (hset (hset (hset (hset HU.out hx) hy) hy) hy) hy) hy).mono (by omega), hbs (hbs (hbs (hbs (hbs (hbs hB1 (Nat.le_refl _)) hz) hz) hz) hz) hz⟩
end Go.Proofs.Ytdahgfopighhlaa
