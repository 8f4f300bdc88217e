import Derived.Test.YtojedplbhialpaaGreatDoorGU
import Derived.Test.YtojedplbhialpaaGreatDoorGC
import Derived.OwnWalk
/-! U6 -/
namespace Go.Proofs.YtojedplbhialpaaGreatDoor
open Go.RowKit Go.Sort
set_option linter.unusedVariables false
set_option maxRecDepth 100000
def markB (j : Nat) : ByteArray := ⟨#[35, 1, 0, 0, 47, UInt8.ofNat j, 0, 0]⟩
theorem mark_conv (w : World) (l : List UInt8) (cs : Array Value) (hcs : cs.toList = l.map fun b => .int .u8 (b.toNat : Int)) (n : Nat) (hn : l.length = n) :
    Sem.run Tryz.prog (convert 123 9 (.slice (some ⟨w.heap.size, 0, none⟩) n n)) (w.alloc (.cells cs 5)) = .ok (.string ⟨l.toArray⟩) (w.alloc (.cells cs 5)) := by
  subst hn
  refine run_convert_bytes_back (P := Tryz.prog) _ 123 9 5 ⟨w.heap.size, 0, none⟩ l.length l Tryz.underlying123 Tryz.underlying5 Tryz.underlying9 (fun j hj => ?_)
  have ea : (⟨w.heap.size, 0, none⟩ : Addr).add j = ⟨w.heap.size, j, none⟩ := by unfold Addr.add; split <;> simp_all
  rw [ea, cell_of_row _ w.heap.size j _ _ _ (World.alloc_heap_new w _)]
  have : cs[j]? = cs.toList[j]? := by simp
  rw [this, hcs, List.getElem?_map, List.getElem?_eq_getElem hj]
  rfl
set_option maxHeartbeats 4000000 in
theorem markText_any (j : Nat) (hj : j < 12) (w : World) : Calls Tryz.prog 187 #[.int .i64 1, .int .i64 j] w fun e w' => e = .returned (.string (markB j)) ∧ Below w.heap.size w w' := by
  have hcase : j = 0 ∨ j = 1 ∨ j = 2 ∨ j = 3 ∨ j = 4 ∨ j = 5 ∨ j = 6 ∨ j = 7 ∨ j = 8 ∨ j = 9 ∨ j = 10 ∨ j = 11 := by omega
  rcases hcase with rfl | rfl | rfl | rfl | rfl | rfl | rfl | rfl | rfl | rfl | rfl | rfl
  · have hk := mark_conv w [35, 1, 0, 0, 47, 0, 0, 0] #[.int .u8 35, .int .u8 1, .int .u8 0, .int .u8 0, .int .u8 47, .int .u8 0, .int .u8 0, .int .u8 0] rfl 8 rfl
    go_enter Tryz.func187, Tryz.ntmps187
    go_wp2_with fail
    go_ret
    exact ⟨rfl, (Below.refl _ w).alloc (Nat.le_refl _) _⟩
  · have hk := mark_conv w [35, 1, 0, 0, 47, 1, 0, 0] #[.int .u8 35, .int .u8 1, .int .u8 0, .int .u8 0, .int .u8 47, .int .u8 1, .int .u8 0, .int .u8 0] rfl 8 rfl
    go_enter Tryz.func187, Tryz.ntmps187
    go_wp2_with fail
    go_ret
    exact ⟨rfl, (Below.refl _ w).alloc (Nat.le_refl _) _⟩
  · have hk := mark_conv w [35, 1, 0, 0, 47, 2, 0, 0] #[.int .u8 35, .int .u8 1, .int .u8 0, .int .u8 0, .int .u8 47, .int .u8 2, .int .u8 0, .int .u8 0] rfl 8 rfl
    go_enter Tryz.func187, Tryz.ntmps187
    go_wp2_with fail
    go_ret
    exact ⟨rfl, (Below.refl _ w).alloc (Nat.le_refl _) _⟩
  · have hk := mark_conv w [35, 1, 0, 0, 47, 3, 0, 0] #[.int .u8 35, .int .u8 1, .int .u8 0, .int .u8 0, .int .u8 47, .int .u8 3, .int .u8 0, .int .u8 0] rfl 8 rfl
    go_enter Tryz.func187, Tryz.ntmps187
    go_wp2_with fail
    go_ret
    exact ⟨rfl, (Below.refl _ w).alloc (Nat.le_refl _) _⟩
  · have hk := mark_conv w [35, 1, 0, 0, 47, 4, 0, 0] #[.int .u8 35, .int .u8 1, .int .u8 0, .int .u8 0, .int .u8 47, .int .u8 4, .int .u8 0, .int .u8 0] rfl 8 rfl
    go_enter Tryz.func187, Tryz.ntmps187
    go_wp2_with fail
    go_ret
    exact ⟨rfl, (Below.refl _ w).alloc (Nat.le_refl _) _⟩
  · have hk := mark_conv w [35, 1, 0, 0, 47, 5, 0, 0] #[.int .u8 35, .int .u8 1, .int .u8 0, .int .u8 0, .int .u8 47, .int .u8 5, .int .u8 0, .int .u8 0] rfl 8 rfl
    go_enter Tryz.func187, Tryz.ntmps187
    go_wp2_with fail
    go_ret
    exact ⟨rfl, (Below.refl _ w).alloc (Nat.le_refl _) _⟩
  · have hk := mark_conv w [35, 1, 0, 0, 47, 6, 0, 0] #[.int .u8 35, .int .u8 1, .int .u8 0, .int .u8 0, .int .u8 47, .int .u8 6, .int .u8 0, .int .u8 0] rfl 8 rfl
    go_enter Tryz.func187, Tryz.ntmps187
    go_wp2_with fail
    go_ret
    exact ⟨rfl, (Below.refl _ w).alloc (Nat.le_refl _) _⟩
  · have hk := mark_conv w [35, 1, 0, 0, 47, 7, 0, 0] #[.int .u8 35, .int .u8 1, .int .u8 0, .int .u8 0, .int .u8 47, .int .u8 7, .int .u8 0, .int .u8 0] rfl 8 rfl
    go_enter Tryz.func187, Tryz.ntmps187
    go_wp2_with fail
    go_ret
    exact ⟨rfl, (Below.refl _ w).alloc (Nat.le_refl _) _⟩
  · have hk := mark_conv w [35, 1, 0, 0, 47, 8, 0, 0] #[.int .u8 35, .int .u8 1, .int .u8 0, .int .u8 0, .int .u8 47, .int .u8 8, .int .u8 0, .int .u8 0] rfl 8 rfl
    go_enter Tryz.func187, Tryz.ntmps187
    go_wp2_with fail
    go_ret
    exact ⟨rfl, (Below.refl _ w).alloc (Nat.le_refl _) _⟩
  · have hk := mark_conv w [35, 1, 0, 0, 47, 9, 0, 0] #[.int .u8 35, .int .u8 1, .int .u8 0, .int .u8 0, .int .u8 47, .int .u8 9, .int .u8 0, .int .u8 0] rfl 8 rfl
    go_enter Tryz.func187, Tryz.ntmps187
    go_wp2_with fail
    go_ret
    exact ⟨rfl, (Below.refl _ w).alloc (Nat.le_refl _) _⟩
  · have hk := mark_conv w [35, 1, 0, 0, 47, 10, 0, 0] #[.int .u8 35, .int .u8 1, .int .u8 0, .int .u8 0, .int .u8 47, .int .u8 10, .int .u8 0, .int .u8 0] rfl 8 rfl
    go_enter Tryz.func187, Tryz.ntmps187
    go_wp2_with fail
    go_ret
    exact ⟨rfl, (Below.refl _ w).alloc (Nat.le_refl _) _⟩
  · have hk := mark_conv w [35, 1, 0, 0, 47, 11, 0, 0] #[.int .u8 35, .int .u8 1, .int .u8 0, .int .u8 0, .int .u8 47, .int .u8 11, .int .u8 0, .int .u8 0] rfl 8 rfl
    go_enter Tryz.func187, Tryz.ntmps187
    go_wp2_with fail
    go_ret
    exact ⟨rfl, (Below.refl _ w).alloc (Nat.le_refl _) _⟩

def markLab (j : Nat) : Lab := ⟨⟨#[]⟩, markB j⟩
def markLv (j : Nat) : Lev := ⟨⟨#[]⟩, 0, [], 8000024 + (j : Int), 0⟩
def marksL (k : Nat) : List Lab := (List.range k).map markLab
theorem marksL_succ (k : Nat) : marksL (k + 1) = marksL k ++ [markLab k] := by unfold marksL; rw [List.range_succ]; simp
theorem marksL_len (k : Nat) : (marksL k).length = k := by unfold marksL; simp
theorem markLabel_any (j : Nat) (hj : j < 12) (w : World) : Calls Tryz.prog 184 #[.int .i64 1, .int .i64 j] w fun e w' => e = .returned (.agg #[.string ⟨#[]⟩, .string (markB j)]) ∧ Below w.heap.size w w' := by
  have HM := Lib.hid (fun W => markText_any j hj W)
  generalize markB j = mk at HM
  have hj1 : (j : Int) ≤ 11 := by omega
  have hj0 : (0 : Int) ≤ (j : Int) := by omega
  go_enter Tryz.func184, Tryz.ntmps184
  go_wp2_with fail
  refine (HM.out _).mono ?_
  rintro e w1 ⟨rfl, hb1⟩
  have hz1 : w.heap.size < w1.heap.size := by have := hb1.size; simp at this; omega
  have c0 : w1.cell? ⟨w.heap.size, 0, none⟩ = some (.string ⟨#[]⟩) := (hb1.cell (p := ⟨w.heap.size, 0, none⟩) (by simp)).trans (by simp [go_sem])
  have c1 : w1.cell? ⟨w.heap.size, 1, none⟩ = some (.string ⟨#[]⟩) := (hb1.cell (p := ⟨w.heap.size, 1, none⟩) (by simp)).trans (by simp [go_sem])
  have f0 : w1.frozen? ⟨w.heap.size, 0, none⟩ = false := (hb1.frozen (p := ⟨w.heap.size, 0, none⟩) (by simp)).trans (by simp [go_sem])
  have f1 : w1.frozen? ⟨w.heap.size, 1, none⟩ = false := (hb1.frozen (p := ⟨w.heap.size, 1, none⟩) (by simp)).trans (by simp [go_sem])
  have hB1 : Below w.heap.size w w1 := ((Below.refl _ w).alloc (Nat.le_refl _) _).trans (hb1.mono (by simp))
  clear hb1
  go_wp2_with fail
  exact bodyPost_ret (v := .agg #[.string ⟨#[]⟩, .string mk]) (by simp [results, Tryz.results184, go_sem, c0, c1]) rfl ⟨rfl, (hB1.setCell (p := ⟨w.heap.size, 0, none⟩) (Nat.le_refl _) _).setCell (p := ⟨w.heap.size, 1, none⟩) (Nat.le_refl _) _⟩
def markLvV (j : Nat) : Value := .agg #[.string ⟨#[]⟩, .int .i64 0, .slice none 0 0, .int .i64 (8000024 + (j : Int)), .int .i64 0]
theorem mark_any (j : Nat) (hj : j < 12) (w : World) : Calls Tryz.prog 65 #[.int .i64 1, .int .i64 j] w fun e w' => e = .returned (.int .i64 (8000024 + (j : Int))) ∧ w = w' := by
  have hj1 : (j : Int) ≤ 11 := by omega
  have hj0 : (0 : Int) ≤ (j : Int) := by omega
  go_enter Tryz.func65, Tryz.ntmps65
  go_wp2_with fail
  go_ret
  exact ⟨rfl, rfl⟩
theorem markLevel_any (j : Nat) (hj : j < 12) (w : World) : Calls Tryz.prog 63 #[.int .i64 1, .int .i64 j] w fun e w' => e = .returned (markLvV j) ∧ Below w.heap.size w w' := by
  have HM := Lib.hid (fun W => mark_any j hj W)
  unfold markLvV
  generalize 8000024 + (j : Int) = mk at HM ⊢
  have hj1 : (j : Int) ≤ 11 := by omega
  have hj0 : (0 : Int) ≤ (j : Int) := by omega
  go_enter Tryz.func63, Tryz.ntmps63
  go_wp2_with fail
  refine (HM.out _).mono ?_
  rintro e w1 ⟨rfl, rfl⟩
  go_wp2_with fail
  exact bodyPost_ret (v := .agg #[.string ⟨#[]⟩, .int .i64 0, .slice none 0 0, .int .i64 mk, .int .i64 0]) (by simp [results, Tryz.results63, go_sem]) rfl ⟨rfl, (Below.refl _ w).alloc (Nat.le_refl _) _⟩
end Go.Proofs.YtojedplbhialpaaGreatDoor

/-! U7 -/
namespace Go.Proofs.YtojedplbhialpaaGreatDoor
open Go.RowKit Go.Sort
set_option linter.unusedVariables false
set_option maxRecDepth 100000
/-- A slice that is nil has no room. -/
def NilOk (v : Value) : Prop := ∀ l c, v = .slice none l c → l = 0 ∧ c = 0
/-- A lent slice of labels: the labels, and twelve marks behind them. -/
def LentLab (W : World) (base : Nat) (v : Value) (labs : List Lab) : Prop :=
  ∃ g, v = .slice (some ⟨g, 0, none⟩) labs.length (labs.length + 12) ∧ base ≤ g ∧ g < W.heap.size ∧ ∀ i (h : i < (labs ++ marksL 12).length), W.cell? ⟨g, i * 2, none⟩ = some (.string (labs ++ marksL 12)[i].pre) ∧ W.cell? ⟨g, i * 2 + 1, none⟩ = some (.string (labs ++ marksL 12)[i].grp)
theorem LentLab.grown {W W' : World} {base C : Nat} {v : Value} {labs : List Lab} (h : LentLab W base v labs) (hg : W.grownBy W' (some C)) (hC : C < base) : LentLab W' base v labs := by
  obtain ⟨g, rfl, h1, h2, h3⟩ := h
  exact ⟨g, rfl, h1, Nat.lt_of_lt_of_le h2 hg.size, fun i hi => ⟨hg.cell (h3 i hi).1 (by simp; omega), hg.cell (h3 i hi).2 (by simp; omega)⟩⟩
theorem LentLab.below {W W' : World} {base : Nat} {v : Value} {labs : List Lab} (h : LentLab W base v labs) (hb : Below W.heap.size W W') : LentLab W' base v labs := by
  obtain ⟨g, rfl, h1, h2, h3⟩ := h
  exact ⟨g, rfl, h1, Nat.lt_of_lt_of_le h2 hb.size, fun i hi => ⟨(hb.cell (p := ⟨g, i * 2, none⟩) h2).trans (h3 i hi).1, (hb.cell (p := ⟨g, i * 2 + 1, none⟩) h2).trans (h3 i hi).2⟩⟩
theorem LentLab.mono {W : World} {base base' : Nat} {v : Value} {labs : List Lab} (h : LentLab W base v labs) (hb : base' ≤ base) : LentLab W base' v labs := by
  obtain ⟨g, rfl, h1, h2, h3⟩ := h
  exact ⟨g, rfl, by omega, h2, h3⟩
theorem LentLab.reads {W : World} {base : Nat} {v : Value} {labs : List Lab} (h : LentLab W base v labs) : RdLabs W v labs := by
  obtain ⟨g, rfl, h1, h2, h3⟩ := h
  refine ⟨_, _, rfl, fun h0 => ⟨g, 0, rfl, h2, fun i hi => ?_⟩⟩
  have := h3 i (by rw [List.length_append]; omega)
  rw [List.getElem_append_left hi] at this
  rw [Nat.zero_add]
  exact this
theorem lab_cells {w w1 : World} {a : Option Addr} {labs : List Lab} (hc : 0 < labs.length → ∃ g off, a = some ⟨g, off, none⟩ ∧ g < w.heap.size ∧ ∀ i (h : i < labs.length), w.cell? ⟨g, off + i * 2, none⟩ = some (.string labs[i].pre) ∧ w.cell? ⟨g, off + i * 2 + 1, none⟩ = some (.string labs[i].grp)) (hB : Below w.heap.size w w1) :
    ∀ ad, a = some ad → ∀ j u, (labs.flatMap labCell)[j]? = some u → w1.cell? (ad.add j) = some u := by
  intro ad had j u hu
  have hlen : (labs.flatMap labCell).length = labs.length * 2 := by
    clear hc hu
    induction labs with
    | nil => rfl
    | cons x r ih => rw [List.flatMap_cons, List.length_append, ih, List.length_cons]; show 2 + _ = _; omega
  have hj : j < labs.length * 2 := by
    have := (List.getElem?_eq_some_iff.1 hu).1
    omega
  obtain ⟨k, r, hr, rfl⟩ : ∃ k r, r < 2 ∧ j = k * 2 + r := ⟨j / 2, j % 2, by omega, by omega⟩
  have hk : k < labs.length := by omega
  obtain ⟨g, off, e, hg, hcc⟩ := hc (by omega)
  rw [e] at had
  obtain rfl := Option.some.inj had
  rw [labCells_get labs k r hk hr] at hu
  have ea : (⟨g, off, none⟩ : Addr).add (k * 2 + r) = ⟨g, off + (k * 2 + r), none⟩ := by unfold Addr.add; split <;> simp_all
  rw [ea]
  refine (hB.cell (p := ⟨g, off + (k * 2 + r), none⟩) hg).trans ?_
  have : r = 0 ∨ r = 1 := by omega
  rcases this with rfl | rfl
  · rw [Nat.add_zero, (hcc k hk).1]; exact hu
  · rw [← Nat.add_assoc, (hcc k hk).2]; exact hu
theorem lab_one (labs : List Lab) : ∀ u ∈ labs.flatMap labCell, u.oneCell' = true := by
  intro u hu
  obtain ⟨x, _, hx⟩ := List.mem_flatMap.1 hu
  rcases List.mem_cons.1 hx with rfl | hx
  · rfl
  · rcases List.mem_cons.1 hx with rfl | hx
    · rfl
    · cases hx
theorem lab_len (labs : List Lab) : (labs.flatMap labCell).length = labs.length * 2 := by
  induction labs with
  | nil => rfl
  | cons x r ih => rw [List.flatMap_cons, List.length_append, ih, List.length_cons]; show 2 + _ = _; omega
set_option maxHeartbeats 8000000 in
theorem lentLabels_any (labs : List Lab) (v : Value) (w : World) (hr : RdLabs w v labs) (hnil : NilOk v) (hl : labs.length ≤ 100000) :
    Calls Tryz.prog 117 #[v] w fun e w' => ∃ u, e = .returned u ∧ LentLab w' w.heap.size u labs ∧ Below w.heap.size w w' := by
  obtain ⟨a, cap, rfl, hc⟩ := hr
  obtain ⟨i0, hi⟩ := info_parts Tryz.infoB
  have HI := Lib.hid hi
  have HC := Lib.hid hc
  have HNIL := Lib.hid hnil
  have HL := Lib.hid (lab_len labs)
  clear hi hc hnil
  go_enter Tryz.func117, Tryz.ntmps117
  go_wp2_with (first
    | (at_make; refine wpList_make_own _ rfl _ _ 91 rfl w.heap.size 235 i0 (.agg #[.string ⟨#[]⟩, .string ⟨#[]⟩]) 2 Tryz.underlying91 HI.out.1 HI.out.2.1 HI.out.2.2.1 _ _ _ (labs.length + 12) rfl (by first | rfl | simp) rfl (by rw [HI.out.2.2.2]; omega) (by unfold maxLen; omega) (Nat.le_refl _) ?_; intro w1 hown hgrow; have hB : Below w.heap.size w w1 := (Below.refl _ w).grown hgrow (Nat.le_refl _) (fun _ e => by cases e); clear hgrow)
    | (at_builtin; refine wpList_append_fits_any w1 rfl _ _ 91 rfl w.heap.size 235 i0 2 Tryz.underlying91 HI.out.1 HI.out.2.2.1 w.heap.size 0 (labs.length + 12) [] rfl hown a labs.length cap (labs.flatMap labCell) rfl HL.out (fun e => HNIL.out _ _ (by rw [e])) (lab_cells HC.out hB) (lab_one labs) (by omega) ?_; intro w2 hown2 hgrow2; replace hB : Below w.heap.size w w2 := hB.grown hgrow2 hB.size (fun r e => by cases e; exact Nat.le_refl _); clear hown hgrow2))
  rw [Nat.zero_add, List.nil_append] at hown2
  go_loopw [3, 4] (fun x i wr => ∃ k : Nat, k ≤ 12 ∧ i = .int .i64 k ∧ x = .slice (some ⟨w.heap.size, 0, none⟩) (labs.length + k) (labs.length + 12) ∧ Below w.heap.size w wr ∧ wr.ownsRow w.heap.size 235 2 (.slice (some ⟨w.heap.size, 0, none⟩) (labs.length + k) (labs.length + 12)) (labs.length + k) ((labs ++ marksL k).flatMap labCell)) (fun _ i _ => 12 - (intOf i).toNat)
  case atStart => exact ⟨0, Nat.zero_le _, rfl, by simp, hB, by simpa [marksL] using hown2⟩
  case round =>
    clear hB hown2
    obtain ⟨k, hk, rfl, rfl, hB, hown⟩ := hrel
    by_cases hlt : k < 12
    · have HSU : Hid ((labs ++ marksL (k + 1)).flatMap labCell = (labs ++ marksL k).flatMap labCell ++ [.string ⟨#[]⟩, .string (markB k)]) := by
        show _ = _
        rw [marksL_succ, ← List.append_assoc, List.flatMap_append]
        rfl
      have hmt := fun W => markLabel_any k hlt W
      generalize markB k = mk at HSU hmt
      have HMT := Lib.hid hmt
      clear hmt
      go_wp2_with (first
        | (go_at_call 184; refine (HMT.out _).mono ?_; rintro e w3 ⟨rfl, hb3⟩; replace hown := hown.kept (grown_none hb3) (Classical.em _); replace hB := hB.trans (hb3.mono hB.size); clear hb3)
        | (at_builtin; refine wpList_append_fits _ rfl _ _ 91 rfl w.heap.size 235 i0 2 Tryz.underlying91 HI.out.1 HI.out.2.2.1 w.heap.size (labs.length + k) (labs.length + 12) _ rfl (hown.alloc _) ⟨w3.heap.size, 0, none⟩ 1 1 [.string ⟨#[]⟩, .string mk] rfl rfl (cells_new _ _ _) (by simp [Value.oneCell']) (by omega) ?_; intro w4 hown4 hgrow4))
      have hb4 : Below w.heap.size w w4 := (hB.alloc hB.size _).grown hgrow4 (by have := hB.size; simp; omega) (fun r e => by cases e; exact Nat.le_refl _)
      clear hgrow4
      go_roundw
      case rel => exact ⟨k + 1, by omega, by go_num, by rw [Nat.add_assoc], hb4, by rw [HSU.out, ← Nat.add_assoc]; exact hown4⟩
      case measure => simp [intOf]; omega
    · obtain rfl : k = 12 := by omega
      have hbw := (hown.lt w.heap.size rfl).2
      have HO := Lib.hid hown
      go_wp2_with fail
      go_ret
      refine ⟨_, rfl, ⟨w.heap.size, rfl, Nat.le_refl _, hbw, fun i h => ?_⟩, hB⟩
      have hm := marksL_len 12
      have h' : i < labs.length + 12 := by rw [List.length_append, hm] at h; exact h
      constructor
      · rw [HO.out.cellAt _ (by omega), show i * 2 = i * 2 + 0 from rfl, labCells_get (labs ++ marksL 12) i 0 h (by omega)]; rfl
      · rw [HO.out.cellAt _ (by omega), labCells_get (labs ++ marksL 12) i 1 h (by omega)]; rfl
set_option maxHeartbeats 4000000 in
theorem lentLevel_any (l : Lev) (v : Value) (w : World) (hr : RdLabs w v l.labs) (hnil : NilOk v) (hl : l.labs.length ≤ 100000) :
    Calls Tryz.prog 62 #[lvA l v] w fun e w' => ∃ u, e = .returned (lvA l u) ∧ LentLab w' w.heap.size u l.labs ∧ Below w.heap.size w w' := by
  obtain ⟨a, cap, rfl, hc⟩ := hr
  have HLL : Hid (∀ W, Below w.heap.size w W → Calls Tryz.prog 117 #[.slice a l.labs.length cap] W fun e w' => ∃ u, e = .returned u ∧ LentLab w' W.heap.size u l.labs ∧ Below W.heap.size W w') := fun W hW =>
    lentLabels_any l.labs _ W (RdLabs.below ⟨a, cap, rfl, hc⟩ hW) hnil hl
  have HB : Hid (∀ o1 o2, Below w.heap.size w ((w.alloc o1).alloc o2)) := fun o1 o2 => ((Below.refl _ w).alloc (Nat.le_refl _) _).alloc (by simp) _
  unfold lvA
  clear hc hnil hl
  go_enter Tryz.func62, Tryz.ntmps62
  go_wp2_with fail
  refine (HLL.out _ (HB.out _ _)).mono ?_
  rintro e w1 ⟨u, rfl, hu, hb1⟩
  have hz2 : ((w.alloc (.cells #[.string l.name, .int .i64 l.pre, .slice a l.labs.length cap, .int .i64 l.min, .int .i64 l.cents] 93)).alloc (.cells #[.string ⟨#[]⟩, .int .i64 0, .slice none 0 0, .int .i64 0, .int .i64 0] 93)).heap.size = w.heap.size + 2 := by simp
  have hz1 : w.heap.size + 2 ≤ w1.heap.size := by have := hb1.size; omega
  have hzl : (w.alloc (.cells #[.string l.name, .int .i64 l.pre, .slice a l.labs.length cap, .int .i64 l.min, .int .i64 l.cents] 93)).heap.size = w.heap.size + 1 := by simp
  have c00 : w1.cell? ⟨w.heap.size, 0, none⟩ = some (.string l.name) := (hb1.cell (p := ⟨w.heap.size, 0, none⟩) (by rw [hz2]; show w.heap.size < w.heap.size + 2; omega)).trans ((cell_alloc_old (.cells #[.string ⟨#[]⟩, .int .i64 0, .slice none 0 0, .int .i64 0, .int .i64 0] 93) (W := w.alloc (.cells #[.string l.name, .int .i64 l.pre, .slice a l.labs.length cap, .int .i64 l.min, .int .i64 l.cents] 93)) (b := w.heap.size) (i := 0) (by omega)).trans (by rw [World.cell?_alloc_new]; rfl))
  have f00 : w1.frozen? ⟨w.heap.size, 0, none⟩ = false := (hb1.frozen (p := ⟨w.heap.size, 0, none⟩) (by rw [hz2]; show w.heap.size < w.heap.size + 2; omega)).trans (by simp [go_sem])
  have c01 : w1.cell? ⟨w.heap.size, 1, none⟩ = some (.int .i64 l.pre) := (hb1.cell (p := ⟨w.heap.size, 1, none⟩) (by rw [hz2]; show w.heap.size < w.heap.size + 2; omega)).trans ((cell_alloc_old (.cells #[.string ⟨#[]⟩, .int .i64 0, .slice none 0 0, .int .i64 0, .int .i64 0] 93) (W := w.alloc (.cells #[.string l.name, .int .i64 l.pre, .slice a l.labs.length cap, .int .i64 l.min, .int .i64 l.cents] 93)) (b := w.heap.size) (i := 1) (by omega)).trans (by rw [World.cell?_alloc_new]; rfl))
  have f01 : w1.frozen? ⟨w.heap.size, 1, none⟩ = false := (hb1.frozen (p := ⟨w.heap.size, 1, none⟩) (by rw [hz2]; show w.heap.size < w.heap.size + 2; omega)).trans (by simp [go_sem])
  have c02 : w1.cell? ⟨w.heap.size, 2, none⟩ = some (.slice a l.labs.length cap) := (hb1.cell (p := ⟨w.heap.size, 2, none⟩) (by rw [hz2]; show w.heap.size < w.heap.size + 2; omega)).trans ((cell_alloc_old (.cells #[.string ⟨#[]⟩, .int .i64 0, .slice none 0 0, .int .i64 0, .int .i64 0] 93) (W := w.alloc (.cells #[.string l.name, .int .i64 l.pre, .slice a l.labs.length cap, .int .i64 l.min, .int .i64 l.cents] 93)) (b := w.heap.size) (i := 2) (by omega)).trans (by rw [World.cell?_alloc_new]; rfl))
  have f02 : w1.frozen? ⟨w.heap.size, 2, none⟩ = false := (hb1.frozen (p := ⟨w.heap.size, 2, none⟩) (by rw [hz2]; show w.heap.size < w.heap.size + 2; omega)).trans (by simp [go_sem])
  have c03 : w1.cell? ⟨w.heap.size, 3, none⟩ = some (.int .i64 l.min) := (hb1.cell (p := ⟨w.heap.size, 3, none⟩) (by rw [hz2]; show w.heap.size < w.heap.size + 2; omega)).trans ((cell_alloc_old (.cells #[.string ⟨#[]⟩, .int .i64 0, .slice none 0 0, .int .i64 0, .int .i64 0] 93) (W := w.alloc (.cells #[.string l.name, .int .i64 l.pre, .slice a l.labs.length cap, .int .i64 l.min, .int .i64 l.cents] 93)) (b := w.heap.size) (i := 3) (by omega)).trans (by rw [World.cell?_alloc_new]; rfl))
  have f03 : w1.frozen? ⟨w.heap.size, 3, none⟩ = false := (hb1.frozen (p := ⟨w.heap.size, 3, none⟩) (by rw [hz2]; show w.heap.size < w.heap.size + 2; omega)).trans (by simp [go_sem])
  have c04 : w1.cell? ⟨w.heap.size, 4, none⟩ = some (.int .i64 l.cents) := (hb1.cell (p := ⟨w.heap.size, 4, none⟩) (by rw [hz2]; show w.heap.size < w.heap.size + 2; omega)).trans ((cell_alloc_old (.cells #[.string ⟨#[]⟩, .int .i64 0, .slice none 0 0, .int .i64 0, .int .i64 0] 93) (W := w.alloc (.cells #[.string l.name, .int .i64 l.pre, .slice a l.labs.length cap, .int .i64 l.min, .int .i64 l.cents] 93)) (b := w.heap.size) (i := 4) (by omega)).trans (by rw [World.cell?_alloc_new]; rfl))
  have f04 : w1.frozen? ⟨w.heap.size, 4, none⟩ = false := (hb1.frozen (p := ⟨w.heap.size, 4, none⟩) (by rw [hz2]; show w.heap.size < w.heap.size + 2; omega)).trans (by simp [go_sem])
  have c10 : w1.cell? ⟨w.heap.size + 1, 0, none⟩ = some (.string ⟨#[]⟩) := (hb1.cell (p := ⟨w.heap.size + 1, 0, none⟩) (by rw [hz2]; show w.heap.size + 1 < w.heap.size + 2; omega)).trans (by rw [← hzl, World.cell?_alloc_new]; rfl)
  have f10 : w1.frozen? ⟨w.heap.size + 1, 0, none⟩ = false := (hb1.frozen (p := ⟨w.heap.size + 1, 0, none⟩) (by rw [hz2]; show w.heap.size + 1 < w.heap.size + 2; omega)).trans (by simp [go_sem])
  have c11 : w1.cell? ⟨w.heap.size + 1, 1, none⟩ = some (.int .i64 0) := (hb1.cell (p := ⟨w.heap.size + 1, 1, none⟩) (by rw [hz2]; show w.heap.size + 1 < w.heap.size + 2; omega)).trans (by rw [← hzl, World.cell?_alloc_new]; rfl)
  have f11 : w1.frozen? ⟨w.heap.size + 1, 1, none⟩ = false := (hb1.frozen (p := ⟨w.heap.size + 1, 1, none⟩) (by rw [hz2]; show w.heap.size + 1 < w.heap.size + 2; omega)).trans (by simp [go_sem])
  have c12 : w1.cell? ⟨w.heap.size + 1, 2, none⟩ = some (.slice none 0 0) := (hb1.cell (p := ⟨w.heap.size + 1, 2, none⟩) (by rw [hz2]; show w.heap.size + 1 < w.heap.size + 2; omega)).trans (by rw [← hzl, World.cell?_alloc_new]; rfl)
  have f12 : w1.frozen? ⟨w.heap.size + 1, 2, none⟩ = false := (hb1.frozen (p := ⟨w.heap.size + 1, 2, none⟩) (by rw [hz2]; show w.heap.size + 1 < w.heap.size + 2; omega)).trans (by simp [go_sem])
  have c13 : w1.cell? ⟨w.heap.size + 1, 3, none⟩ = some (.int .i64 0) := (hb1.cell (p := ⟨w.heap.size + 1, 3, none⟩) (by rw [hz2]; show w.heap.size + 1 < w.heap.size + 2; omega)).trans (by rw [← hzl, World.cell?_alloc_new]; rfl)
  have f13 : w1.frozen? ⟨w.heap.size + 1, 3, none⟩ = false := (hb1.frozen (p := ⟨w.heap.size + 1, 3, none⟩) (by rw [hz2]; show w.heap.size + 1 < w.heap.size + 2; omega)).trans (by simp [go_sem])
  have c14 : w1.cell? ⟨w.heap.size + 1, 4, none⟩ = some (.int .i64 0) := (hb1.cell (p := ⟨w.heap.size + 1, 4, none⟩) (by rw [hz2]; show w.heap.size + 1 < w.heap.size + 2; omega)).trans (by rw [← hzl, World.cell?_alloc_new]; rfl)
  have f14 : w1.frozen? ⟨w.heap.size + 1, 4, none⟩ = false := (hb1.frozen (p := ⟨w.heap.size + 1, 4, none⟩) (by rw [hz2]; show w.heap.size + 1 < w.heap.size + 2; omega)).trans (by simp [go_sem])
  have hB1 : Below w.heap.size w w1 := (HB.out _ _).trans (hb1.mono (by rw [hz2]; omega))
  rw [hz2] at hu
  have HU := Lib.hid hu
  obtain ⟨g, hg, hgb, hgl, hgc⟩ := hu
  subst hg
  clear hb1 hgc
  go_wp2_with fail
  have hset : ∀ {W : World} {o : Nat} {b : Nat} {x : Value}, LentLab W (w.heap.size + 2) (.slice (some ⟨g, 0, none⟩) l.labs.length (l.labs.length + 12)) l.labs → b < w.heap.size + 2 → LentLab (W.setCell ⟨b, o, none⟩ x) (w.heap.size + 2) (.slice (some ⟨g, 0, none⟩) l.labs.length (l.labs.length + 12)) l.labs := fun h hb => h.grown (set_grown _ _ _) hb
  have hx : w.heap.size < w.heap.size + 2 := by omega
  have hy : w.heap.size + 1 < w.heap.size + 2 := by omega
  have hbs : ∀ {W : World} {o : Nat} {b : Nat} {x : Value}, Below w.heap.size w W → w.heap.size ≤ b → Below w.heap.size w (W.setCell ⟨b, o, none⟩ x) := fun h hb => h.setCell (p := ⟨_, _, none⟩) hb _
  have hz : w.heap.size ≤ w.heap.size + 1 := by omega
  exact bodyPost_ret (v := .agg #[.string l.name, .int .i64 l.pre, .slice (some ⟨g, 0, none⟩) l.labs.length (l.labs.length + 12), .int .i64 l.min, .int .i64 l.cents])
    (by simp [results, Tryz.results62, go_sem, c10, c11, c12, c13, c14]) rfl
    ⟨_, rfl, (hset (hset (hset (hset (hset (hset HU.out hx) hy) hy) hy) hy) hy).mono (by omega), hbs (hbs (hbs (hbs (hbs (hbs hB1 (Nat.le_refl _)) hz) hz) hz) hz) hz⟩
end Go.Proofs.YtojedplbhialpaaGreatDoor

/-! U8 -/
namespace Go.Proofs.YtojedplbhialpaaGreatDoor
open Go.RowKit Go.Sort
set_option linter.unusedVariables false
set_option maxRecDepth 100000
/-- A slice reads as levels; nil slices in it have no room. -/
def RdLevN (w : World) (v : Value) (ls : List Lev) : Prop :=
  ∃ a cap, v = .slice a ls.length cap ∧ (0 < ls.length → ∃ g off, a = some ⟨g, off, none⟩ ∧ g < w.heap.size ∧ ∀ i (h : i < ls.length), ∃ sv, RdLabs w sv ls[i].labs ∧ NilOk sv ∧ LevAt w g (off + i * 5) ls[i] sv)
theorem RdLevN.reads {w : World} {v : Value} {ls : List Lev} (h : RdLevN w v ls) : RdLevs w v ls := by
  obtain ⟨a, cap, rfl, hc⟩ := h
  exact ⟨a, cap, rfl, fun h0 => by
    obtain ⟨g, off, e, hg, hcc⟩ := hc h0
    exact ⟨g, off, e, hg, fun i h => by
      obtain ⟨sv, a1, _, a3⟩ := hcc i h
      exact ⟨sv, a1, a3⟩⟩⟩
/-- A lent slice of levels: each with labels of its own, and twelve marks behind them. -/
def LentLevs (W : World) (base : Nat) (v : Value) (ls : List Lev) : Prop :=
  ∃ g, v = .slice (some ⟨g, 0, none⟩) ls.length (ls.length + 12) ∧ base ≤ g ∧ g < W.heap.size ∧ (∀ i (h : i < ls.length), ∃ sv, LentLab W base sv ls[i].labs ∧ LevAt W g (i * 5) ls[i] sv) ∧ ∀ j, j < 12 → LevAt W g ((ls.length + j) * 5) (markLv j) (.slice none 0 0)
theorem LentLevs.below {W W' : World} {base : Nat} {v : Value} {ls : List Lev} (h : LentLevs W base v ls) (hb : Below W.heap.size W W') : LentLevs W' base v ls := by
  obtain ⟨g, rfl, h1, h2, h3, h4⟩ := h
  exact ⟨g, rfl, h1, Nat.lt_of_lt_of_le h2 hb.size, fun i hi => by
    obtain ⟨sv, a, b⟩ := h3 i hi
    exact ⟨sv, a.below hb, b.below hb h2⟩, fun j hj => (h4 j hj).below hb h2⟩
theorem LentLevs.reads {W : World} {base : Nat} {v : Value} {ls : List Lev} (h : LentLevs W base v ls) : RdLevs W v ls := by
  obtain ⟨g, rfl, h1, h2, h3, h4⟩ := h
  exact ⟨_, _, rfl, fun h0 => ⟨g, 0, rfl, h2, fun i hi => by
    obtain ⟨sv, a, b⟩ := h3 i hi
    exact ⟨sv, a.reads, by rw [Nat.zero_add]; exact b⟩⟩⟩
def mkP (j : Nat) : Lev × Value := (markLv j, .slice none 0 0)
def marksP (k : Nat) : List (Lev × Value) := (List.range k).map mkP
theorem marksP_succ (k : Nat) : marksP (k + 1) = marksP k ++ [mkP k] := by unfold marksP; rw [List.range_succ]; simp
theorem marksP_len (k : Nat) : (marksP k).length = k := by unfold marksP; simp
theorem marksP_at (n : Nat) (h : n < (marksP 12).length) : (marksP 12)[n] = mkP n := by simp [marksP]
theorem cells_newU (W : World) (n : Nat) (hn : n = W.heap.size) (cs : List Value) (T : TypeId) : ∀ j u, cs[j]? = some u → (W.alloc (.cells cs.toArray T)).cell? ((⟨n, 0, none⟩ : Addr).add j) = some u := by subst hn; exact cells_new W cs T
theorem lev_at_row {W : World} {base g n cap : Nat} {L : List (Lev × Value)} (ho : W.ownsRow base 93 5 (.slice (some ⟨g, 0, none⟩) n cap) n (L.flatMap lCell)) (hn : L.length = n) {i : Nat} (hi : i < n) : LevAt W g (i * 5) (L[i]'(by omega)).1 (L[i]'(by omega)).2 := by
  have hi' : i < L.length := by omega
  refine ⟨?_, ?_, ?_, ?_, ?_⟩
  · rw [ho.cellAt _ (by omega), show i * 5 = i * 5 + 0 from rfl, lCells_get L i 0 hi' (by omega)]; rfl
  · rw [ho.cellAt _ (by omega), lCells_get L i 1 hi' (by omega)]; rfl
  · rw [ho.cellAt _ (by omega), lCells_get L i 2 hi' (by omega)]; rfl
  · rw [ho.cellAt _ (by omega), lCells_get L i 3 hi' (by omega)]; rfl
  · rw [ho.cellAt _ (by omega), lCells_get L i 4 hi' (by omega)]; rfl
set_option maxHeartbeats 8000000 in
theorem lentLevels_any (ls : List Lev) (v : Value) (w : World) (hr : RdLevN w v ls) (hf : ∀ l ∈ ls, l.labs.length ≤ 100000) (hl : ls.length ≤ 1000) :
    Calls Tryz.prog 24 #[v] w fun e w' => ∃ u, e = .returned u ∧ LentLevs w' w.heap.size u ls ∧ Below w.heap.size w w' := by
  obtain ⟨a, cap, rfl, hc⟩ := hr
  obtain ⟨i0, hi⟩ := info_parts Tryz.infoL
  have HI := Lib.hid hi
  have HC := Lib.hid hc
  have HF := Lib.hid hf
  clear hi hc hf
  go_enter Tryz.func24, Tryz.ntmps24
  go_wp2_with (at_make; refine wpList_make_own _ rfl _ _ 26 rfl w.heap.size 93 i0 (.agg #[.string ⟨#[]⟩, .int .i64 0, .slice none 0 0, .int .i64 0, .int .i64 0]) 5 Tryz.underlying26 HI.out.1 HI.out.2.1 HI.out.2.2.1 _ _ _ (ls.length + 12) rfl (by first | rfl | simp) rfl (by rw [HI.out.2.2.2]; omega) (by unfold maxLen; omega) (Nat.le_refl _) ?_; intro w1 hown hgrow; have hB : Below w.heap.size w w1 := (Below.refl _ w).grown hgrow (Nat.le_refl _) (fun _ e => by cases e); clear hgrow)
  go_loopw [3, 4] (fun x i wr => ∃ (k : Nat) (L : List (Lev × Value)), k ≤ ls.length ∧ i = .int .i64 k ∧ x = .slice (some ⟨w.heap.size, 0, none⟩) k (ls.length + 12) ∧ Hid (L.map Prod.fst = ls.take k) ∧ Hid (∀ p ∈ L, LentLab wr (w.heap.size + 1) p.2 p.1.labs) ∧ Below w.heap.size w wr ∧ wr.ownsRow w.heap.size 93 5 (.slice (some ⟨w.heap.size, 0, none⟩) k (ls.length + 12)) k (L.flatMap lCell)) (fun _ i _ => ls.length - (intOf i).toNat)
  case atStart => exact ⟨0, [], Nat.zero_le _, rfl, rfl, by show _ = _; simp, (fun p hp => by cases hp), hB, hown⟩
  case round =>
    clear hB hown
    obtain ⟨k, L, hk, rfl, rfl, HL, HLB, hB, hown⟩ := hrel
    have hbw := (hown.lt w.heap.size rfl).2
    by_cases hlt : k < ls.length
    · obtain ⟨g, off, rfl, hg, hcc⟩ := HC.out (by omega)
      obtain ⟨sv, hlab, hnil, hat⟩ := hcc k hlt
      obtain ⟨t0, t1, t2, t3, t4⟩ := hat.below hB hg
      have HLV := Lib.hid (lentLevel_any ls[k] sv wr (hlab.below hB) hnil (HF.out _ (List.getElem_mem hlt)))
      have HL2 : Hid (∀ u, (L ++ [(ls[k], u)]).map Prod.fst = ls.take (k + 1)) := fun u => by rw [List.map_append, HL.out, List.take_succ_eq_append_getElem hlt]; rfl
      have hgr : g < wr.heap.size := by omega
      have hd : decide ((k : Int) < (ls.length : Int)) = true := decide_eq_true (by omega)
      unfold lvA at HLV
      generalize ls[k] = l at t0 t1 t2 t3 t4 HLV HL2
      clear hcc hlab hnil hat HC HF
      go_wp2_with (first
        | (go_at_call 62; refine HLV.out.mono ?_; rintro e w3 ⟨u, rfl, hu, hb3⟩; have HU := Lib.hid hu; obtain ⟨gu, hgu, hgb, hgl, hgc⟩ := hu; subst hgu; clear hgc; replace hown := hown.kept (grown_none hb3) (Classical.em _); replace hB := hB.trans (hb3.mono hB.size); have HB3 := Lib.hid hb3; clear hb3)
        | (at_builtin; refine wpList_append_fits _ rfl _ _ 26 rfl w.heap.size 93 i0 5 Tryz.underlying26 HI.out.1 HI.out.2.2.1 w.heap.size k (ls.length + 12) _ rfl ((hown.alloc _).alloc _) ⟨w3.heap.size + 1, 0, none⟩ 1 1 [.string l.name, .int .i64 l.pre, .slice (some ⟨gu, 0, none⟩) l.labs.length (l.labs.length + 12), .int .i64 l.min, .int .i64 l.cents] rfl rfl (cells_newU _ _ (by simp) _ _) (by simp [Value.oneCell']) (by omega) ?_; intro w4 hown4 hgrow4))
      have hb4 : Below w.heap.size w w4 := ((hB.alloc hB.size _).alloc (by have := hB.size; simp; omega) _).grown hgrow4 (by have := hB.size; simp; omega) (fun r e => by cases e; exact Nat.le_refl _)
      have hkeep : ∀ {x : Value} {labs : List Lab}, LentLab w3 (w.heap.size + 1) x labs → LentLab w4 (w.heap.size + 1) x labs := fun h =>
        ((h.below ((Below.refl _ w3).alloc (Nat.le_refl _) _)).below ((Below.refl _ _).alloc (Nat.le_refl _) _)).grown hgrow4 (by omega)
      have HLB4 : Hid (∀ p ∈ L ++ [(l, Value.slice (some ⟨gu, 0, none⟩) l.labs.length (l.labs.length + 12))], LentLab w4 (w.heap.size + 1) p.2 p.1.labs) := fun p hp => by
        rcases List.mem_append.1 hp with hp | hp
        · exact hkeep ((HLB.out p hp).below HB3.out)
        · obtain rfl := List.mem_singleton.1 hp
          exact hkeep (HU.out.mono (by omega))
      have HOW : Hid (w4.ownsRow w.heap.size 93 5 (.slice (some ⟨w.heap.size, 0, none⟩) (k + 1) (ls.length + 12)) (k + 1) ((L ++ [(l, Value.slice (some ⟨gu, 0, none⟩) l.labs.length (l.labs.length + 12))]).flatMap lCell)) := by
        show World.ownsRow _ _ _ _ _ _ _
        rw [List.flatMap_append]
        exact hown4
      have HL3 := Lib.hid (HL2.out (.slice (some ⟨gu, 0, none⟩) l.labs.length (l.labs.length + 12)))
      clear hgrow4 hown4 hown hB hkeep HLB HU HB3 HLV HL2
      go_roundw
      case rel => exact ⟨k + 1, _, by omega, by go_num, rfl, HL3.out, HLB4.out, hb4, HOW.out⟩
      case measure => simp [intOf]; omega
    · obtain rfl : k = ls.length := by omega
      have HLS : Hid (L.map Prod.fst = ls) := by show _ = _; rw [HL.out, List.take_of_length_le (Nat.le_refl _)]
      have HLN : Hid (L.length = ls.length) := by have := congrArg List.length HLS.out; rw [List.length_map] at this; exact this
      clear HC HF HL hlt hk
      obtain ⟨w3, rfl⟩ : ∃ w3 : World, w3 = wr := ⟨_, rfl⟩
      go_wp2_with fail
      go_loopw [3, 6] (fun x i wr => ∃ k : Nat, k ≤ 12 ∧ i = .int .i64 k ∧ x = .slice (some ⟨w.heap.size, 0, none⟩) (ls.length + k) (ls.length + 12) ∧ Hid (∀ p ∈ L, LentLab wr (w.heap.size + 1) p.2 p.1.labs) ∧ Below w.heap.size w wr ∧ wr.ownsRow w.heap.size 93 5 (.slice (some ⟨w.heap.size, 0, none⟩) (ls.length + k) (ls.length + 12)) (ls.length + k) ((L ++ marksP k).flatMap lCell)) (fun _ i _ => 12 - (intOf i).toNat)
      case atStart => exact ⟨0, Nat.zero_le _, rfl, rfl, HLB.out, hB, by simpa [marksP] using hown⟩
      case round =>
        clear hB hown hbw HLB
        obtain ⟨k, hk, rfl, rfl, HLB, hB, hown⟩ := hrel
        have hbw := (hown.lt w.heap.size rfl).2
        by_cases hlt : k < 12
        · have HSU : Hid ((L ++ marksP (k + 1)).flatMap lCell = (L ++ marksP k).flatMap lCell ++ [.string ⟨#[]⟩, .int .i64 0, .slice none 0 0, .int .i64 (8000024 + (k : Int)), .int .i64 0]) := by
            show _ = _
            rw [marksP_succ, ← List.append_assoc, List.flatMap_append]
            rfl
          have hmt := fun W => markLevel_any k hlt W
          unfold markLvV at hmt
          generalize 8000024 + (k : Int) = mk at HSU hmt
          have HMT := Lib.hid hmt
          clear hmt
          go_wp2_with (first
            | (go_at_call 63; refine (HMT.out _).mono ?_; rintro e w5 ⟨rfl, hb5⟩; replace hown := hown.kept (grown_none hb5) (Classical.em _); replace hB := hB.trans (hb5.mono hB.size); replace HLB := Lib.hid (fun p hp => (HLB.out p hp).below hb5); clear hb5)
            | (at_builtin; refine wpList_append_fits _ rfl _ _ 26 rfl w.heap.size 93 i0 5 Tryz.underlying26 HI.out.1 HI.out.2.2.1 w.heap.size (ls.length + k) (ls.length + 12) _ rfl (hown.alloc _) ⟨w5.heap.size, 0, none⟩ 1 1 [.string ⟨#[]⟩, .int .i64 0, .slice none 0 0, .int .i64 mk, .int .i64 0] rfl rfl (cells_new _ _ _) (by simp [Value.oneCell']) (by omega) ?_; intro w6 hown6 hgrow6))
          have hb6 : Below w.heap.size w w6 := (hB.alloc hB.size _).grown hgrow6 (by have := hB.size; simp; omega) (fun r e => by cases e; exact Nat.le_refl _)
          have HLB6 : Hid (∀ p ∈ L, LentLab w6 (w.heap.size + 1) p.2 p.1.labs) := fun p hp => ((HLB.out p hp).below ((Below.refl _ w5).alloc (Nat.le_refl _) _)).grown hgrow6 (by omega)
          clear hgrow6 HLB
          go_roundw
          case rel => exact ⟨k + 1, by omega, by go_num, by rw [Nat.add_assoc], HLB6.out, hb6, by rw [HSU.out, ← Nat.add_assoc]; exact hown6⟩
          case measure => simp [intOf]; omega
        · obtain rfl : k = 12 := by omega
          have HO := Lib.hid hown
          clear hown
          go_wp2_with fail
          go_ret
          have hm := marksP_len 12
          have hln := HLN.out
          have hlen : (L ++ marksP 12).length = ls.length + 12 := by rw [List.length_append, hm, hln]
          refine ⟨_, rfl, ⟨w.heap.size, rfl, Nat.le_refl _, hbw, fun i h => ?_, fun j hj => ?_⟩, hB⟩
          · have h' : i < L.length := by omega
            have e1 : (L[i]'h').1 = ls[i] := by
              have : (L.map Prod.fst)[i]? = ls[i]? := by rw [HLS.out]
              rw [List.getElem?_map, List.getElem?_eq_getElem h', List.getElem?_eq_getElem h] at this
              exact Option.some.inj this
            refine ⟨(L[i]'h').2, ?_, ?_⟩
            · rw [← e1]; exact (HLB.out _ (List.getElem_mem h')).mono (by omega)
            · have := lev_at_row HO.out hlen (i := i) (by omega)
              rw [List.getElem_append_left h'] at this
              rw [← e1]; exact this
          · have := lev_at_row HO.out hlen (i := ls.length + j) (by omega)
            rw [List.getElem_append_right (by omega)] at this
            have e2 : ∀ h, (marksP 12)[ls.length + j - L.length]'h = mkP j := fun h => by
              rw [marksP_at]
              congr 1; omega
            rw [e2] at this
            exact this
end Go.Proofs.YtojedplbhialpaaGreatDoor

/-! U9 -/
namespace Go.Proofs.YtojedplbhialpaaGreatDoor
open Go.RowKit Go.Sort
set_option linter.unusedVariables false
set_option maxRecDepth 100000
set_option maxHeartbeats 4000000 in
theorem sameLabels_true (labs : List Lab) (va vb : Value) (w : World) (ha : RdLabs w va labs) (hb : RdLabs w vb labs) (hl : labs.length ≤ 100000) :
    Calls Tryz.prog 124 #[va, vb] w fun e w' => e = .returned (.bool true) ∧ Below w.heap.size w w' := by
  obtain ⟨a, ca, rfl, hca⟩ := ha
  obtain ⟨b, cb, rfl, hcb⟩ := hb
  have HA := Lib.hid hca
  have HB := Lib.hid hcb
  have hne : ((labs.length : Int) != (labs.length : Int)) = false := by simp
  clear hca hcb
  go_enter Tryz.func124, Tryz.ntmps124
  go_wp2_with fail
  go_loopw [5] (fun i wr => ∃ k : Nat, k ≤ labs.length ∧ i = .int .i64 k ∧ Hid (Below w.heap.size w wr)) (fun i _ => labs.length - (intOf i).toNat)
  case atStart => exact ⟨0, Nat.zero_le _, rfl, Below.refl _ _⟩
  case round =>
    obtain ⟨k, hk, rfl, HBW⟩ := hrel
    by_cases hlt : k < labs.length
    · obtain ⟨g, off, rfl, hg, hcc⟩ := HA.out (by omega)
      obtain ⟨g2, off2, rfl, hg2, hcc2⟩ := HB.out (by omega)
      have c1 := cells_in ((HBW.out.cell (p := ⟨g, off + k * 2, none⟩) hg).trans (hcc k hlt).1)
      have c2 := cells_in ((HBW.out.cell (p := ⟨g, off + k * 2 + 1, none⟩) hg).trans (hcc k hlt).2)
      have c3 := cells_in ((HBW.out.cell (p := ⟨g2, off2 + k * 2, none⟩) hg2).trans (hcc2 k hlt).1)
      have c4 := cells_in ((HBW.out.cell (p := ⟨g2, off2 + k * 2 + 1, none⟩) hg2).trans (hcc2 k hlt).2)
      generalize labs[k].pre = xp at c1 c3
      generalize labs[k].grp = xg at c2 c4
      have hb1 := ba_eq xp xp
      have hb2 := ba_eq xg xg
      rw [decide_eq_true rfl] at hb1 hb2
      have hd : decide ((k : Int) < (labs.length : Int)) = true := decide_eq_true (by omega)
      have HBN : Hid (∀ pp : Regrown, Below w.heap.size w (grow (redrawn wr pp.d) pp.os)) := fun pp => HBW.out.trans ((below_in wr pp).mono HBW.out.size)
      clear hcc hcc2 HA HB
      go_wp2_with fail
      refine wp_region_quiet_below (by kernel_rfl) (by kernel_rfl) ?_
      repeat (go_big_quiet_step (fail))
      refine wpQuiet_nil ?_
      intro _ hw'
      obtain ⟨pp, hw''⟩ := hw'
      subst hw''
      go_wp2_with fail
      go_roundw
      case rel => exact ⟨k + 1, by omega, by go_num, HBN.out pp⟩
      case measure => simp [intOf]; omega
    · obtain rfl : k = labs.length := by omega
      go_wp2_with fail
      go_ret
      exact ⟨rfl, HBW.out⟩
set_option maxHeartbeats 8000000 in
theorem keptLabels_true (labs : List Lab) (u v : Value) (base : Nat) (w : World) (hu : LentLab w base u labs) (hv : RdLabs w v labs) (hl : labs.length ≤ 100000) :
    Calls Tryz.prog 123 #[u, v] w fun e w' => e = .returned (.bool true) ∧ Below w.heap.size w w' := by
  obtain ⟨g, rfl, _, hg, hgc⟩ := hu
  obtain ⟨b, cb, rfl, hcb⟩ := hv
  have HG := Lib.hid hgc
  have HB := Lib.hid hcb
  have hne : ((labs.length : Int) != (labs.length : Int)) = false := by simp
  clear hgc hcb
  go_enter Tryz.func123, Tryz.ntmps123
  go_wp2_with fail
  go_loopw [6] (fun i wr => ∃ k : Nat, k ≤ labs.length + 12 ∧ i = .int .i64 k ∧ Hid (Below w.heap.size w wr)) (fun i _ => labs.length + 12 - (intOf i).toNat)
  case atStart => exact ⟨0, Nat.zero_le _, rfl, Below.refl _ _⟩
  case round =>
    obtain ⟨k, hk, rfl, HBW⟩ := hrel
    by_cases hlt : k < labs.length + 12
    · have hkl : k < (labs ++ marksL 12).length := by rw [List.length_append, marksL_len]; exact hlt
      have c1 := cells_in ((HBW.out.cell (p := ⟨g, k * 2, none⟩) hg).trans (HG.out k hkl).1)
      have c2 := cells_in ((HBW.out.cell (p := ⟨g, k * 2 + 1, none⟩) hg).trans (HG.out k hkl).2)
      have hd : decide ((k : Int) < ((labs.length : Int) + 12)) = true := decide_eq_true (by omega)
      have HBN : Hid (∀ pp : Regrown, Below w.heap.size w (grow (redrawn wr pp.d) pp.os)) := fun pp => HBW.out.trans ((below_in wr pp).mono HBW.out.size)
      by_cases hkn : k < labs.length
      · obtain ⟨g2, off2, rfl, hg2, hcc2⟩ := HB.out (by omega)
        rw [List.getElem_append_left hkn] at c1 c2
        have c3 := cells_in ((HBW.out.cell (p := ⟨g2, off2 + k * 2, none⟩) hg2).trans (hcc2 k hkn).1)
        have c4 := cells_in ((HBW.out.cell (p := ⟨g2, off2 + k * 2 + 1, none⟩) hg2).trans (hcc2 k hkn).2)
        generalize labs[k].pre = xp at c1 c3
        generalize labs[k].grp = xg at c2 c4
        have hb1 := ba_eq xp xp
        have hb2 := ba_eq xg xg
        rw [decide_eq_true rfl] at hb1 hb2
        have hd1 : decide ((k : Int) < (labs.length : Int)) = true := decide_eq_true (by omega)
        have hd2 : decide ((labs.length : Int) ≤ (k : Int)) = false := decide_eq_false (by omega)
        have hd3 : decide (k < labs.length) = true := decide_eq_true hkn
        have hd4 : decide (labs.length ≤ k) = false := decide_eq_false (by omega)
        clear hcc2 HG HB
        go_wp2_with fail
        refine wp_region_quiet_below (by kernel_rfl) (by kernel_rfl) ?_
        repeat (go_big_quiet_step (fail))
        refine wpQuiet_nil ?_
        intro _ hw'
        obtain ⟨pp, hw''⟩ := hw'
        subst hw''
        go_wp2_with fail
        go_roundw
        case rel => exact ⟨k + 1, by omega, by go_num, HBN.out pp⟩
        case measure => simp [intOf]; omega
      · obtain ⟨j, hj⟩ : ∃ j, k - labs.length = j := ⟨_, rfl⟩
        have hml : ∀ h, (marksL 12)[k - labs.length]'h = markLab j := fun h => by subst hj; simp [marksL]
        rw [List.getElem_append_right (by omega), hml] at c1 c2
        have hj12 : j < 12 := by omega
        have CM : Hid (∀ W, Below wr.heap.size wr W → Calls Tryz.prog 184 #[.int .i64 1, .int .i64 (j : Nat)] W fun e w' => e = .returned (.agg #[.string ⟨#[]⟩, .string (markB j)]) ∧ Below W.heap.size W w') := fun W _ => markLabel_any j hj12 W
        unfold markLab at c1 c2
        dsimp only at c1 c2
        have hb1 := ba_eq (markB j) (markB j)
        rw [decide_eq_true rfl] at hb1
        generalize markB j = mk at c1 c2 CM hb1
        have hd1 : decide ((k : Int) < (labs.length : Int)) = false := decide_eq_false (by omega)
        have hd2 : decide ((labs.length : Int) ≤ (k : Int)) = true := decide_eq_true (by omega)
        have hd3 : decide (k < labs.length) = false := decide_eq_false hkn
        have hd4 : decide (labs.length ≤ k) = true := decide_eq_true (by omega)
        have hji : (k : Int) - (labs.length : Int) = (j : Int) := by omega
        have hjw : IntKind.i64.wrap ((k : Int) - (labs.length : Int)) = (j : Int) := by rw [IntWalk.i64_in _ (by omega)]; omega
        clear HG HB hml
        go_wp2_with fail
        refine wp_region_quiet_below (by kernel_rfl) (by kernel_rfl) ?_
        repeat (go_big_quiet_step ((with_reducible exact regrown_in CM.out _)))
        refine wpQuiet_nil ?_
        intro _ hw'
        obtain ⟨pp, hw''⟩ := hw'
        subst hw''
        clear hjw hji
        go_wp2_with fail
        go_roundw
        case rel => exact ⟨k + 1, by omega, by go_num, HBN.out pp⟩
        case measure => simp [intOf]; omega
    · obtain rfl : k = labs.length + 12 := by omega
      go_wp2_with fail
      go_ret
      exact ⟨rfl, HBW.out⟩
theorem boxes_at {w w1 : World} {l next : Lev} {v u : Value} {w2 : World} (hw2 : (w.alloc (boxO l v)).alloc (boxO next u) = w2) (hb : Below w2.heap.size w2 w1) : Boxes w.heap.size l next v u w1 := by
  have hz : w2.heap.size = w.heap.size + 2 := by rw [← hw2]; simp
  have := boxes_new w l next v u
  rw [hw2] at this
  exact this.below (by rw [← hz]; exact hb)
set_option maxHeartbeats 4000000 in
theorem sameLevel_true (l : Lev) (va vb : Value) (w : World) (ha : RdLabs w va l.labs) (hb : RdLabs w vb l.labs) (hl : l.labs.length ≤ 100000) :
    Calls Tryz.prog 70 #[lvA l va, lvA l vb] w fun e w' => e = .returned (.bool true) ∧ Below w.heap.size w w' := by
  have HS : Hid (∀ W, Below w.heap.size w W → Calls Tryz.prog 124 #[va, vb] W fun e w' => e = .returned (.bool true) ∧ Below W.heap.size W w') := fun W hW => sameLabels_true l.labs va vb W (ha.below hW) (hb.below hW) hl
  obtain ⟨w2, hw2⟩ : ∃ w2 : World, (w.alloc (boxO l va)).alloc (boxO l vb) = w2 := ⟨_, rfl⟩
  have HB2 : Hid (Below w.heap.size w w2) := by rw [← hw2]; exact ((Below.refl _ w).alloc (Nat.le_refl _) _).alloc (by simp) _
  have HBX : Hid (∀ w1, Below w2.heap.size w2 w1 → Boxes w.heap.size l l va vb w1) := fun w1 h => boxes_at hw2 h
  have hbx := HBX.out w2 (Below.refl _ _)
  have a0 := hbx.l0
  have a1 := hbx.l1
  have a2 := hbx.l2
  have b0 := hbx.n0
  have b1 := hbx.n1
  have b2 := hbx.n2
  obtain ⟨sa, ca, rfl, _⟩ := ha
  obtain ⟨sb, cb, rfl, _⟩ := hb
  have hbe := ba_eq l.name l.name
  rw [decide_eq_true rfl] at hbe
  unfold boxO at hw2
  unfold lvA
  clear hbx
  go_enter Tryz.func70, Tryz.ntmps70
  go_wp2_with fail
  refine (HS.out _ HB2.out).mono ?_
  rintro e w3 ⟨rfl, hb3⟩
  have hby := HBX.out w3 hb3
  have a3 := hby.l3
  have a4 := hby.l4
  have b3 := hby.n3
  have b4 := hby.n4
  have HB3 := Lib.hid (HB2.out.trans (hb3.mono HB2.out.size))
  clear hby hb3
  go_wp2_with fail
  go_ret
  exact ⟨rfl, HB3.out⟩
set_option maxHeartbeats 4000000 in
theorem keptLevel_true (l : Lev) (u v : Value) (base : Nat) (w : World) (hu : LentLab w base u l.labs) (hv : RdLabs w v l.labs) (hl : l.labs.length ≤ 100000) :
    Calls Tryz.prog 69 #[lvA l u, lvA l v] w fun e w' => e = .returned (.bool true) ∧ Below w.heap.size w w' := by
  have HS : Hid (∀ W, Below w.heap.size w W → Calls Tryz.prog 70 #[lvA l u, lvA l v] W fun e w' => e = .returned (.bool true) ∧ Below W.heap.size W w') := fun W hW => sameLevel_true l u v W (hu.reads.below hW) (hv.below hW) hl
  have HK : Hid (∀ W, Below w.heap.size w W → Calls Tryz.prog 123 #[u, v] W fun e w' => e = .returned (.bool true) ∧ Below W.heap.size W w') := fun W hW => by
    obtain ⟨g, hg, h1, h2, h3⟩ := hu
    exact keptLabels_true l.labs u v base W ⟨g, hg, h1, Nat.lt_of_lt_of_le h2 hW.size, fun i hi => ⟨(hW.cell (p := ⟨g, i * 2, none⟩) h2).trans (h3 i hi).1, (hW.cell (p := ⟨g, i * 2 + 1, none⟩) h2).trans (h3 i hi).2⟩⟩ (hv.below hW) hl
  obtain ⟨w2, hw2⟩ : ∃ w2 : World, (w.alloc (boxO l u)).alloc (boxO l v) = w2 := ⟨_, rfl⟩
  have HB2 : Hid (Below w.heap.size w w2) := by rw [← hw2]; exact ((Below.refl _ w).alloc (Nat.le_refl _) _).alloc (by simp) _
  have HBX : Hid (∀ w1, Below w2.heap.size w2 w1 → Boxes w.heap.size l l u v w1) := fun w1 h => boxes_at hw2 h
  have hbx := HBX.out w2 (Below.refl _ _)
  obtain ⟨a0, a1, a2, a3, a4, b0, b1, b2, b3, b4⟩ := hbx
  obtain ⟨gu, rfl, _⟩ := hu
  obtain ⟨sb, cb, rfl, _⟩ := hv
  unfold boxO at hw2
  unfold lvA at HS ⊢
  go_enter Tryz.func69, Tryz.ntmps69
  go_wp2_with fail
  refine (HS.out _ HB2.out).mono ?_
  rintro e w3 ⟨rfl, hb3⟩
  have hby := HBX.out w3 hb3
  have c2 := hby.l2
  have d2 := hby.n2
  have HB3 := Lib.hid (HB2.out.trans (hb3.mono HB2.out.size))
  clear hby hb3 a0 a1 a2 a3 a4 b0 b1 b2 b3 b4
  go_wp2_with fail
  refine (HK.out _ HB3.out).mono ?_
  rintro e w4 ⟨rfl, hb4⟩
  have HB4 := Lib.hid (HB3.out.trans (hb4.mono HB3.out.size))
  clear hb4
  go_wp2_with fail
  go_ret
  exact ⟨rfl, HB4.out⟩
set_option maxHeartbeats 8000000 in
theorem keptLevels_true (ls : List Lev) (u v : Value) (base : Nat) (w : World) (hu : LentLevs w base u ls) (hv : RdLevs w v ls) (hf : ∀ l ∈ ls, l.labs.length ≤ 100000) (hl : ls.length ≤ 1000) :
    Calls Tryz.prog 28 #[u, v] w fun e w' => e = .returned (.bool true) ∧ Below w.heap.size w w' := by
  obtain ⟨g, rfl, _, hg, hgc, hgm⟩ := hu
  obtain ⟨b, cb, rfl, hcb⟩ := hv
  have HG := Lib.hid hgc
  have HM := Lib.hid hgm
  have HB := Lib.hid hcb
  have HF := Lib.hid hf
  have hne : ((ls.length : Int) != (ls.length : Int)) = false := by simp
  clear hgc hcb hgm hf
  go_enter Tryz.func28, Tryz.ntmps28
  go_wp2_with fail
  go_loopw [6] (fun i wr => ∃ k : Nat, k ≤ ls.length + 12 ∧ i = .int .i64 k ∧ Hid (Below w.heap.size w wr)) (fun i _ => ls.length + 12 - (intOf i).toNat)
  case atStart => exact ⟨0, Nat.zero_le _, rfl, Below.refl _ _⟩
  case round =>
    obtain ⟨k, hk, rfl, HBW⟩ := hrel
    by_cases hlt : k < ls.length + 12
    · have hd : decide ((k : Int) < ((ls.length : Int) + 12)) = true := decide_eq_true (by omega)
      have HBN : Hid (∀ pp : Regrown, Below w.heap.size w (grow (redrawn wr pp.d) pp.os)) := fun pp => HBW.out.trans ((below_in wr pp).mono HBW.out.size)
      by_cases hkn : k < ls.length
      · obtain ⟨g2, off2, rfl, hg2, hcc2⟩ := HB.out (by omega)
        obtain ⟨su, hsu, hau⟩ := HG.out k hkn
        obtain ⟨sv, hsv, hav⟩ := hcc2 k hkn
        obtain ⟨c0, c1, c2, c3, c4⟩ := hau.below HBW.out hg
        obtain ⟨e0, e1, e2, e3, e4⟩ := hav.below HBW.out hg2
        have CK : Hid (∀ W, Below wr.heap.size wr W → Calls Tryz.prog 69 #[lvA ls[k] su, lvA ls[k] sv] W fun e w' => e = .returned (.bool true) ∧ Below W.heap.size W w') := fun W hW => by
          have hw : Below w.heap.size w W := HBW.out.trans (hW.mono HBW.out.size)
          exact keptLevel_true ls[k] su sv base W (hsu.below hw) (hsv.below hw) (HF.out _ (List.getElem_mem hkn))
        have c0 := cells_in c0
        have c1 := cells_in c1
        have c2 := cells_in c2
        have c3 := cells_in c3
        have c4 := cells_in c4
        have e0 := cells_in e0
        have e1 := cells_in e1
        have e2 := cells_in e2
        have e3 := cells_in e3
        have e4 := cells_in e4
        unfold lvA at CK
        generalize ls[k] = l at c0 c1 c2 c3 c4 e0 e1 e2 e3 e4 CK
        have hd1 : decide ((k : Int) < (ls.length : Int)) = true := decide_eq_true (by omega)
        have hd2 : decide ((ls.length : Int) ≤ (k : Int)) = false := decide_eq_false (by omega)
        have hd3 : decide (k < ls.length) = true := decide_eq_true hkn
        have hd4 : decide (ls.length ≤ k) = false := decide_eq_false (by omega)
        clear hcc2 HG HB HM HF hsu hau hsv hav
        go_wp2_with fail
        refine wp_region_quiet_below (by kernel_rfl) (by kernel_rfl) ?_
        repeat (go_big_quiet_step ((with_reducible exact regrown_in CK.out _)))
        refine wpQuiet_nil ?_
        intro _ hw'
        obtain ⟨pp, hw''⟩ := hw'
        subst hw''
        go_wp2_with fail
        go_roundw
        case rel => exact ⟨k + 1, by omega, by go_num, HBN.out pp⟩
        case measure => simp [intOf]; omega
      · obtain ⟨j, hj⟩ : ∃ j, k - ls.length = j := ⟨_, rfl⟩
        have hj12 : j < 12 := by omega
        have hkj : ls.length + j = k := by omega
        have hlm := HM.out j hj12
        rw [hkj] at hlm
        obtain ⟨c0, c1, c2, c3, c4⟩ := hlm.below HBW.out hg
        have c0 := cells_in c0
        have c1 := cells_in c1
        have c2 := cells_in c2
        have c3 := cells_in c3
        have c4 := cells_in c4
        have CM : Hid (∀ W, Below wr.heap.size wr W → Calls Tryz.prog 63 #[.int .i64 1, .int .i64 (j : Nat)] W fun e w' => e = .returned (markLvV j) ∧ Below W.heap.size W w') := fun W _ => markLevel_any j hj12 W
        have CS : Hid (∀ W, Below wr.heap.size wr W → Calls Tryz.prog 70 #[lvA (markLv j) (.slice none 0 0), lvA (markLv j) (.slice none 0 0)] W fun e w' => e = .returned (.bool true) ∧ Below W.heap.size W w') := fun W hW => sameLevel_true (markLv j) _ _ W (rd_nil W) (rd_nil W) (Nat.zero_le _)
        unfold lvA markLv at CS
        unfold markLvV at CM
        unfold markLv at c0 c1 c2 c3 c4
        dsimp only at c0 c1 c2 c3 c4 CS
        have hd1 : decide ((k : Int) < (ls.length : Int)) = false := decide_eq_false (by omega)
        have hd2 : decide ((ls.length : Int) ≤ (k : Int)) = true := decide_eq_true (by omega)
        have hd3 : decide (k < ls.length) = false := decide_eq_false hkn
        have hd4 : decide (ls.length ≤ k) = true := decide_eq_true (by omega)
        have hji : (k : Int) - (ls.length : Int) = (j : Int) := by omega
        have hjw : IntKind.i64.wrap ((k : Int) - (ls.length : Int)) = (j : Int) := by rw [IntWalk.i64_in _ (by omega)]; omega
        generalize 8000024 + (j : Int) = mk at c0 c1 c2 c3 c4 CM CS
        clear HG HB HM HF hlm
        go_wp2_with fail
        refine wp_region_quiet_below (by kernel_rfl) (by kernel_rfl) ?_
        repeat (go_big_quiet_step ((first | (with_reducible exact regrown_in CM.out _) | (with_reducible exact regrown_in CS.out _))))
        refine wpQuiet_nil ?_
        intro _ hw'
        obtain ⟨pp, hw''⟩ := hw'
        subst hw''
        clear hjw hji
        go_wp2_with fail
        go_roundw
        case rel => exact ⟨k + 1, by omega, by go_num, HBN.out pp⟩
        case measure => simp [intOf]; omega
    · obtain rfl : k = ls.length + 12 := by omega
      go_wp2_with fail
      go_ret
      exact ⟨rfl, HBW.out⟩
end Go.Proofs.YtojedplbhialpaaGreatDoor
