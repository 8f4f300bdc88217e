/-
  The kit's markLine, LentLines, LentManifest.
-/
import Derived.Test.YtojedplbhialpaaGreatDoorGV
import Derived.Test.YtojedplbhialpaaGreatDoorGN
import Derived.OwnWalk
namespace Go.Proofs.YtojedplbhialpaaGreatDoor
open Go.RowKit Go.Sort
set_option linter.unusedVariables false
set_option maxRecDepth 100000
def markLn (j : Nat) : Ln := ⟨0, 0, 0, 0, 0, 0, 0, 8000024 + (j : Int)⟩
def marksN (k : Nat) : List Ln := (List.range k).map markLn
theorem marksN_succ (k : Nat) : marksN (k + 1) = marksN k ++ [markLn k] := by unfold marksN; rw [List.range_succ]; simp
theorem marksN_len (k : Nat) : (marksN k).length = k := by unfold marksN; simp
/-- A lent slice of lines: the lines, and twelve marks behind them. -/
def LentLn (W : World) (base : Nat) (v : Value) (l : List Ln) : Prop :=
  ∃ g, v = .slice (some ⟨g, 0, none⟩) l.length (l.length + 12) ∧ base ≤ g ∧ g < W.heap.size ∧ ∀ i (h : i < (l ++ marksN 12).length), ∀ j u, (lnC (l ++ marksN 12)[i])[j]? = some u → W.cell? ⟨g, i * 8 + j, none⟩ = some u
theorem LentLn.grown {W W' : World} {base C : Nat} {v : Value} {l : List Ln} (h : LentLn W base v l) (hg : W.grownBy W' (some C)) (hC : C < base) : LentLn W' base v l := by
  obtain ⟨g, rfl, h1, h2, h3⟩ := h
  exact ⟨g, rfl, h1, Nat.lt_of_lt_of_le h2 hg.size, fun i hi j u hu => hg.cell (h3 i hi j u hu) (by simp; omega)⟩
theorem LentLn.below {W W' : World} {base : Nat} {v : Value} {l : List Ln} (h : LentLn W base v l) (hb : Below W.heap.size W W') : LentLn W' base v l := by
  obtain ⟨g, rfl, h1, h2, h3⟩ := h
  exact ⟨g, rfl, h1, Nat.lt_of_lt_of_le h2 hb.size, fun i hi j u hu => (hb.cell (p := ⟨g, i * 8 + j, none⟩) h2).trans (h3 i hi j u hu)⟩
theorem LentLn.mono {W : World} {base base' : Nat} {v : Value} {l : List Ln} (h : LentLn W base v l) (hb : base' ≤ base) : LentLn W base' v l := by
  obtain ⟨g, rfl, h1, h2, h3⟩ := h
  exact ⟨g, rfl, by omega, h2, h3⟩
theorem LentLn.reads {W : World} {base : Nat} {v : Value} {l : List Ln} (h : LentLn W base v l) : RdLns W v l := by
  obtain ⟨g, rfl, h1, h2, h3⟩ := h
  refine ⟨_, _, rfl, fun h0 => ⟨g, 0, rfl, h2, fun i hi j u hu => ?_⟩⟩
  have := h3 i (by rw [List.length_append]; omega) j u
  rw [List.getElem_append_left hi] at this
  rw [Nat.zero_add]
  exact this hu
theorem ln_len (l : List Ln) : (l.flatMap lnC).length = l.length * 8 := by
  induction l with
  | nil => rfl
  | cons x r ih => rw [List.flatMap_cons, List.length_append, ih, List.length_cons]; show 8 + _ = _; omega
theorem ln_cells {w w1 : World} {a : Option Addr} {l : List Ln} (hc : 0 < l.length → ∃ g off, a = some ⟨g, off, none⟩ ∧ g < w.heap.size ∧ ∀ i (h : i < l.length), ∀ j u, (lnC l[i])[j]? = some u → w.cell? ⟨g, off + i * 8 + j, none⟩ = some u) (hB : Below w.heap.size w w1) :
    ∀ ad, a = some ad → ∀ j u, (l.flatMap lnC)[j]? = some u → w1.cell? (ad.add j) = some u := by
  intro ad had j u hu
  have hj : j < l.length * 8 := by
    have := (List.getElem?_eq_some_iff.1 hu).1
    rw [ln_len] at this
    exact this
  obtain ⟨k, r, hr, rfl⟩ : ∃ k r, r < 8 ∧ j = k * 8 + r := ⟨j / 8, j % 8, by omega, by omega⟩
  have hk : k < l.length := by omega
  obtain ⟨g, off, e, hg, hcc⟩ := hc (by omega)
  rw [e] at had
  obtain rfl := Option.some.inj had
  rw [flat_at lnC_len l k r hk hr] at hu
  have ea : (⟨g, off, none⟩ : Addr).add (k * 8 + r) = ⟨g, off + k * 8 + r, none⟩ := by unfold Addr.add; split <;> simp_all <;> omega
  rw [ea]
  exact (hB.cell (p := ⟨g, off + k * 8 + r, none⟩) hg).trans (hcc k hk r u hu)
theorem ln_one (l : List Ln) : ∀ u ∈ l.flatMap lnC, u.oneCell' = true := by
  intro u hu
  obtain ⟨x, _, hx⟩ := List.mem_flatMap.1 hu
  unfold lnC at hx
  simp only [List.mem_cons, List.not_mem_nil, or_false] at hx
  rcases hx with rfl | rfl | rfl | rfl | rfl | rfl | rfl | rfl <;> rfl
theorem markLine_any (j : Nat) (hj : j < 12) (w : World) : Calls Tryz.prog 132 #[.int .i64 1, .int .i64 j] w fun e w' => e = .returned (lnA (markLn j)) ∧ Below w.heap.size w w' := by
  have HM := Lib.hid (fun W => mark_any j hj W)
  unfold lnA markLn
  dsimp only
  generalize 8000024 + (j : Int) = mk at HM ⊢
  have hj1 : (j : Int) ≤ 11 := by omega
  have hj0 : (0 : Int) ≤ (j : Int) := by omega
  go_enter Tryz.func132, Tryz.ntmps132
  go_wp2_with fail
  refine (HM.out _).mono ?_
  rintro e w1 ⟨rfl, rfl⟩
  go_wp2_with fail
  exact bodyPost_ret (v := .agg #[.int .i64 0, .int .i64 0, .int .i64 0, .int .i64 0, .int .i64 0, .int .i64 0, .int .i64 0, .int .i64 mk]) (by simp [results, Tryz.results132, go_sem]) rfl ⟨rfl, (Below.refl _ w).alloc (Nat.le_refl _) _⟩
set_option maxHeartbeats 8000000 in
theorem lentLines_any (l : List Ln) (v : Value) (w : World) (hr : RdLns w v l) (hnil : NilOk v) (hl : l.length ≤ 100000) :
    Calls Tryz.prog 76 #[v] w fun e w' => ∃ u, e = .returned u ∧ LentLn w' w.heap.size u l ∧ Below w.heap.size w w' := by
  obtain ⟨a, cap, rfl, hc⟩ := hr
  obtain ⟨i0, hi⟩ := info_parts Tryz.infoLine
  have HI := Lib.hid hi
  have HC := Lib.hid hc
  have HNIL := Lib.hid hnil
  have HL := Lib.hid (ln_len l)
  clear hi hc hnil
  go_enter Tryz.func76, Tryz.ntmps76
  go_wp2_with (first
    | (at_make; refine wpList_make_own _ rfl _ _ 40 rfl w.heap.size 42 i0 (.agg #[.int .i64 0, .int .i64 0, .int .i64 0, .int .i64 0, .int .i64 0, .int .i64 0, .int .i64 0, .int .i64 0]) 8 Tryz.underlying40 HI.out.1 HI.out.2.1 HI.out.2.2.1 _ _ _ (l.length + 12) rfl (by first | rfl | simp) rfl (by rw [HI.out.2.2.2]; omega) (by unfold maxLen; omega) (Nat.le_refl _) ?_; intro w1 hown hgrow; have hB : Below w.heap.size w w1 := (Below.refl _ w).grown hgrow (Nat.le_refl _) (fun _ e => by cases e); clear hgrow)
    | (at_builtin; refine wpList_append_fits_any w1 rfl _ _ 40 rfl w.heap.size 42 i0 8 Tryz.underlying40 HI.out.1 HI.out.2.2.1 w.heap.size 0 (l.length + 12) [] rfl hown a l.length cap (l.flatMap lnC) rfl HL.out (fun e => HNIL.out _ _ (by rw [e])) (ln_cells HC.out hB) (ln_one l) (by omega) ?_; intro w2 hown2 hgrow2; replace hB : Below w.heap.size w w2 := hB.grown hgrow2 hB.size (fun r e => by cases e; exact Nat.le_refl _); clear hown hgrow2))
  rw [Nat.zero_add, List.nil_append] at hown2
  go_loopw [3, 4] (fun x i wr => ∃ k : Nat, k ≤ 12 ∧ i = .int .i64 k ∧ x = .slice (some ⟨w.heap.size, 0, none⟩) (l.length + k) (l.length + 12) ∧ Below w.heap.size w wr ∧ wr.ownsRow w.heap.size 42 8 (.slice (some ⟨w.heap.size, 0, none⟩) (l.length + k) (l.length + 12)) (l.length + k) ((l ++ marksN k).flatMap lnC)) (fun _ i _ => 12 - (intOf i).toNat)
  case atStart => exact ⟨0, Nat.zero_le _, rfl, by simp, hB, by simpa [marksN] using hown2⟩
  case round =>
    clear hB hown2
    obtain ⟨k, hk, rfl, rfl, hB, hown⟩ := hrel
    by_cases hlt : k < 12
    · have hs0 : (l ++ marksN (k + 1)).flatMap lnC = (l ++ marksN k).flatMap lnC ++ lnC (markLn k) := by
        rw [marksN_succ, ← List.append_assoc, List.flatMap_append]
        simp
      have HSU : Hid ((l ++ marksN (k + 1)).flatMap lnC = (l ++ marksN k).flatMap lnC ++ [.int .i64 0, .int .i64 0, .int .i64 0, .int .i64 0, .int .i64 0, .int .i64 0, .int .i64 0, .int .i64 (8000024 + (k : Int))]) := hs0
      clear hs0
      have hmt := fun W => markLine_any k hlt W
      unfold lnA markLn at hmt
      dsimp only at hmt
      generalize 8000024 + (k : Int) = mk at HSU hmt
      have HMT := Lib.hid hmt
      clear hmt
      go_wp2_with (first
        | (go_at_call 132; refine (HMT.out _).mono ?_; rintro e w3 ⟨rfl, hb3⟩; replace hown := hown.kept (grown_none hb3) (Classical.em _); replace hB := hB.trans (hb3.mono hB.size); clear hb3)
        | (at_builtin; refine wpList_append_fits _ rfl _ _ 40 rfl w.heap.size 42 i0 8 Tryz.underlying40 HI.out.1 HI.out.2.2.1 w.heap.size (l.length + k) (l.length + 12) _ rfl (hown.alloc _) ⟨w3.heap.size, 0, none⟩ 1 1 [.int .i64 0, .int .i64 0, .int .i64 0, .int .i64 0, .int .i64 0, .int .i64 0, .int .i64 0, .int .i64 mk] rfl rfl (cells_new _ _ _) (by simp [Value.oneCell']) (by omega) ?_; intro w4 hown4 hgrow4))
      have hb4 : Below w.heap.size w w4 := (hB.alloc hB.size _).grown hgrow4 (by have := hB.size; simp; omega) (fun r e => by cases e; exact Nat.le_refl _)
      clear hgrow4
      go_roundw
      case rel => exact ⟨k + 1, by omega, by go_num, by rw [Nat.add_assoc], hb4, by rw [HSU.out, ← Nat.add_assoc]; exact hown4⟩
      case measure => simp [intOf]; omega
    · obtain rfl : k = 12 := by omega
      have hbw := (hown.lt w.heap.size rfl).2
      have HO := Lib.hid hown
      go_wp2_with fail
      go_ret
      refine ⟨_, rfl, ⟨w.heap.size, rfl, Nat.le_refl _, hbw, fun i h j u hu => ?_⟩, hB⟩
      have hm := marksN_len 12
      have h' : i < l.length + 12 := by rw [List.length_append, hm] at h; exact h
      have hj : j < 8 := (List.getElem?_eq_some_iff.1 hu).1
      rw [HO.out.cellAt _ (by omega), flat_at lnC_len (l ++ marksN 12) i j h hj]
      exact hu
end Go.Proofs.YtojedplbhialpaaGreatDoor
