/-
  letterbaglaw25.PresortSaves returns true for every input, and leaves its arguments as they were: the row, from the walk. No condition.
-/
import Derived.Test.YtpieagaggjngjaaGreatGV
import Derived.Test.YtpieagaggjngjaaGreatY3
import Derived.SizedLaws
namespace Go.Proofs.YtpieagaggjngjaaGreat
open Go.ChangeShapes Go.WideShapes Go.ChangeAt Go.RowKit
open Go.ChangeMaps (open_string shut_string)
set_option linter.unusedVariables false
set_option maxRecDepth 100000
theorem cells_i64 : Tryz.prog.cellsOf 3 = 1 := by kernel_rfl
theorem open_ints_arg {H : Type} {enc : TypeId × Value → H} {W : World} {base : Nat} {v : Value} {d : DataW H} {ps : List MemPlace} (hval : Value.okWide Tryz.prog W .any base 23 v)
    (h : DataW.Trod enc Tryz.prog W 0 (fun _ => true) true 23 v d ps) : ∃ zs : List Int, RdInts W v zs ∧ NilOk v ∧ zs.length ≤ maxLen := by
  obtain ⟨a0, len, cap, rfl⟩ := okWide_slice Tryz.underlying23 hval
  obtain ⟨fuel, hf⟩ := h
  rcases open_ints Tryz.underlying23 Tryz.underlying3 cells_i64 hf with ⟨hcs, hx⟩ | ⟨a, len', cap', zs, hcs, _, hl, hm, hz, hx, hcell, hwz⟩
  · simp [Value.cells] at hcs
    obtain ⟨rfl, rfl, rfl⟩ := hcs
    exact ⟨[], ⟨none, 0, rfl, fun h => absurd h (by simp)⟩, fun l c h => (by cases h; exact ⟨rfl, rfl⟩), Nat.zero_le _⟩
  · simp [Value.cells] at hcs
    obtain ⟨rfl, rfl, rfl⟩ := hcs
    simp only [if_true] at hz
    obtain ⟨b, off, spot⟩ := a
    refine ⟨(List.range len).map (fun i => zs.getD i 0), ⟨some ⟨b, off, spot⟩, cap, by simp, fun h0 => ?_⟩, fun l c h => (by cases h), by simp; omega⟩
    have hl0 : 0 < len := by simpa using h0
    have hspot : spot = none := by simpa [Addr.add] using World.cell?_spot (hcell 0 (by omega))
    subst hspot
    have hcc : ∀ i, i < len → W.cell? ⟨b, off + i, none⟩ = some (.int .i64 (zs.getD i 0)) := fun i hi => by
      have := hcell i (by omega)
      have ea : (⟨b, off, none⟩ : Addr).add i = ⟨b, off + i, none⟩ := by unfold Addr.add; split <;> simp_all
      rw [ea] at this
      exact this
    refine ⟨b, off, rfl, cell_lt (hcc 0 hl0), fun i hi => ?_⟩
    have hi' : i < len := by simpa using hi
    rw [hcc i hi', List.getElem_map, List.getElem_range]
theorem presortSaves_lifted (os : Os) (started : os.Started) (H : Type) (enc : TypeId × Value → H) :
    ReturnsInHanded {} Tryz.checked os 3 .any (Rows.presortSavesSpec.pre6 enc Tryz.prog Tryz.f3 Rows.presortSavesRow.domain false) (Rows.presortSavesSpec.post enc Tryz.prog Tryz.f3 false true false false) := by
  refine returnsInHanded_of_change_sized (C := Tryz.checked) own started (by kernel_rfl) Tryz.func3
    (ChangeSpec.witness6 (enc := enc) (C := Tryz.checked) false ⟨#[], #[.slice none 0 0, .slice none 0 0], []⟩ 8 (by kernel_rfl) (by kernel_rfl) (by kernel_rfl) (by kernel_rfl)) ?_
  intro W base args ds gs before hval0 hW hcnd hwt _
  have hval : ∀ (j : Nat) t v, Tryz.f3.params[j]? = some t → args[j]? = some v → Value.okWide Tryz.prog W .any base t v := hval0
  have hW' := hW
  obtain ⟨p, q, hA0, hV, rfl, _, _⟩ := hW
  have hA : DataW.TrodAll enc Tryz.prog W 0 (fun _ => true) true Tryz.f3.params.toList args.toList ds p := hA0
  rw [Tryz.params3] at hA hval
  obtain ⟨v0, v1, d0, d1, p0, p1, rfl, rfl, rfl, h0, h1⟩ := trodAll_two hA
  obtain ⟨rfl, rfl⟩ := trodVars_none hV
  have hwt0 : okW (d0.weights Tryz.prog 22) := by
    have k1 : ((DataW.weightsEach Tryz.prog (Tryz.f3.params.toList ++ _) ([d0, d1] ++ [])).all (· ≤ reachBytes)) = true := hwt
    rw [Tryz.params3] at k1
    have k2 : ∀ x ∈ DataW.weightsEach Tryz.prog ([22, 23] ++ _) ([d0, d1] ++ []), x ≤ reachBytes := fun x hx => by
      have := List.all_eq_true.1 k1 x hx
      simpa using this
    exact fun x hx => k2 x (by simp only [List.cons_append, List.nil_append, DataW.weightsEach]; exact List.mem_append_left _ hx)
  obtain ⟨y0, r0, l0, z0⟩ := open_levels_arg (hval 0 22 v0 rfl rfl) h0 hwt0
  obtain ⟨y1, r1, n1, l1⟩ := open_ints_arg (hval 1 23 v1 rfl rfl) h1
  clear hA0 hval0
  simp only [List.append_nil] at hW'
  refine (presortSaves_walk y0 v0 v1 y1 W r0 z0 l0 r1 n1 l1).mono fun e W' ⟨he, bel⟩ => ?_
  subst he
  exact ⟨_, rfl, _, _, _, [], _, [], hW', trodAll_mk1 (shut_bool Tryz.underlying4 _), (trodAll_mk2 (Below.trod laidOut (by kernel_rfl) (of_decide_eq_true (by kernel_rfl)) h0 bel (fun x hx => by simpa using hW'.lt x (by simp [hx]))) (Below.trod laidOut (by kernel_rfl) (of_decide_eq_true (by kernel_rfl)) h1 bel (fun x hx => by simpa using hW'.lt x (by simp [hx])))), rfl, bel.frame _, fun h => by cases h⟩
theorem presortSaves_holds : Rows.PresortSavesSaid :=
  OpenClaim.holds_of_wide 3 Tryz.f3 rfl rfl rfl rfl rfl rfl rfl ⟨rfl, rfl, rfl, rfl, rfl⟩ rfl rfl rfl rfl rfl (by kernel_rfl) Tryz.func3 (by kernel_rfl)
    (of_decide_eq_true (by kernel_rfl)) (by unfold Func.isWrapper; first | (rw [if_pos (by decide +kernel)]; kernel_rfl) | (rw [if_neg (by decide +kernel)]; exact ⟨rfl, rfl⟩))
    (fun os started H enc _ => presortSaves_lifted os started H enc)
end Go.Proofs.YtpieagaggjngjaaGreat
