/-
  letterbaglaw26.TrayWrong returns true for every input, and leaves its arguments as they were: the row, from the walk. No condition.
-/
import Derived.Test.YtelklmdlodgdpaaGreatRU
import Derived.Test.YtelklmdlodgdpaaGreatT31
import Derived.SizedLaws
namespace Go.Proofs.YtelklmdlodgdpaaGreat
open Go.ChangeShapes Go.WideShapes Go.ChangeAt Go.RowKit
open Go.ChangeMaps (open_string shut_string)
set_option linter.unusedVariables false
set_option maxRecDepth 100000
theorem bytes_u16 : Tryz.prog.bytesOf 60 = 2 := by kernel_rfl
theorem u16s_weight {H : Type} {enc : TypeId × Value → H} {W : World} {d : DataW H} {ps : List MemPlace} {a0 : Option Addr} {n c : Nat}
    (h : DataW.Trod enc Tryz.prog W 0 (fun _ => true) true 24 (.slice a0 n c) d ps) (hw : ∀ x ∈ d.weights Tryz.prog 24, x ≤ reachBytes) : n ≤ 70368744175616 := by
  obtain ⟨fuel, hf0⟩ := h
  rcases DataW.trod_slice Tryz.underlying24 hf0 with ⟨hcs, hx⟩ | ⟨a, len, cap, elems, rest, m, _, hcs, hx, hb, hl, hm, hlen, hel, hsp, hns⟩
  · simp [Value.cells] at hcs
    omega
  · simp [Value.cells] at hcs
    obtain ⟨rfl, rfl, rfl⟩ := hcs
    have hd : d = .slice (elems.map (·.1)) (rest.map (·.1)) := congrArg Prod.fst hx
    subst hd
    unfold DataW.weights at hw
    rw [Tryz.underlying24] at hw
    have := hw _ List.mem_cons_self
    rw [bytes_u16, List.length_map, List.length_map, hlen] at this
    unfold reachBytes at this
    omega
theorem trayWrong_lifted (os : Os) (started : os.Started) (H : Type) (enc : TypeId × Value → H) :
    ReturnsInHanded {} Tryz.checked os 6 .any (Rows.trayWrongSpec.pre6 enc Tryz.prog Tryz.f6 Rows.trayWrongRow.domain false) (Rows.trayWrongSpec.post enc Tryz.prog Tryz.f6 false true false false) := by
  refine returnsInHanded_of_change_sized (C := Tryz.checked) own started (by kernel_rfl) Tryz.func6
    (ChangeSpec.witness6 (enc := enc) (C := Tryz.checked) false ⟨#[], #[.int .u32 0, .slice none 0 0, .int .u8 0], []⟩ 8 (by kernel_rfl) (by kernel_rfl) (by kernel_rfl) (by kernel_rfl)) ?_
  intro W base args ds gs before hval0 hW hcnd hwt _
  have hval : ∀ (j : Nat) t v, Tryz.f6.params[j]? = some t → args[j]? = some v → Value.okWide Tryz.prog W .any base t v := hval0
  have hW' := hW
  obtain ⟨p, q, hA0, hV, rfl, _, _⟩ := hW
  have hA : DataW.TrodAll enc Tryz.prog W 0 (fun _ => true) true Tryz.f6.params.toList args.toList ds p := hA0
  rw [Tryz.params6] at hA hval
  obtain ⟨v0, v1, v2, d0, d1, d2, p0, p1, p2, rfl, rfl, rfl, h0, h1, h2⟩ := trodAll_three hA
  obtain ⟨rfl, rfl⟩ := trodVars_none hV
  have hwt1 : ∀ x ∈ d1.weights Tryz.prog 24, x ≤ reachBytes := by
    have k1 : ((DataW.weightsEach Tryz.prog (Tryz.f6.params.toList ++ _) ([d0, d1, d2] ++ [])).all (· ≤ reachBytes)) = true := hwt
    rw [Tryz.params6] at k1
    have k2 : ∀ x ∈ DataW.weightsEach Tryz.prog ([22, 24, 5] ++ _) ([d0, d1, d2] ++ []), x ≤ reachBytes := fun x hx => by
      have := List.all_eq_true.1 k1 x hx
      simpa using this
    exact fun x hx => k2 x (by simp only [List.cons_append, List.nil_append, DataW.weightsEach]; exact List.mem_append_right _ (List.mem_append_left _ hx))
  obtain ⟨x0, rfl, rfl, rfl, f0⟩ := open_int Tryz.underlying22 (hval 0 22 v0 rfl rfl) h0
  have b0 := u32_of_wf f0
  obtain ⟨y1, r1, l1, z1⟩ := open_u16sC_arg (hval 1 24 v1 rfl rfl) h1
  have w1 : y1.length ≤ 70368744175616 := by
    obtain ⟨a1, c1, hv1, _⟩ := r1
    rw [hv1] at h1
    exact u16s_weight h1 hwt1
  obtain ⟨x2, rfl, rfl, rfl, f2⟩ := open_int Tryz.underlying5 (hval 2 5 v2 rfl rfl) h2
  obtain ⟨c2, rfl⟩ := u8_of_wf f2
  clear hA0 hval0
  simp only [List.append_nil] at hW'
  refine (wrong_walk x0 c2 v1 y1 W b0.1 b0.2 z1 w1).mono fun e W' ⟨he, bel⟩ => ?_
  subst he
  exact ⟨_, rfl, _, _, _, [], _, [], hW', trodAll_mk1 (shut_bool Tryz.underlying4 _), (trodAll_mk3 (shut_int Tryz.underlying22 f0) (Below.trod laidOut (by kernel_rfl) (of_decide_eq_true (by kernel_rfl)) h1 bel (fun x hx => by simpa using hW'.lt x (by simp [hx]))) (shut_int Tryz.underlying5 f2)), rfl, bel.frame _, fun h => by cases h⟩
theorem trayWrong_holds : Rows.TrayWrongSaid :=
  OpenClaim.holds_of_wide 6 Tryz.f6 rfl rfl rfl rfl rfl rfl rfl ⟨rfl, rfl, rfl, rfl, rfl⟩ rfl rfl rfl rfl rfl (by kernel_rfl) Tryz.func6 (by kernel_rfl)
    (of_decide_eq_true (by kernel_rfl)) (by unfold Func.isWrapper; first | (rw [if_pos (by decide +kernel)]; kernel_rfl) | (rw [if_neg (by decide +kernel)]; exact ⟨rfl, rfl⟩))
    (fun os started H enc _ => trayWrong_lifted os started H enc)
end Go.Proofs.YtelklmdlodgdpaaGreat
