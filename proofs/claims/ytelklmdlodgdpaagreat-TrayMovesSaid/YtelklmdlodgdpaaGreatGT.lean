import Derived.Test.YtelklmdlodgdpaaGreatRU
import Derived.Test.YtelklmdlodgdpaaGreatT35
/-! T36 -/
namespace Go.Proofs.YtelklmdlodgdpaaGreat
open Go.RowKit
set_option linter.unusedVariables false
set_option maxRecDepth 100000
theorem trayMoves_walk {n b : Int} {ca cb : UInt8} {least cents : List UInt8} {l : List UInt16} {vl vc vs : Value} {w : World} (hn0 : 0 ≤ n) (hn1 : n < 4294967296) (hb0 : 0 ≤ b) (hb1 : b < 4294967296) (hrl : RdBytes w vl least) (hrc : RdBytes w vc cents) (hrs : RdU16C w vs l)
    (hll : least.length ≤ maxLen) (hcl : cents.length ≤ maxLen) (hsl : l.length ≤ maxLen) :
    Calls Tryz.prog 5 #[.int .u32 n, vl, vc, vs, .int .u32 b, .int .u8 (ca.toNat : Int), .int .u8 (cb.toNat : Int)] w fun e w' => e = .returned (.bool true) ∧ Below w.heap.size w w' := by
  obtain ⟨bN, rfl⟩ : ∃ bN : Nat, b = (bN : Int) := ⟨b.toNat, (Int.toNat_of_nonneg hb0).symm⟩
  have hp := made_hp n least cents l 100 (by decide)
  have hpd := pkd_b hp (pckBy_ok bN) (pckBy_grams bN _)
  have hpn : (mail24 (l.take 100)).ps.length = (l.take 100).length := ps24_len _ _
  have hl3 : (l.take 100).length ≤ 100 := by rw [List.length_take]; exact Nat.min_le_left _ _
  refine moves_walk n bN ca cb vl vc vs w (made_b hn0 hn1 (by omega) hrl hrc hrs hll hcl hsl (by decide)) (pack_o hp (pckBy_ok bN) (pckBy_grams bN _)) ?_ hpd hl3 hp.mail (pckBy_ok bN) ?_
  · rw [planM_len]; exact hpn
  · intro W v vp vz vb vt vc L' h1 h2 h3 h4 h5 h6
    exact check_b hp (pckBy_ok bN) h1 h2 h3 h4 h5 h6
end Go.Proofs.YtelklmdlodgdpaaGreat

/-! T36F -/
namespace Go.Proofs.YtelklmdlodgdpaaGreat
open Go.ChangeShapes Go.WideShapes Go.ChangeAt Go.RowKit
open Go.ChangeMaps (open_string shut_string)
set_option linter.unusedVariables false
set_option maxRecDepth 100000 in
theorem trayMoves_lifted (os : Os) (started : os.Started) (H : Type) (enc : TypeId × Value → H) :
    ReturnsInHanded {} Tryz.checked os 5 .any (Rows.trayMovesSpec.pre6 enc Tryz.prog Tryz.f5 Rows.trayMovesRow.domain false) (Rows.trayMovesSpec.post enc Tryz.prog Tryz.f5 false true false false) := by
  refine returnsInHanded_of_change (C := Tryz.checked) own started (by kernel_rfl) Tryz.func5
    (ChangeSpec.witness6 (enc := enc) (C := Tryz.checked) false ⟨#[], #[.int .u32 0, .slice none 0 0, .slice none 0 0, .slice none 0 0, .int .u32 0, .int .u8 0, .int .u8 0], []⟩ 8 (by kernel_rfl) (by kernel_rfl) (by kernel_rfl) (by kernel_rfl)) ?_
  intro W base args ds gs before hval0 hW hcnd _
  have hval : ∀ (j : Nat) t v, Tryz.f5.params[j]? = some t → args[j]? = some v → Value.okWide Tryz.prog W .any base t v := hval0
  have hW' := hW
  obtain ⟨p, q, hA0, hV, rfl, _, _⟩ := hW
  have hA : DataW.TrodAll enc Tryz.prog W 0 (fun _ => true) true Tryz.f5.params.toList args.toList ds p := hA0
  rw [Tryz.params5] at hA hval
  obtain ⟨v0, v1, v2, v3, v4, v5, v6, d0, d1, d2, d3, d4, d5, d6, p0, p1, p2, p3, p4, p5, p6, rfl, rfl, rfl, h0, h1, h2, h3, h4, h5, h6⟩ := trodAll_seven hA
  obtain ⟨rfl, rfl⟩ := trodVars_none hV
  obtain ⟨x0, rfl, rfl, rfl, f0⟩ := open_int Tryz.underlying22 (hval 0 22 v0 rfl rfl) h0
  have b0 := u32_of_wf f0
  obtain ⟨y1, r1, l1, z1⟩ := open_bytes_arg (hval 1 23 v1 rfl rfl) h1
  obtain ⟨y2, r2, l2, z2⟩ := open_bytes_arg (hval 2 23 v2 rfl rfl) h2
  obtain ⟨y3, r3, l3, z3⟩ := open_u16sC_arg (hval 3 24 v3 rfl rfl) h3
  obtain ⟨x4, rfl, rfl, rfl, f4⟩ := open_int Tryz.underlying22 (hval 4 22 v4 rfl rfl) h4
  have b4 := u32_of_wf f4
  obtain ⟨x5, rfl, rfl, rfl, f5⟩ := open_int Tryz.underlying5 (hval 5 5 v5 rfl rfl) h5
  obtain ⟨c5, rfl⟩ := u8_of_wf f5
  obtain ⟨x6, rfl, rfl, rfl, f6⟩ := open_int Tryz.underlying5 (hval 6 5 v6 rfl rfl) h6
  obtain ⟨c6, rfl⟩ := u8_of_wf f6
  clear hA0 hval0
  simp only [List.append_nil] at hW'
  refine (trayMoves_walk b0.1 b0.2 b4.1 b4.2 r1 r2 z3 l1 l2 l3).mono fun e W' ⟨he, bel⟩ => ?_
  subst he
  exact ⟨_, rfl, _, _, _, [], _, [], hW', trodAll_mk1 (shut_bool Tryz.underlying4 _), (trodAll_mk7 (shut_int Tryz.underlying22 f0) (Below.trod laidOut (by kernel_rfl) (of_decide_eq_true (by kernel_rfl)) h1 bel (fun x hx => by simpa using hW'.lt x (by simp [hx]))) (Below.trod laidOut (by kernel_rfl) (of_decide_eq_true (by kernel_rfl)) h2 bel (fun x hx => by simpa using hW'.lt x (by simp [hx]))) (Below.trod laidOut (by kernel_rfl) (of_decide_eq_true (by kernel_rfl)) h3 bel (fun x hx => by simpa using hW'.lt x (by simp [hx]))) (shut_int Tryz.underlying22 f4) (shut_int Tryz.underlying5 f5) (shut_int Tryz.underlying5 f6)), rfl, bel.frame _, fun h => by cases h⟩
theorem trayMoves_holds : Rows.TrayMovesSaid :=
  OpenClaim.holds_of_wide 5 Tryz.f5 rfl rfl rfl rfl rfl rfl rfl ⟨rfl, rfl, rfl, rfl, rfl⟩ rfl rfl rfl rfl rfl (by kernel_rfl) Tryz.func5 (by kernel_rfl)
    (of_decide_eq_true (by kernel_rfl)) (by unfold Func.isWrapper; first | (rw [if_pos (by decide +kernel)]; kernel_rfl) | (rw [if_neg (by decide +kernel)]; exact ⟨rfl, rfl⟩))
    (fun os started H enc _ => trayMoves_lifted os started H enc)
end Go.Proofs.YtelklmdlodgdpaaGreat
