/-
  Contracts of package digit at the system Perm: the check value.
-/
import Derived.Test.YtgdlgfplheeblaaGreatDoorK5
namespace Go.Proofs.YtgdlgfplheeblaaGreatDoor
open Go.RowKit
set_option linter.unusedVariables false
set_option maxRecDepth 100000
def updZ (f : Nat → Nat) (z q : Nat) : Nat := if q = 0 then z else f q
def restV (N : Nat) (f : Nat → Nat) : List Nat := (List.range (N - 1)).map (fun q => f (q + 1))
theorem vals_split {N : Nat} (h : 1 ≤ N) (f : Nat → Nat) (z : Nat) : (List.range N).map (updZ f z) = z :: restV N f := by
  obtain ⟨m, rfl⟩ : ∃ m, N = m + 1 := ⟨N - 1, by omega⟩
  rw [List.range_succ_eq_map, List.map_cons, List.map_map]
  unfold restV
  simp only [Nat.add_sub_cancel]
  rfl
theorem rd_of_own {w : World} {B N g : Nat} {f : Nat → Nat} (h : OwnR w B N g f) : RdNats w (.slice (some ⟨g, 0, none⟩) N N) ((List.range N).map f) := by
  refine ⟨_, N, by simp, fun h0 => ⟨g, 0, rfl, (h.lt g rfl).2, fun i hi => ?_⟩⟩
  have hi' : i < N := by simpa using hi
  rw [Nat.zero_add, h.cellAt i (by omega), rowV_get hi']
  simp
theorem own_below {w w' : World} {B N g : Nat} {f : Nat → Nat} (h : OwnR w B N g f) (hb : Below w.heap.size w w') : OwnR w' B N g f := h.kept (grown_none' hb) (Classical.em _)
theorem own_store {w : World} {B N g : Nat} {f : Nat → Nat} (h : OwnR w B N g f) (z : Nat) : OwnR (w.setCell ⟨g, 0, none⟩ (.int .i64 (z : Nat))) B N g (updZ f z) := by
  have := (h.stored 0 (.int .i64 (z : Nat))).1
  rw [rowV_set] at this
  exact this
theorem updZ_updZ (f : Nat → Nat) (y z : Nat) : updZ (updZ f y) z = updZ f z := by
  funext q; unfold updZ; split <;> rfl
theorem updZ_self (f : Nat → Nat) : updZ f (f 0) = f := by
  funext q; unfold updZ; split
  · rename_i h; rw [h]
  · rfl
set_option maxHeartbeats 4000000 in
theorem check_any (N g B : Nat) (f : Nat → Nat) (w : World) (hown : OwnR w B N g f) (h1 : 1 ≤ N) (h2 : N ≤ 100) (hv : ∀ q, 1 ≤ q → q < N → f q < 10) (hBw : B ≤ w.heap.size) :
    Calls Tryz.prog 96 #[sysA, .slice (some ⟨g, 0, none⟩) N N] w fun e w' => e = .returned (.int .i64 (checkV (restV N f) : Nat)) ∧ OwnR w' B N g (updZ f (checkV (restV N f))) ∧ Below B w w' := by
  have hrest : ∀ v ∈ restV N f, v < 10 := fun v hv' => by
    unfold restV at hv'
    obtain ⟨q, hq, rfl⟩ := List.mem_map.1 hv'
    have := List.mem_range.1 hq
    exact hv _ (by omega) (by omega)
  obtain ⟨c1, c2, c3, c4⟩ := checkV_ok hrest
  have HPS : Hid (∀ W k, k < 10 → OwnR W B N g (updZ f k) → Calls Tryz.prog 53 #[.agg #[.int .u8 4, .slice none 0 0], .slice (some ⟨g, 0, none⟩) N N] W fun e w' => e = .returned (.bool (permB (k :: restV N f))) ∧ Below W.heap.size W w') := fun W k hk ho => by
    have := passes_any _ _ W (rd_of_own ho) (fun x hx => by
      rw [vals_split h1] at hx
      rcases List.mem_cons.1 hx with rfl | hx
      · exact hk
      · exact hrest x hx) (by simp; omega)
    rw [vals_split h1] at this
    exact this
  have HMO : Hid (∀ W, Calls Tryz.prog 100 #[.agg #[.int .u8 4, .slice none 0 0]] W fun e w' => e = .returned (.int .i64 9) ∧ Below W.heap.size W w') := fun W => most_any W
  generalize checkV (restV N f) = c at c1 c2 c3 c4
  generalize restV N f = rest at HPS c2 c3
  have HC2 := Lib.hid c2
  have HC3 := Lib.hid c3
  have hBg : B ≤ g ∧ g < w.heap.size := hown.lt g rfl
  obtain ⟨hBg1, hgw⟩ := hBg
  clear hv hrest c2 c3 c4
  unfold sysA
  have hst : ∃ z, OwnR (w.alloc (.cells #[.int .u8 4, .slice none 0 0] 62)) B N g (updZ f z) := ⟨f 0, by rw [updZ_self]; exact hown.alloc _⟩
  have hbs : Below B w (w.alloc (.cells #[.int .u8 4, .slice none 0 0] 62)) := (Below.refl _ w).alloc hBw _
  have HST := Lib.hid hst
  clear hst hown
  go_enter Tryz.func96, Tryz.ntmps96
  go_wp2_with fail
  go_loopw [5] (fun i wr => ∃ k : Nat, k ≤ c ∧ i = .int .i64 k ∧ Below B w wr ∧ wr.cell? ⟨w.heap.size, 0, none⟩ = some (.int .u8 4) ∧ wr.cell? ⟨w.heap.size, 1, none⟩ = some (.slice none 0 0) ∧ w.heap.size < wr.heap.size ∧ ∃ z, OwnR wr B N g (updZ f z)) (fun i _ => 10 - (intOf i).toNat)
  case atStart => exact ⟨0, Nat.zero_le _, rfl, hbs, by simp [go_sem], by simp [go_sem], by simp, HST.out⟩
  case round =>
    clear HST hbs
    obtain ⟨k, hk, rfl, hB, b0, b1, hz, z, hown⟩ := hrel
    have HO := Lib.hid hown
    clear hown
    go_wp2_with fail
    refine (HMO.out _).mono ?_
    rintro e w2 ⟨rfl, hb2⟩
    have d0 : w2.cell? ⟨w.heap.size, 0, none⟩ = _ := (hb2.cell (p := ⟨w.heap.size, 0, none⟩) hz).trans b0
    have d1 : w2.cell? ⟨w.heap.size, 1, none⟩ = _ := (hb2.cell (p := ⟨w.heap.size, 1, none⟩) hz).trans b1
    have hz2 : w.heap.size < w2.heap.size := by have := hb2.size; omega
    have HO2 := Lib.hid (own_below HO.out hb2)
    have HB2 := Lib.hid (hB.trans (hb2.mono (by have := hB.size; omega)))
    have hfz := HO2.out.frozenAt 0
    have hcl := HO2.out.cellAt 0 (by omega)
    rw [rowV_get (by omega)] at hcl
    have hgw2 : g < w2.heap.size := by omega
    have hne : ¬ g = w.heap.size := by omega
    have hne2 : ¬ w.heap.size = g := by omega
    have hkle : (k : Int) ≤ 9 := by omega
    have hN0 : (0 : Int) < (N : Int) := by omega
    clear hb2 b0 b1 HO hB hz
    go_wp2_with fail
    have HO3 : Hid (OwnR (w2.setCell ⟨g, 0, none⟩ (.int .i64 (k : Nat))) B N g (updZ f k)) := by have := own_store HO2.out k; rw [updZ_updZ] at this; exact this
    obtain ⟨w3, hw3⟩ : ∃ w3, w2.setCell ⟨g, 0, none⟩ (.int .i64 (k : Nat)) = w3 := ⟨_, rfl⟩
    have e0 : w3.cell? ⟨w.heap.size, 0, none⟩ = some (.int .u8 4) := by rw [← hw3, World.cell?_setCell_other _ _ _ _ (by intro h; simp only [Addr.mk.injEq] at h; omega)]; exact d0
    have e1 : w3.cell? ⟨w.heap.size, 1, none⟩ = some (.slice none 0 0) := by rw [← hw3, World.cell?_setCell_other _ _ _ _ (by intro h; simp only [Addr.mk.injEq] at h; omega)]; exact d1
    have hz3 : w.heap.size < w3.heap.size := by rw [← hw3]; simpa using hz2
    have HB3 : Hid (Below B w w3) := by rw [← hw3]; exact HB2.out.setCell (p := ⟨g, 0, none⟩) hBg1 _
    rw [hw3] at HO3
    try rw [hw3]
    clear hw3 d0 d1 hz2 HO2 HB2 hfz hcl hgw2
    refine (HPS.out _ k (by omega) HO3.out).mono ?_
    rintro e w4 ⟨rfl, hb4⟩
    have f0 : w4.cell? ⟨w.heap.size, 0, none⟩ = _ := (hb4.cell (p := ⟨w.heap.size, 0, none⟩) hz3).trans e0
    have f1 : w4.cell? ⟨w.heap.size, 1, none⟩ = _ := (hb4.cell (p := ⟨w.heap.size, 1, none⟩) hz3).trans e1
    have hz4 : w.heap.size < w4.heap.size := by have := hb4.size; omega
    have HO4 := Lib.hid (own_below HO3.out hb4)
    have HB4 := Lib.hid (HB3.out.trans (hb4.mono (by have := HB3.out.size; omega)))
    clear hb4 e0 e1 HO3 HB3 hz3
    by_cases hkc : k = c
    · subst hkc
      rw [HC2.out]
      go_wp2_with fail
      go_ret
      exact ⟨rfl, HO4.out, HB4.out⟩
    · rw [HC3.out k (by omega)]
      go_wp2_with fail
      go_roundw
      case rel => exact ⟨k + 1, by omega, by go_num, HB4.out, f0, f1, hz4, k, HO4.out⟩
      case measure => simp [intOf]; omega
end Go.Proofs.YtgdlgfplheeblaaGreatDoor
