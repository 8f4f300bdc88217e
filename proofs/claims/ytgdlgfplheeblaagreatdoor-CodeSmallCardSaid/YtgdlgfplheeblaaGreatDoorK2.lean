/-
  Contracts of package digit at the system Perm: the product of values.
-/
import Derived.Test.YtgdlgfplheeblaaGreatDoorK1
namespace Go.Proofs.YtgdlgfplheeblaaGreatDoor
open Go.RowKit
set_option linter.unusedVariables false
set_option maxRecDepth 100000
def sysA : Value := .agg #[.int .u8 4, .slice none 0 0]
set_option maxHeartbeats 8000000 in
theorem perm_any (vs : List Nat) (v : Value) (w : World) (hr : RdNats w v vs) (hv : ∀ x ∈ vs, x < 10) (hl : vs.length ≤ 1000) :
    Calls Tryz.prog 104 #[sysA, v] w fun e w' => e = .returned (.bool (permB vs)) ∧ Below w.heap.size w w' := by
  have HR := Lib.hid hr
  obtain ⟨va, vcap, rfl, hc⟩ := hr
  have HC := Lib.hid hc
  have HV := Lib.hid hv
  have HS := Lib.hid timesS
  have HO := Lib.hid timesO
  have HS2 := Lib.hid turnsS
  have HO2 := Lib.hid turnsO
  unfold sysA
  clear hc hv
  go_enter Tryz.func104, Tryz.ntmps104
  go_wp2_with fail
  refine (products_any _).mono ?_
  rintro e w1 ⟨rfl, hb1⟩
  go_wp2_with fail
  refine (permutations_any _).mono ?_
  rintro e w2 ⟨rfl, hb2⟩
  have HB2 : Hid (Below w.heap.size w w2) := (((Below.refl _ w).alloc (Nat.le_refl _) _).trans (hb1.mono (by simp))).trans (hb2.mono (by have := hb1.size; simp at this; omega))
  go_wp2_with (first | (with_reducible refine wpList_store_row (o := ⟨none, .store 177 _ _, _, _, _, _⟩) rfl _ _ _ rfl w2.heap.size timesC rfl rfl 177 Tryz.zeroCells177 ?hg HS.out HO.out timesC_one ?_) | (with_reducible refine wpList_store_row (o := ⟨none, .store 179 _ _, _, _, _, _⟩) rfl _ _ _ rfl (w2.heap.size + 1) turnsC rfl rfl 179 Tryz.zeroCells179 ?hg2 HS2.out HO2.out turnsC_one ?_))
  case hg =>
    have hb : Below (w2.alloc (.cells Tryz.zeroCells177 177)).heap.size (w2.alloc (.cells Tryz.zeroCells177 177)) ((w2.alloc (.cells Tryz.zeroCells177 177)).alloc (.cells Tryz.zeroCells179 179)) := (Below.refl _ _).alloc (Nat.le_refl _) _
    exact (hb.block _ (by simp)).trans (MapKept.heap_alloc w2 _).1
  case hg2 =>
    refine (setRow_other _ _ _ _ (by omega)).trans ?_
    have := (MapKept.heap_alloc (w2.alloc (.cells Tryz.zeroCells177 177)) (.cells Tryz.zeroCells179 179)).1
    simpa using this
  obtain ⟨W6, B5, B6, hW6, hB5, hB6, hb6, l5, l6, c5, c6⟩ := tables_lie w2
  rw [hW6, hB6, hB5]
  have HB6 := Lib.hid (HB2.out.trans (hb6.mono HB2.out.size))
  have C5 := Lib.hid c5
  have C6 := Lib.hid c6
  clear hW6 hB5 hB6 hb6 c5 c6 hb1 hb2 HB2
  go_loopw [7, 14] (fun p i wr => ∃ k : Nat, k ≤ vs.length ∧ i = .int .i64 k ∧ p = .int .u8 (prodFrom 0 0 (vs.take k) : Nat) ∧ Below w.heap.size w wr ∧ Below W6.heap.size W6 wr) (fun _ i _ => vs.length - (intOf i).toNat)
  case atStart => exact ⟨0, Nat.zero_le _, rfl, rfl, HB6.out, Below.refl _ _⟩
  case round =>
    clear HB6
    obtain ⟨k, hk, rfl, rfl, hB, hb⟩ := hrel
    by_cases hlt : k < vs.length
    · obtain ⟨g, off, rfl, hg, hcc⟩ := HC.out (by omega)
      have x0 : wr.cell? ⟨g, off + k, none⟩ = some (.int .i64 (vs[k] : Nat)) := (hB.cell (p := ⟨g, off + k, none⟩) hg).trans (hcc k hlt)
      have hvk := HV.out _ (List.getElem_mem hlt)
      have hpk := prod_lt (vs.take k) 0 0 (by decide) (fun x hx => HV.out x (List.mem_of_mem_take hx))
      have HSN := Lib.hid (prod_snoc vs k hlt)
      have hk8 : k % 8 < 8 := Nat.mod_lt _ (by decide)
      have htl := turns_lt hk8 hvk
      have t1 : wr.cell? ⟨B6, k % 8 * 10 + vs[k], none⟩ = some (.int .u8 (turns (k % 8) vs[k] : Nat)) := (hb.cell (p := ⟨B6, k % 8 * 10 + vs[k], none⟩) l6).trans (C6.out _ _ hk8 hvk)
      have t2 : wr.cell? ⟨B5, prodFrom 0 0 (vs.take k) * 10 + turns (k % 8) vs[k], none⟩ = some (.int .u8 (stepP k (prodFrom 0 0 (vs.take k)) vs[k] : Nat)) := (hb.cell (p := ⟨B5, prodFrom 0 0 (vs.take k) * 10 + turns (k % 8) vs[k], none⟩) l5).trans (C5.out _ _ hpk htl)
      have e8 : (k : Int) % 8 = ((k % 8 : Nat) : Int) := by simp
      have e8t : (k : Int).tmod 8 = ((k % 8 : Nat) : Int) := by rw [Int.tmod_eq_emod_of_nonneg (by omega)]; exact e8
      generalize prodFrom 0 0 (vs.take k) = acc at hpk t2 HSN
      generalize turns (k % 8) vs[k] = tv at t1 t2 htl
      generalize vs[k] = vk at x0 hvk t1 t2 HSN
      generalize stepP k acc vk = nx at t2 HSN
      obtain ⟨q, hq⟩ : ∃ q, k % 8 = q := ⟨_, rfl⟩
      rw [hq] at e8 e8t t1 hk8
      clear hq hcc HC HV C5 C6 HR
      have i1 : (0 : Int) ≤ (q : Int) := by omega
      have i2 : (q : Int) < 8 := by omega
      have i3 : (0 : Int) ≤ (vk : Int) := by omega
      have i4 : (vk : Int) < 10 := by omega
      have i5 : (0 : Int) ≤ (acc : Int) := by omega
      have i6 : (acc : Int) < 10 := by omega
      have i7 : (0 : Int) ≤ (tv : Int) := by omega
      have i8 : (tv : Int) < 10 := by omega
      go_wp2_with fail
      go_quiet (fail)
      go_wp2_with fail
      go_roundw
      case rel => exact ⟨k + 1, by omega, by go_num, by rw [HSN.out], below_drewN hB _, below_drewN hb _⟩
      case measure => simp [intOf]; omega
    · obtain rfl : k = vs.length := by omega
      have HE : Hid (permB vs = decide (prodFrom 0 0 (vs.take vs.length) = 0)) := by unfold permB; rw [List.take_of_length_le (Nat.le_refl _)]; exact rfl
      go_wp2_with fail
      go_ret
      exact ⟨ret_bool (by rw [HE.out, Bool.eq_iff_iff]; simp), hB⟩
end Go.Proofs.YtgdlgfplheeblaaGreatDoor
