/-
  Contract of Codes.
-/
import Derived.Test.YtdahgfopighhlaaSG
namespace Go.Proofs.Ytdahgfopighhlaa
open Go.RowKit
set_option linter.unusedVariables false
set_option maxRecDepth 100000
/-- A slice reads as bytes. -/
def RdBytes (w : World) (v : Value) (bs : List UInt8) : Prop :=
  ∃ a cap, v = .slice a bs.length cap ∧ (0 < bs.length → ∃ g off, a = some ⟨g, off, none⟩ ∧ g < w.heap.size ∧ ∀ i (h : i < bs.length), w.cell? ⟨g, off + i, none⟩ = some (.int .u8 (bs[i].toNat : Int)))
theorem RdBytes.below {w w' : World} {v : Value} {zs : List UInt8} (h : RdBytes w v zs) (hb : Below w.heap.size w w') : RdBytes w' v zs := by
  obtain ⟨a, cap, hv, hc⟩ := h
  exact ⟨a, cap, hv, fun h0 => by
    obtain ⟨g, off, ha, hg, hcc⟩ := hc h0
    exact ⟨g, off, ha, Nat.lt_of_lt_of_le hg hb.size, fun i h => (hb.cell (p := ⟨g, off + i, none⟩) hg).trans (hcc i h)⟩⟩
def code5 (x : UInt8) : ByteArray := ⟨#[49 + x % 3, 48 + x / 3 % 3, 48 + x / 9 % 3, 48 + x / 27 % 3, 48 + x / 81 % 3]⟩
def codesOf (bs : List UInt8) : List ByteArray := (bs.take 2000).map code5
theorem code5_size (x : UInt8) : (code5 x).size = 5 := rfl
theorem conv_back (W : World) (x : UInt8) : Sem.run Try.prog (convert 23 9 (.slice (some ⟨W.heap.size, 0, none⟩) 5 5)) (W.alloc (.cells #[.int .u8 (49 + (x.toNat : Int) % 3), .int .u8 (48 + (x.toNat : Int) / 3 % 3), .int .u8 (48 + (x.toNat : Int) / 9 % 3), .int .u8 (48 + (x.toNat : Int) / 27 % 3), .int .u8 (48 + (x.toNat : Int) / 81 % 3)] 5)) =
    .ok (.string (code5 x)) (W.alloc (.cells #[.int .u8 (49 + (x.toNat : Int) % 3), .int .u8 (48 + (x.toNat : Int) / 3 % 3), .int .u8 (48 + (x.toNat : Int) / 9 % 3), .int .u8 (48 + (x.toNat : Int) / 27 % 3), .int .u8 (48 + (x.toNat : Int) / 81 % 3)] 5)) := by
  have hx : x.toNat < 256 := x.toNat_lt
  have e1 : (((49 + x % 3 : UInt8)).toNat : Int) = 49 + (x.toNat : Int) % 3 := by rw [UInt8.toNat_add, UInt8.toNat_mod]; simp; omega
  have e2 : (((48 + x / 3 % 3 : UInt8)).toNat : Int) = 48 + (x.toNat : Int) / 3 % 3 := by rw [UInt8.toNat_add, UInt8.toNat_mod, UInt8.toNat_div]; simp; omega
  have e3 : (((48 + x / 9 % 3 : UInt8)).toNat : Int) = 48 + (x.toNat : Int) / 9 % 3 := by rw [UInt8.toNat_add, UInt8.toNat_mod, UInt8.toNat_div]; simp; omega
  have e4 : (((48 + x / 27 % 3 : UInt8)).toNat : Int) = 48 + (x.toNat : Int) / 27 % 3 := by rw [UInt8.toNat_add, UInt8.toNat_mod, UInt8.toNat_div]; simp; omega
  have e5 : (((48 + x / 81 % 3 : UInt8)).toNat : Int) = 48 + (x.toNat : Int) / 81 % 3 := by rw [UInt8.toNat_add, UInt8.toNat_mod, UInt8.toNat_div]; simp; omega
  refine run_convert_bytes_back (P := Try.prog) _ 23 9 5 ⟨W.heap.size, 0, none⟩ 5 [49 + x % 3, 48 + x / 3 % 3, 48 + x / 9 % 3, 48 + x / 27 % 3, 48 + x / 81 % 3] Try.underlying23 Try.underlying5 Try.underlying9 (fun j hj => ?_)
  have ea : (⟨W.heap.size, 0, none⟩ : Addr).add j = ⟨W.heap.size, j, none⟩ := by unfold Addr.add; split <;> simp_all
  rw [ea, cell_of_row _ W.heap.size j _ _ _ (alloc_new W _)]
  have hj5 : j < 5 := hj
  have h5 : j = 0 ∨ j = 1 ∨ j = 2 ∨ j = 3 ∨ j = 4 := by omega
  rcases h5 with rfl | rfl | rfl | rfl | rfl
  · show some (Value.int .u8 (49 + (x.toNat : Int) % 3)) = some (.int .u8 (((49 + x % 3 : UInt8)).toNat : Int)); rw [e1]
  · show some (Value.int .u8 (48 + (x.toNat : Int) / 3 % 3)) = some (.int .u8 (((48 + x / 3 % 3 : UInt8)).toNat : Int)); rw [e2]
  · show some (Value.int .u8 (48 + (x.toNat : Int) / 9 % 3)) = some (.int .u8 (((48 + x / 9 % 3 : UInt8)).toNat : Int)); rw [e3]
  · show some (Value.int .u8 (48 + (x.toNat : Int) / 27 % 3)) = some (.int .u8 (((48 + x / 27 % 3 : UInt8)).toNat : Int)); rw [e4]
  · show some (Value.int .u8 (48 + (x.toNat : Int) / 81 % 3)) = some (.int .u8 (((48 + x / 81 % 3 : UInt8)).toNat : Int)); rw [e5]
set_option maxHeartbeats 4000000 in
theorem codes_any (bs : List UInt8) (v : Value) (w : World) (hr : RdBytes w v bs) (hl : bs.length ≤ maxLen) :
    Calls Try.prog 12 #[v] w fun e w' => ∃ v, e = .returned v ∧ Below w.heap.size w w' ∧ OwnsT w' w.heap.size v (codesOf bs) := by
  unfold maxLen at hl
  obtain ⟨a, cap, rfl, hc⟩ := hr
  have HC := Lib.hid hc
  clear hc
  obtain ⟨i0, hi⟩ := info_parts Try.infoS
  have HI := Lib.hid hi
  clear hi
  go_enter Try.func12, Try.ntmps12
  go_wp2_with fail
  go_loopw [3, 4] (fun v i wr => ∃ k : Nat, k ≤ bs.length ∧ k ≤ 2000 ∧ i = .int .i64 k ∧ Below w.heap.size w wr ∧ OwnsT wr w.heap.size v ((bs.take k).map code5)) (fun _ i _ => bs.length - (intOf i).toNat)
  case atStart => exact ⟨0, Nat.zero_le _, Nat.zero_le _, rfl, Below.refl _ _, OwnsT.nil _ _⟩
  case round =>
    obtain ⟨k, hk, hk2, rfl, hB, hown⟩ := hrel
    by_cases hlt : k < bs.length ∧ k < 2000
    · obtain ⟨hl1, hl2⟩ := hlt
      obtain ⟨g, off, rfl, hg, hcc⟩ := HC.out (by omega)
      have c1 : wr.cell? ⟨g, off + k, none⟩ = some (.int .u8 (bs[k].toNat : Int)) := (hB.cell (p := ⟨g, off + k, none⟩) hg).trans (hcc k hl1)
      have HN : Hid ((bs.take (k + 1)).map code5 = (bs.take k).map code5 ++ [code5 bs[k]]) := by rw [List.take_succ_eq_append_getElem hl1, List.map_append]; exact rfl
      have hlen : ((bs.take k).map code5).length = k := by simp; omega
      have HL := Lib.hid hlen
      have hlen' : ((bs.take k).map code5).length ≤ 2000 := by omega
      have hcv := conv_back wr bs[k]
      have hb0 : 0 ≤ (bs[k].toNat : Int) := by omega
      have hb1 : (bs[k].toNat : Int) ≤ 255 := by have := bs[k].toNat_lt; omega
      clear hlen hcc HC
      generalize code5 bs[k] = cd at HN hcv
      generalize (bs[k].toNat : Int) = n at c1 hcv hb0 hb1
      generalize (bs.take k).map code5 = acc at hown HN hlen' HL
      go_wp2_with (at_builtin; refine wpList_append_own _ rfl _ _ 27 rfl w.heap.size 9 i0 (.string ⟨#[]⟩) 1 16 Try.underlying27 HI.out.1 HI.out.2.1 HI.out.2.2.1 HI.out.2.2.2 rfl (by decide) _ _ _ rfl ((hown.alloc _).alloc _) ⟨wr.heap.size + 1, 0, none⟩ 1 1 [.string cd] rfl rfl (by have := cell_one_new (wr.alloc (.cells #[.int .u8 (49 + n % 3), .int .u8 (48 + n / 3 % 3), .int .u8 (48 + n / 9 % 3), .int .u8 (48 + n / 27 % 3), .int .u8 (48 + n / 81 % 3)] 5)) (.string cd) 9; simpa using this) (by simp [Value.oneCell']) (by unfold maxLen; omega) (by omega) (by have := hB.size; simp; omega) ?_; intro v' w4 hown' hgrow _)
      have hb4 : Below w.heap.size w w4 := ((hB.alloc hB.size _).alloc (by have := hB.size; simp; omega) _).grown hgrow (by have := hB.size; simp; omega) (fun r e => (hown.lt r e).1)
      go_roundw
      case rel => exact ⟨k + 1, by omega, by omega, by go_num, hb4, by rw [HN.out]; unfold OwnsT; rw [List.map_append, List.length_append]; exact hown'⟩
      case measure => simp [intOf]; omega
    · have HE : Hid (OwnsT wr w.heap.size u3 (codesOf bs)) := by
        unfold codesOf
        have e : bs.take 2000 = bs.take k := by
          by_cases h : k < bs.length
          · obtain rfl : k = 2000 := by omega
            rfl
          · rw [List.take_of_length_le (by omega), List.take_of_length_le (by omega)]
        rw [e]; exact hown
      clear hown
      by_cases h1 : k < bs.length
      · have h2 : 2000 ≤ k := by omega
        go_wp2_with fail
        go_ret
        exact ⟨_, rfl, hB, HE.out⟩
      · have h2 : decide (k < bs.length) = false := by simpa using h1
        go_wp2_with fail
        go_ret
        exact ⟨_, rfl, hB, HE.out⟩
end Go.Proofs.Ytdahgfopighhlaa
