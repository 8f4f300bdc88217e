/-
  Package letterbaglaw17: zip, decimal.
-/
import Derived.Test.YtgdlgfplheeblaaGreatDoorKH
namespace Go.Proofs.YtgdlgfplheeblaaGreatDoor
open Go.RowKit
set_option linter.unusedVariables false
set_option maxRecDepth 100000
theorem conv_one (W : World) (b : UInt8) (z : Int) (hz : z = (b.toNat : Int)) : Sem.run Tryz.prog (convert 27 9 (.slice (some ⟨W.heap.size, 0, none⟩) 1 1)) (W.alloc (.cells #[.int .u8 z] 5)) = .ok (.string ⟨#[b]⟩) (W.alloc (.cells #[.int .u8 z] 5)) := by
  subst hz
  refine run_convert_bytes_back (P := Tryz.prog) _ 27 9 5 ⟨W.heap.size, 0, none⟩ 1 [b] Tryz.underlying27 Tryz.underlying5 Tryz.underlying9 (fun j hj => ?_)
  have ea : (⟨W.heap.size, 0, none⟩ : Addr).add j = ⟨W.heap.size, j, none⟩ := by unfold Addr.add; split <;> simp_all
  rw [ea, World.cell?_alloc_new]
  have hj1 : j < 1 := hj
  obtain rfl : j = 0 := by omega
  rfl
/-- Six numbers as an array. -/
def sixV (f : Nat → Nat) : Value := .agg #[.int .u8 (f 0 : Nat), .int .u8 (f 1 : Nat), .int .u8 (f 2 : Nat), .int .u8 (f 3 : Nat), .int .u8 (f 4 : Nat), .int .u8 (f 5 : Nat)]
def sixC (f : Nat → Nat) : Array Value := #[.int .u8 (f 0 : Nat), .int .u8 (f 1 : Nat), .int .u8 (f 2 : Nat), .int .u8 (f 3 : Nat), .int .u8 (f 4 : Nat), .int .u8 (f 5 : Nat)]
theorem sixC_get (f : Nat → Nat) (k : Nat) (h : k < 6) : (sixC f)[k]? = some (.int .u8 (f k : Nat)) :=
  match k, h with
  | 0, _ => rfl
  | 1, _ => rfl
  | 2, _ => rfl
  | 3, _ => rfl
  | 4, _ => rfl
  | 5, _ => rfl
  | k + 6, h => absurd h (by omega)
theorem zipL_len (j : Nat) (f : Nat → Nat) : (zipL j f).length = (patOf j).length := by simp [zipL]
theorem zipL_snoc (j : Nat) (f : Nat → Nat) (k : Nat) (h : k < (patOf j).length) : (zipL j f).take (k + 1) = (zipL j f).take k ++ [if (patOf j).getD k false then UInt8.ofNat (65 + f k % 26) else UInt8.ofNat (48 + f k % 10)] := by
  rw [List.take_succ_eq_append_getElem (by rw [zipL_len]; exact h)]
  congr 2
  simp [zipL]
theorem pat1_at (k : Nat) (h : k < 5) : (patOf 1).getD k false = false := (by decide : ∀ k : Fin 5, (patOf 1).getD k.1 false = false) ⟨k, h⟩
theorem pat3_at (k : Nat) (h : k < 4) : (patOf 3).getD k false = false := (by decide : ∀ k : Fin 4, (patOf 3).getD k.1 false = false) ⟨k, h⟩
theorem pat2_at (k : Nat) (h : k < 6) : (patOf 2).getD k false = decide (k % 2 = 0) := (by decide : ∀ k : Fin 6, (patOf 2).getD k.1 false = decide (k.1 % 2 = 0)) ⟨k, h⟩
theorem zip_digit {j : Nat} {f : Nat → Nat} {k : Nat} (h : k < (patOf j).length) (hp : (patOf j).getD k false = false) {acc : ByteArray} (ha : acc = ⟨((zipL j f).take k).toArray⟩) : (⟨((zipL j f).take (k + 1)).toArray⟩ : ByteArray) = acc ++ ⟨#[UInt8.ofNat (48 + f k % 10)]⟩ := by
  rw [zipL_snoc j f k h, hp, ha]; exact (ba_mk_append _ [UInt8.ofNat (48 + f k % 10)]).symm
theorem zip_letter {j : Nat} {f : Nat → Nat} {k : Nat} (h : k < (patOf j).length) (hp : (patOf j).getD k false = true) {acc : ByteArray} (ha : acc = ⟨((zipL j f).take k).toArray⟩) : (⟨((zipL j f).take (k + 1)).toArray⟩ : ByteArray) = acc ++ ⟨#[UInt8.ofNat (65 + f k % 26)]⟩ := by
  rw [zipL_snoc j f k h, hp, ha]; exact (ba_mk_append _ [UInt8.ofNat (65 + f k % 26)]).symm
theorem zip_skip {j : Nat} {f : Nat → Nat} {k : Nat} (h : (patOf j).length ≤ k) : (zipL j f).take (k + 1) = (zipL j f).take k := by
  rw [List.take_of_length_le (by rw [zipL_len]; omega), List.take_of_length_le (by rw [zipL_len]; omega)]
set_option maxHeartbeats 8000000 in
theorem zip_1 (f : Nat → Nat) (w : World) (hf : ∀ i, f i < 256) :
    Calls Tryz.prog 13 #[.int .u8 1, sixV f] w fun e w' => e = .returned (.string ⟨(zipL 1 f).toArray⟩) ∧ Below w.heap.size w w' := by
  have HF := Lib.hid hf
  clear hf
  unfold sixV
  go_enter Tryz.func13, Tryz.ntmps13
  go_wp2_with fail
  have HC0 : Hid (∀ k, k < 6 → (w.alloc (.cells (sixC f) 28)).cell? ⟨w.heap.size, k, none⟩ = some (.int .u8 (f k : Nat))) := fun k hk => by
    rw [World.cell?_alloc_new, sixC_get f k hk]
  go_loopw [5, 6] (fun v i wr => ∃ k : Nat, k ≤ 6 ∧ i = .int .i64 k ∧ v = .string ⟨((zipL 1 f).take k).toArray⟩ ∧ Below (w.heap.size + 1) (w.alloc (.cells (sixC f) 28)) wr) (fun _ i _ => 6 - (intOf i).toNat)
  case atStart => exact ⟨0, by omega, rfl, rfl, Below.refl _ _⟩
  case round =>
    obtain ⟨k, hk, rfl, rfl, hB⟩ := hrel
    by_cases hlt : k < 6
    · have hcell : wr.cell? ⟨w.heap.size, k, none⟩ = some (.int .u8 (f k : Nat)) := (hB.cell (p := ⟨w.heap.size, k, none⟩) (Nat.lt_succ_self _)).trans (HC0.out k hlt)
      have hf1 : (f k : Int) ≤ 255 := by have := HF.out k; omega
      have hf2 : (0 : Int) ≤ (f k : Int) := by omega
      obtain ⟨acc, hacc⟩ : ∃ acc : ByteArray, acc = ⟨((zipL 1 f).take k).toArray⟩ := ⟨_, rfl⟩
      have hasz : acc.size ≤ 6 := by rw [hacc, ba_mk_size, List.length_take]; omega
      clear HC0
      by_cases hc : k = 5
      · have t1 : ((k : Int) == 5) = true := by simp; omega
        have HS := Lib.hid (zip_skip (j := 1) (f := f) (k := k) (by show 5 ≤ k; omega))
        have HB := Lib.hid hB
        clear hcell hf1 hf2 hacc hasz hB acc
        go_wp2_with fail
        go_roundw
        case rel => exact ⟨k + 1, by omega, by go_num, by rw [HS.out], HB.out⟩
        case measure => simp [intOf]; omega
      · have t1 : ((k : Int) == 5) = false := by simp; omega
        have HN := Lib.hid (zip_digit (j := 1) (f := f) (k := k) (by show k < 5; omega) (pat1_at k (by omega)) hacc)
        have hcv := conv_one wr (UInt8.ofNat (48 + f k % 10)) (48 + (f k : Int) % 10) (by rw [UInt8.toNat_ofNat']; omega)
        have hov : ¬ 9223372036854775807 < acc.size + (⟨#[UInt8.ofNat (48 + f k % 10)]⟩ : ByteArray).size := by show ¬ 9223372036854775807 < acc.size + 1; omega
        generalize (⟨#[UInt8.ofNat (48 + f k % 10)]⟩ : ByteArray) = cb at HN hcv hov
        have HA := Lib.hid (hB.alloc (by have := hB.size; simpa using this) (.cells #[.int .u8 (48 + (f k : Int) % 10)] 5))
        rw [← hacc]
        clear hacc hB hasz
        generalize f k = n at hcell hf1 hf2 hcv HA
        go_wp2_with fail
        go_roundw
        case rel => exact ⟨k + 1, by omega, by go_num, by rw [HN.out], HA.out⟩
        case measure => simp [intOf]; omega
    · obtain rfl : k = 6 := by omega
      have he : (zipL 1 f).take 6 = zipL 1 f := List.take_of_length_le (by rw [zipL_len]; decide)
      rw [he]
      clear he HC0 hlt hk
      go_wp2_with fail
      go_ret
      exact ⟨rfl, (((Below.refl _ w).alloc (Nat.le_refl _) _).trans (hB.mono (by omega)))⟩
set_option maxHeartbeats 8000000 in
theorem zip_2 (f : Nat → Nat) (w : World) (hf : ∀ i, f i < 256) :
    Calls Tryz.prog 13 #[.int .u8 2, sixV f] w fun e w' => e = .returned (.string ⟨(zipL 2 f).toArray⟩) ∧ Below w.heap.size w w' := by
  have HF := Lib.hid hf
  clear hf
  unfold sixV
  go_enter Tryz.func13, Tryz.ntmps13
  go_wp2_with fail
  have HC0 : Hid (∀ k, k < 6 → (w.alloc (.cells (sixC f) 28)).cell? ⟨w.heap.size, k, none⟩ = some (.int .u8 (f k : Nat))) := fun k hk => by
    rw [World.cell?_alloc_new, sixC_get f k hk]
  go_loopw [5, 6] (fun v i wr => ∃ k : Nat, k ≤ 6 ∧ i = .int .i64 k ∧ v = .string ⟨((zipL 2 f).take k).toArray⟩ ∧ Below (w.heap.size + 1) (w.alloc (.cells (sixC f) 28)) wr) (fun _ i _ => 6 - (intOf i).toNat)
  case atStart => exact ⟨0, by omega, rfl, rfl, Below.refl _ _⟩
  case round =>
    obtain ⟨k, hk, rfl, rfl, hB⟩ := hrel
    by_cases hlt : k < 6
    · have hcell : wr.cell? ⟨w.heap.size, k, none⟩ = some (.int .u8 (f k : Nat)) := (hB.cell (p := ⟨w.heap.size, k, none⟩) (Nat.lt_succ_self _)).trans (HC0.out k hlt)
      have hf1 : (f k : Int) ≤ 255 := by have := HF.out k; omega
      have hf2 : (0 : Int) ≤ (f k : Int) := by omega
      obtain ⟨acc, hacc⟩ : ∃ acc : ByteArray, acc = ⟨((zipL 2 f).take k).toArray⟩ := ⟨_, rfl⟩
      have hasz : acc.size ≤ 6 := by rw [hacc, ba_mk_size, List.length_take]; omega
      clear HC0
      by_cases hc : k % 2 = 0
      · have t1 : ((k : Int) % 2 == 0) = true := by simp; omega
        have HN := Lib.hid (zip_letter (j := 2) (f := f) (k := k) (by show k < 6; omega) (by rw [pat2_at k hlt]; exact decide_eq_true hc) hacc)
        have hcv := conv_one wr (UInt8.ofNat (65 + f k % 26)) (65 + (f k : Int) % 26) (by rw [UInt8.toNat_ofNat']; omega)
        have hov : ¬ 9223372036854775807 < acc.size + (⟨#[UInt8.ofNat (65 + f k % 26)]⟩ : ByteArray).size := by show ¬ 9223372036854775807 < acc.size + 1; omega
        generalize (⟨#[UInt8.ofNat (65 + f k % 26)]⟩ : ByteArray) = cb at HN hcv hov
        have HA := Lib.hid (hB.alloc (by have := hB.size; simpa using this) (.cells #[.int .u8 (65 + (f k : Int) % 26)] 5))
        rw [← hacc]
        clear hacc hB hasz
        generalize f k = n at hcell hf1 hf2 hcv HA
        go_wp2_with fail
        go_roundw
        case rel => exact ⟨k + 1, by omega, by go_num, by rw [HN.out], HA.out⟩
        case measure => simp [intOf]; omega
      · have t1 : ((k : Int) % 2 == 0) = false := by simp; omega
        have HN := Lib.hid (zip_digit (j := 2) (f := f) (k := k) (by show k < 6; omega) (by rw [pat2_at k hlt]; exact decide_eq_false hc) hacc)
        have hcv := conv_one wr (UInt8.ofNat (48 + f k % 10)) (48 + (f k : Int) % 10) (by rw [UInt8.toNat_ofNat']; omega)
        have hov : ¬ 9223372036854775807 < acc.size + (⟨#[UInt8.ofNat (48 + f k % 10)]⟩ : ByteArray).size := by show ¬ 9223372036854775807 < acc.size + 1; omega
        generalize (⟨#[UInt8.ofNat (48 + f k % 10)]⟩ : ByteArray) = cb at HN hcv hov
        have HA := Lib.hid (hB.alloc (by have := hB.size; simpa using this) (.cells #[.int .u8 (48 + (f k : Int) % 10)] 5))
        rw [← hacc]
        clear hacc hB hasz
        generalize f k = n at hcell hf1 hf2 hcv HA
        go_wp2_with fail
        go_roundw
        case rel => exact ⟨k + 1, by omega, by go_num, by rw [HN.out], HA.out⟩
        case measure => simp [intOf]; omega
    · obtain rfl : k = 6 := by omega
      have he : (zipL 2 f).take 6 = zipL 2 f := List.take_of_length_le (by rw [zipL_len]; decide)
      rw [he]
      clear he HC0 hlt hk
      go_wp2_with fail
      go_ret
      exact ⟨rfl, (((Below.refl _ w).alloc (Nat.le_refl _) _).trans (hB.mono (by omega)))⟩
set_option maxHeartbeats 8000000 in
theorem zip_3 (f : Nat → Nat) (w : World) (hf : ∀ i, f i < 256) :
    Calls Tryz.prog 13 #[.int .u8 3, sixV f] w fun e w' => e = .returned (.string ⟨(zipL 3 f).toArray⟩) ∧ Below w.heap.size w w' := by
  have HF := Lib.hid hf
  clear hf
  unfold sixV
  go_enter Tryz.func13, Tryz.ntmps13
  go_wp2_with fail
  have HC0 : Hid (∀ k, k < 6 → (w.alloc (.cells (sixC f) 28)).cell? ⟨w.heap.size, k, none⟩ = some (.int .u8 (f k : Nat))) := fun k hk => by
    rw [World.cell?_alloc_new, sixC_get f k hk]
  go_loopw [5, 6] (fun v i wr => ∃ k : Nat, k ≤ 6 ∧ i = .int .i64 k ∧ v = .string ⟨((zipL 3 f).take k).toArray⟩ ∧ Below (w.heap.size + 1) (w.alloc (.cells (sixC f) 28)) wr) (fun _ i _ => 6 - (intOf i).toNat)
  case atStart => exact ⟨0, by omega, rfl, rfl, Below.refl _ _⟩
  case round =>
    obtain ⟨k, hk, rfl, rfl, hB⟩ := hrel
    by_cases hlt : k < 6
    · have hcell : wr.cell? ⟨w.heap.size, k, none⟩ = some (.int .u8 (f k : Nat)) := (hB.cell (p := ⟨w.heap.size, k, none⟩) (Nat.lt_succ_self _)).trans (HC0.out k hlt)
      have hf1 : (f k : Int) ≤ 255 := by have := HF.out k; omega
      have hf2 : (0 : Int) ≤ (f k : Int) := by omega
      obtain ⟨acc, hacc⟩ : ∃ acc : ByteArray, acc = ⟨((zipL 3 f).take k).toArray⟩ := ⟨_, rfl⟩
      have hasz : acc.size ≤ 6 := by rw [hacc, ba_mk_size, List.length_take]; omega
      clear HC0
      by_cases hc : 4 ≤ k
      · have t1 : decide ((4 : Int) ≤ (k : Int)) = true := decide_eq_true (by omega)
        have HS := Lib.hid (zip_skip (j := 3) (f := f) (k := k) (by show 4 ≤ k; omega))
        have HB := Lib.hid hB
        clear hcell hf1 hf2 hacc hasz hB acc
        go_wp2_with fail
        go_roundw
        case rel => exact ⟨k + 1, by omega, by go_num, by rw [HS.out], HB.out⟩
        case measure => simp [intOf]; omega
      · have t1 : decide ((4 : Int) ≤ (k : Int)) = false := decide_eq_false (by omega)
        have HN := Lib.hid (zip_digit (j := 3) (f := f) (k := k) (by show k < 4; omega) (pat3_at k (by omega)) hacc)
        have hcv := conv_one wr (UInt8.ofNat (48 + f k % 10)) (48 + (f k : Int) % 10) (by rw [UInt8.toNat_ofNat']; omega)
        have hov : ¬ 9223372036854775807 < acc.size + (⟨#[UInt8.ofNat (48 + f k % 10)]⟩ : ByteArray).size := by show ¬ 9223372036854775807 < acc.size + 1; omega
        generalize (⟨#[UInt8.ofNat (48 + f k % 10)]⟩ : ByteArray) = cb at HN hcv hov
        have HA := Lib.hid (hB.alloc (by have := hB.size; simpa using this) (.cells #[.int .u8 (48 + (f k : Int) % 10)] 5))
        rw [← hacc]
        clear hacc hB hasz
        generalize f k = n at hcell hf1 hf2 hcv HA
        go_wp2_with fail
        go_roundw
        case rel => exact ⟨k + 1, by omega, by go_num, by rw [HN.out], HA.out⟩
        case measure => simp [intOf]; omega
    · obtain rfl : k = 6 := by omega
      have he : (zipL 3 f).take 6 = zipL 3 f := List.take_of_length_le (by rw [zipL_len]; decide)
      rw [he]
      clear he HC0 hlt hk
      go_wp2_with fail
      go_ret
      exact ⟨rfl, (((Below.refl _ w).alloc (Nat.le_refl _) _).trans (hB.mono (by omega)))⟩
theorem zip_any (j : Nat) (f : Nat → Nat) (w : World) (hj : j = 1 ∨ j = 2 ∨ j = 3) (hf : ∀ i, f i < 256) :
    Calls Tryz.prog 13 #[.int .u8 (j : Nat), sixV f] w fun e w' => e = .returned (.string ⟨(zipL j f).toArray⟩) ∧ Below w.heap.size w w' := by
  rcases hj with rfl | rfl | rfl
  · exact zip_1 f w hf
  · exact zip_2 f w hf
  · exact zip_3 f w hf
set_option maxHeartbeats 8000000 in
theorem decimal_any (p : Nat) (w : World) (hp : p < 1000000) :
    Calls Tryz.prog 15 #[.int .i64 (p : Nat)] w fun e w' => e = .returned (.string (padB p 6)) ∧ Below w.heap.size w w' := by
  have HP := Lib.hid hp
  have hd : ⟨(lastD p 6).toArray⟩ = padB p 6 := by unfold padB; rw [lastD_pad hp]
  rw [← hd]
  have hp' : (p : Int) < 1000000 := by omega
  clear hd hp
  go_enter Tryz.func15, Tryz.ntmps15
  go_wp2_with fail
  go_loopw [0, 3, 4] (fun n v i wr => ∃ k : Nat, k ≤ 6 ∧ i = .int .i64 k ∧ n = .int .i64 ((p / 10 ^ k : Nat) : Int) ∧ v = .string ⟨(lastD p k).toArray⟩ ∧ Below w.heap.size w wr) (fun _ _ i _ => 6 - (intOf i).toNat)
  case atStart => exact ⟨0, by omega, rfl, by simp, rfl, Below.refl _ _⟩
  case round =>
    obtain ⟨k, hk, rfl, rfl, rfl, hB⟩ := hrel
    by_cases hlt : k < 6
    · obtain ⟨n, hn⟩ : ∃ n, p / 10 ^ k = n := ⟨_, rfl⟩
      have hnp : n ≤ p := by rw [← hn]; exact Nat.div_le_self _ _
      have hn6 : (n : Int) < 1000000 := by omega
      have hn0 : (0 : Int) ≤ (n : Int) := by omega
      have HD : Hid (p / 10 ^ (k + 1) = n / 10) := by show p / 10 ^ (k + 1) = n / 10; rw [Nat.pow_succ, ← Nat.div_div_eq_div_mul, hn]
      have HN : Hid ((⟨(lastD p (k + 1)).toArray⟩ : ByteArray) = ⟨#[UInt8.ofNat (48 + n % 10)]⟩ ++ ⟨(lastD p k).toArray⟩) := by
        show (⟨(lastD p (k + 1)).toArray⟩ : ByteArray) = _
        rw [lastD, hn]; exact (ba_mk_append [UInt8.ofNat (48 + n % 10)] _).symm
      rw [hn]
      have hcv := conv_one wr (UInt8.ofNat (48 + n % 10)) (48 + (n : Int) % 10) (by rw [UInt8.toNat_ofNat']; omega)
      have hls : ∀ k, (lastD p k).length = k := fun k => by induction k with
        | zero => rfl
        | succ k ih => simp [lastD, ih]
      have hov : ¬ 9223372036854775807 < (⟨#[UInt8.ofNat (48 + n % 10)]⟩ : ByteArray).size + (⟨(lastD p k).toArray⟩ : ByteArray).size := by
        have h2 : (⟨(lastD p k).toArray⟩ : ByteArray).size = k := by rw [ba_mk_size, hls]
        rw [h2]; show ¬ 9223372036854775807 < 1 + k; omega
      generalize (⟨#[UInt8.ofNat (48 + n % 10)]⟩ : ByteArray) = cb at HN hcv hov
      generalize (⟨(lastD p k).toArray⟩ : ByteArray) = acc at HN hov
      have HA := Lib.hid (hB.alloc (by have := hB.size; simpa using this) (.cells #[.int .u8 (48 + (n : Int) % 10)] 5))
      have HZ : Hid (((n / 10 : Nat) : Int) = (n : Int) / 10) := by show ((n / 10 : Nat) : Int) = (n : Int) / 10; omega
      clear hn hls hB hnp
      generalize (n : Int) = z at hn6 hn0 hcv HA HZ ⊢
      have hq9 : z % 10 ≤ 9 := by omega
      have hq0 : 0 ≤ z % 10 := by omega
      clear hp'
      go_wp2_with fail
      go_roundw
      case rel => exact ⟨k + 1, by omega, by go_num, by rw [HD.out, HZ.out], by rw [HN.out], HA.out⟩
      case measure => simp [intOf]; omega
    · obtain rfl : k = 6 := by omega
      clear hlt hk
      go_wp2_with fail
      go_ret
      exact ⟨rfl, hB⟩
end Go.Proofs.YtgdlgfplheeblaaGreatDoor
