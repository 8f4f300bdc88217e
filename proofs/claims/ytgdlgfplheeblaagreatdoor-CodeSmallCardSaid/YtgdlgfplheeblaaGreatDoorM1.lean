/-
  The reference's small functions of layer 17: two, six, digits, value.
-/
import Derived.Test.YtgdlgfplheeblaaGreatDoorKQ
import Derived.RegionTactic
namespace Go.Proofs.YtgdlgfplheeblaaGreatDoor
open Go.RowKit Go.Sort
set_option linter.unusedVariables false
set_option maxRecDepth 100000
def tenB : ByteArray := ⟨#[48, 49, 50, 51, 52, 53, 54, 55, 56, 57]⟩
theorem ten_slice (d : Nat) (h : d < 10) : (⟨#[48, 49, 50, 51, 52, 53, 54, 55, 56, 57]⟩ : ByteArray).extract d (d + 1) = charB d :=
  (by decide : ∀ d : Fin 10, (⟨#[48, 49, 50, 51, 52, 53, 54, 55, 56, 57]⟩ : ByteArray).extract d.1 (d.1 + 1) = charB d.1) ⟨d, h⟩
theorem two_any (n : Nat) (w : World) (hn : n < 100) : Calls Tryz.prog 35 #[.int .i64 (n : Nat)] w fun e w' => e = .returned (.string (padB n 2)) ∧ Below w.heap.size w w' := by
  obtain ⟨d, hd⟩ : ∃ d, n / 10 = d := ⟨_, rfl⟩
  obtain ⟨r, hr⟩ : ∃ r, n % 10 = r := ⟨_, rfl⟩
  obtain ⟨d1, hd1⟩ : ∃ x, d + 1 = x := ⟨_, rfl⟩
  obtain ⟨r1, hr1⟩ : ∃ x, r + 1 = x := ⟨_, rfl⟩
  have hpe : padB n 2 = charB d ++ charB r := by
    unfold padB charB
    rw [padL_two hn, hd, hr]
    exact (ba_mk_append [UInt8.ofNat (48 + d)] [UInt8.ofNat (48 + r)]).symm
  have e1 : (n : Int).tdiv 10 = (d : Int) := by rw [Int.tdiv_eq_ediv_of_nonneg (by omega)]; omega
  have e2 : (n : Int).tmod 10 = (r : Int) := by rw [Int.tmod_eq_emod_of_nonneg (by omega)]; omega
  have e3 : (n : Int) / 10 = (d : Int) := by omega
  have e4 : (n : Int) % 10 = (r : Int) := by omega
  have w1 : IntKind.i64.wrap ((d : Int) + 1) = (d1 : Int) := by rw [IntWalk.i64_in _ (by omega)]; omega
  have w2 : IntKind.i64.wrap ((r : Int) + 1) = (r1 : Int) := by rw [IntWalk.i64_in _ (by omega)]; omega
  have w3 : IntKind.i64.wrap (d : Int) = (d : Int) := IntWalk.i64_in _ (by omega)
  have s1 : (⟨#[48, 49, 50, 51, 52, 53, 54, 55, 56, 57]⟩ : ByteArray).extract d d1 = charB d := by rw [← hd1]; exact ten_slice d (by omega)
  have s2 : (⟨#[48, 49, 50, 51, 52, 53, 54, 55, 56, 57]⟩ : ByteArray).extract r r1 = charB r := by rw [← hr1]; exact ten_slice r (by omega)
  have b1 : (d : Int) ≤ (d1 : Int) := by omega
  have b2 : (r : Int) ≤ (r1 : Int) := by omega
  have b3 : (d1 : Int) ≤ 10 := by omega
  have b4 : (r1 : Int) ≤ 10 := by omega
  have b5 : d ≤ d1 := by omega
  have b6 : r ≤ r1 := by omega
  have b7 : d1 ≤ 10 := by omega
  have b8 : r1 ≤ 10 := by omega
  have hov : ¬ 9223372036854775807 < (charB d).size + (charB r).size := by show ¬ 9223372036854775807 < 1 + 1; decide
  rw [hpe]
  clear hpe hd hr hd1 hr1 hn
  go_enter Tryz.func35, Tryz.ntmps35
  go_wp2_with fail
  refine wp_region_quiet_lit (by kernel_rfl) (by kernel_rfl) ?_
  iterate 14 (go_big_quiet_step (fail))
  refine wpQuiet_nil ?_
  intro _ hw'
  obtain ⟨nq, hw''⟩ := hw'
  subst hw''
  go_wp2_with fail
  go_ret
  exact ⟨rfl, ⟨rfl, rfl, rfl, Nat.le_refl _, fun _ _ => rfl⟩⟩
theorem six_parts {n : Nat} (h : n < 1000000) : padB n 6 = padB (n / 10000) 2 ++ padB (n / 100 % 100) 2 ++ padB (n % 100) 2 := by
  unfold padB
  rw [← lastD_pad h, padL_two (by omega), padL_two (by omega), padL_two (by omega), ba_mk_append, ba_mk_append]
  congr 2
  simp only [lastD, List.cons_append, List.nil_append]
  rw [show n / 10 ^ 5 % 10 = n / 10000 / 10 by omega, show n / 10 ^ 4 % 10 = n / 10000 % 10 by omega, show n / 10 ^ 3 % 10 = n / 100 % 100 / 10 by omega, show n / 10 ^ 2 % 10 = n / 100 % 100 % 10 by omega, show n / 10 ^ 1 % 10 = n % 100 / 10 by omega, show n / 10 ^ 0 % 10 = n % 100 % 10 by omega]
theorem six_any (n : Nat) (w : World) (hn : n < 1000000) : Calls Tryz.prog 37 #[.int .i64 (n : Nat)] w fun e w' => e = .returned (.string (padB n 6)) ∧ Below w.heap.size w w' := by
  rw [six_parts hn]
  have T1 : Hid (∀ W z, z = (n : Int) / 10000 → Calls Tryz.prog 35 #[.int .i64 z] W fun e w' => e = .returned (.string (padB (n / 10000) 2)) ∧ Below W.heap.size W w') := fun W z hz => by
    rw [hz, show (n : Int) / 10000 = ((n / 10000 : Nat) : Int) by omega]; exact two_any _ W (by omega)
  have T2 : Hid (∀ W z, z = (n : Int) / 100 % 100 → Calls Tryz.prog 35 #[.int .i64 z] W fun e w' => e = .returned (.string (padB (n / 100 % 100) 2)) ∧ Below W.heap.size W w') := fun W z hz => by
    rw [hz, show (n : Int) / 100 % 100 = ((n / 100 % 100 : Nat) : Int) by omega]; exact two_any _ W (by omega)
  have T3 : Hid (∀ W z, z = (n : Int) % 100 → Calls Tryz.prog 35 #[.int .i64 z] W fun e w' => e = .returned (.string (padB (n % 100) 2)) ∧ Below W.heap.size W w') := fun W z hz => by
    rw [hz, show (n : Int) % 100 = ((n % 100 : Nat) : Int) by omega]; exact two_any _ W (by omega)
  have s1 : (padB (n / 10000) 2).size = 2 := padB_size (by decide) (by omega)
  have s2 : (padB (n / 100 % 100) 2).size = 2 := padB_size (by decide) (by omega)
  have s3 : (padB (n % 100) 2).size = 2 := padB_size (by decide) (by omega)
  generalize padB (n / 10000) 2 = x1 at *
  generalize padB (n / 100 % 100) 2 = x2 at *
  generalize padB (n % 100) 2 = x3 at *
  have o1 : ¬ 9223372036854775807 < x1.size + x2.size := by omega
  have o2 : ¬ 9223372036854775807 < x1.size + x2.size + x3.size := by omega
  have o3 : ¬ 9223372036854775807 < (x1 ++ x2).size + x3.size := by rw [ByteArray.size_append]; omega
  have hn0 : (0 : Int) ≤ (n : Int) := by omega
  have hn1 : (n : Int) ≤ 999999 := by omega
  generalize (n : Int) = z at *
  clear s1 s2 s3 hn
  go_enter Tryz.func37, Tryz.ntmps37
  go_wp2_with fail
  refine (T1.out _ _ rfl).mono ?_
  rintro e w1 ⟨rfl, hb1⟩
  have HB1 := Lib.hid hb1
  clear hb1
  go_wp2_with fail
  refine (T2.out _ _ rfl).mono ?_
  rintro e w2 ⟨rfl, hb2⟩
  have HB2 := Lib.hid (HB1.out.trans (hb2.mono HB1.out.size))
  clear hb2
  go_wp2_with fail
  refine (T3.out _ _ rfl).mono ?_
  rintro e w3 ⟨rfl, hb3⟩
  have HB3 := Lib.hid (HB2.out.trans (hb3.mono HB2.out.size))
  clear hb3
  go_wp2_with fail
  go_ret
  exact ⟨rfl, HB3.out⟩
theorem numOf_bound : ∀ (l : List UInt8), (∀ c ∈ l, 48 ≤ c.toNat ∧ c.toNat ≤ 57) → ∀ acc m, Lib.decFrom acc l = some m → m < (acc + 1) * 10 ^ l.length
  | [], _, acc, m, h => by
    have : acc = m := by simpa [Lib.decFrom] using h
    subst this; simp
  | c :: l, hd, acc, m, h => by
    have hc := hd c List.mem_cons_self
    rw [Lib.decFrom, digitVal_ok hc] at h
    have := numOf_bound l (fun x hx => hd x (List.mem_cons_of_mem _ hx)) _ m h
    rw [List.length_cons, Nat.pow_succ]
    calc m < (acc * 10 + (c.toNat - 48) + 1) * 10 ^ l.length := this
      _ ≤ ((acc + 1) * 10) * 10 ^ l.length := Nat.mul_le_mul_right _ (by omega)
      _ = (acc + 1) * (10 ^ l.length * 10) := by rw [Nat.mul_assoc, Nat.mul_comm 10]
theorem take_digs {s : ByteArray} (hd : digB s = true) (k : Nat) : ∀ c ∈ s.data.toList.take k, 48 ≤ c.toNat ∧ c.toNat ≤ 57 := fun c hc => digB_iff.1 hd c (List.mem_of_mem_take hc)
theorem numOf_snoc {s : ByteArray} (hd : digB s = true) (k : Nat) (h : k < s.size) : numOf (s.data.toList.take (k + 1)) = numOf (s.data.toList.take k) * 10 + ((s[k]'h).toNat - 48) := by
  obtain ⟨m, hm⟩ := decFrom_ok (s.data.toList.take k) 0 (take_digs hd k)
  have hb := digB_iff.1 hd (s[k]'h) (Array.mem_toList_iff.2 (Array.getElem_mem (xs := s.data) h))
  have h2 := Lib.decFrom_take s.data.toList k 0 m (s[k]'h) _ hm (by rw [List.getElem?_eq_getElem (by exact h)]; rfl) (digitVal_ok hb)
  unfold numOf
  rw [hm, h2]
  rfl
theorem numOf_le {s : ByteArray} (hd : digB s = true) (hs : s.size ≤ 6) (k : Nat) : numOf (s.data.toList.take k) < 1000000 := by
  obtain ⟨m, hm⟩ := decFrom_ok (s.data.toList.take k) 0 (take_digs hd k)
  have := numOf_bound _ (take_digs hd k) 0 m hm
  unfold numOf
  rw [hm]
  show m < 1000000
  have hl : (s.data.toList.take k).length ≤ 6 := Nat.le_trans (List.length_take_le' _ _) hs
  have h6 : 10 ^ (s.data.toList.take k).length ≤ 10 ^ 6 := Nat.pow_le_pow_right (by decide) hl
  have h7 : (10 : Nat) ^ 6 = 1000000 := by decide
  omega
theorem value_any (s : ByteArray) (w : World) (hd : digB s = true) (hs : s.size ≤ 6) : Calls Tryz.prog 40 #[.string s] w fun e w' => e = .returned (.int .i64 (numOf s.data.toList : Nat)) ∧ w = w' := by
  have HD := Lib.hid hd
  have hfull : s.data.toList.take s.size = s.data.toList := List.take_of_length_le (Nat.le_refl _)
  have HF := Lib.hid hfull
  clear hd hfull
  go_enter Tryz.func40, Tryz.ntmps40
  go_wp2_with fail
  go_loop [3, 4] (fun o i => ∃ k : Nat, k ≤ s.size ∧ i = .int .i64 k ∧ o = .int .i64 (numOf (s.data.toList.take k) : Nat)) (fun _ i => s.size - (intOf i).toNat)
  case atStart => exact ⟨0, Nat.zero_le _, rfl, rfl⟩
  case round =>
    obtain ⟨k, hk, rfl, rfl⟩ := hrel
    by_cases hlt : k < s.size
    · have hb := digB_iff.1 HD.out (s[k]'hlt) (Array.mem_toList_iff.2 (Array.getElem_mem (xs := s.data) hlt))
      have hm := numOf_le HD.out hs k
      have HN := Lib.hid (numOf_snoc HD.out k hlt)
      obtain ⟨x, hx⟩ : ∃ x, (s[k]'hlt).toNat - 48 = x := ⟨_, rfl⟩
      have hxi : ((s[k]'hlt).toNat : Int) = (x : Int) + 48 := by omega
      have hx9 : (x : Int) ≤ 9 := by omega
      have hx0 : (0 : Int) ≤ (x : Int) := by omega
      rw [hx] at HN
      generalize numOf (s.data.toList.take k) = m at HN hm ⊢
      have hm0 : (0 : Int) ≤ (m : Int) := by omega
      have hm1 : (m : Int) ≤ 999999 := by omega
      clear hm hb hx
      have HV : Hid ((numOf (s.data.toList.take (k + 1)) : Int) = (m : Int) * 10 + (x : Int)) := by
        show (numOf (s.data.toList.take (k + 1)) : Int) = (m : Int) * 10 + (x : Int)
        rw [HN.out]; omega
      clear HN
      go_wp2_with fail
      go_round
      case rel => exact ⟨k + 1, by omega, by go_num, by rw [HV.out]; first | rfl | (congr 1; omega)⟩
      case measure => simp [intOf]; omega
    · obtain rfl : k = s.size := by omega
      rw [HF.out]
      go_wp2_with fail
      go_ret
      exact ⟨rfl, rfl⟩
def digitsB (j : Nat) (l : List UInt8) : ByteArray := ⟨(List.replicate (9 - (numL (patOf j) l).length) 48 ++ numL (patOf j) l).toArray⟩
set_option maxHeartbeats 4000000 in
theorem digits_any (j : Nat) (s : ByteArray) (w : World) (hj : j = 1 ∨ j = 2 ∨ j = 3) (hv : matchesB s.data.toList (patOf j) = true) :
    Calls Tryz.prog 36 #[.string s] w fun e w' => e = .returned (.string (digitsB j s.data.toList)) ∧ Below w.heap.size w w' := by
  have hsz : s.size = (patOf j).length := matches_len hv
  have hpl := patOf_len hj
  have HV := Lib.hid hv
  have hfull : numL ((patOf j).take s.size) (s.data.toList.take s.size) = numL (patOf j) s.data.toList := by
    have e1 : (patOf j).take s.size = patOf j := List.take_of_length_le (Nat.le_of_eq hsz.symm)
    have e2 : s.data.toList.take s.size = s.data.toList := List.take_of_length_le (Nat.le_refl _)
    rw [e1, e2]
  have HF := Lib.hid hfull
  have hnl : (numL (patOf j) s.data.toList).length ≤ 9 := by rw [numL_width hv]; rcases hj with rfl | rfl | rfl <;> decide
  have hs6 : s.size ≤ 6 := by omega
  have HSZ := Lib.hid hsz
  clear hv hfull hsz
  go_enter Tryz.func36, Tryz.ntmps36
  go_wp2_with fail
  go_loopw [3, 4] (fun o i wr => ∃ k : Nat, k ≤ s.size ∧ i = .int .i64 k ∧ o = .string ⟨(numL ((patOf j).take k) (s.data.toList.take k)).toArray⟩ ∧ Below w.heap.size w wr) (fun _ i _ => s.size - (intOf i).toNat)
  case atStart => exact ⟨0, Nat.zero_le _, rfl, rfl, Below.refl _ _⟩
  case round =>
    obtain ⟨k, hk, rfl, rfl, hB⟩ := hrel
    by_cases hlt : k < s.size
    · have hll : k < s.data.toList.length := hlt
      have hlo : k < (patOf j).length := by rw [← HSZ.out]; exact hlt
      obtain ⟨acc, hacc⟩ : ∃ acc : ByteArray, acc = ⟨(numL ((patOf j).take k) (s.data.toList.take k)).toArray⟩ := ⟨_, rfl⟩
      have hasz : acc.size ≤ 12 := by
        have := num_take_len HV.out k
        rw [hacc, ba_mk_size]; omega
      have hkind := matches_at HV.out k hll hlo
      have hsn := numL_snoc (patOf j) s.data.toList k hlo hll
      rw [← hacc]
      cases hkb : (patOf j)[k]
      · rw [hkb] at hkind hsn
        have hle : 48 ≤ ((s[k]'hlt).toNat : Int) ∧ ((s[k]'hlt).toNat : Int) ≤ 57 := by
          show 48 ≤ ((s.data.toList[k]'hll).toNat : Int) ∧ ((s.data.toList[k]'hll).toNat : Int) ≤ 57
          generalize s.data.toList[k]'hll = cc at hkind ⊢
          have h' : isDigit (cc.toNat : Int) = true := hkind
          unfold isDigit at h'
          simpa using h'
        have d1 : decide (65 ≤ ((s[k]'hlt).toNat : Int)) = false := decide_eq_false (by omega)
        have HN : Hid ((⟨(numL ((patOf j).take (k + 1)) (s.data.toList.take (k + 1))).toArray⟩ : ByteArray) = acc ++ s.extract k (k + 1)) := by
          rw [hsn, hacc, extract_one s k hlt, ba_mk_append]; rfl
        have hov : ¬ 9223372036854775807 < acc.size + (s.extract k (k + 1)).size := by rw [ByteArray.size_extract]; omega
        have HB := Lib.hid hB
        clear hsn hacc hkind hB hll hlo hkb hasz hj hle
        go_wp2_with fail
        go_roundw
        case rel => exact ⟨k + 1, by omega, by go_num, by rw [HN.out], HB.out⟩
        case measure => simp [intOf]; omega
      · rw [hkb] at hkind hsn
        have hle : 65 ≤ ((s[k]'hlt).toNat : Int) ∧ ((s[k]'hlt).toNat : Int) ≤ 90 := by
          show 65 ≤ ((s.data.toList[k]'hll).toNat : Int) ∧ ((s.data.toList[k]'hll).toNat : Int) ≤ 90
          generalize s.data.toList[k]'hll = cc at hkind ⊢
          have h' : isLetter (cc.toNat : Int) = true := hkind
          unfold isLetter at h'
          simpa using h'
        have d1 : decide (65 ≤ ((s[k]'hlt).toNat : Int)) = true := decide_eq_true (by omega)
        have d2 : decide (((s[k]'hlt).toNat : Int) ≤ 90) = true := decide_eq_true (by omega)
        obtain ⟨n, hn⟩ : ∃ n, (s.data.toList[k]'hll).toNat - 64 = n := ⟨_, rfl⟩
        have hcv : ((s[k]'hlt).toNat : Int) = (n : Int) + 64 := by
          have : (s[k]'hlt) = s.data.toList[k]'hll := rfl
          rw [this] at hle ⊢; omega
        have hn1 : 1 ≤ n := by omega
        have hn2 : n ≤ 26 := by omega
        have HN : Hid ((⟨(numL ((patOf j).take (k + 1)) (s.data.toList.take (k + 1))).toArray⟩ : ByteArray) = acc ++ padB n 2) := by
          rw [hsn, hacc, ← hn]; exact (ba_mk_append _ _).symm
        have hov : ¬ 9223372036854775807 < acc.size + (padB n 2).size := by rw [padB_size (by decide) (by omega)]; omega
        have HP : Hid (∀ W (z : Int), z = n → Calls Tryz.prog 35 #[.int .i64 z] W fun e w' => e = .returned (.string (padB n 2)) ∧ Below W.heap.size W w') := fun W z hz => by
          subst hz; exact two_any n W (by omega)
        generalize padB n 2 = pb at HN hov HP
        have HC := Lib.hid hcv
        have HB := Lib.hid hB
        have hx1 : (65 : Int) ≤ ((s[k]'hlt).toNat : Int) := by omega
        have hx2 : ((s[k]'hlt).toNat : Int) ≤ 90 := by omega
        clear hsn hacc hkind hB hlo hkb hasz hj hle hn hcv hll hn1 hn2
        go_wp2_with fail
        refine (HP.out _ _ (by have := HC.out; omega)).mono ?_
        rintro e w3 ⟨rfl, hb3⟩
        have HB3 : Hid (Below w.heap.size w w3) := HB.out.trans (hb3.mono HB.out.size)
        clear hb3
        go_wp2_with fail
        go_roundw
        case rel => exact ⟨k + 1, by omega, by go_num, by rw [HN.out], HB3.out⟩
        case measure => simp [intOf]; omega
    · obtain rfl : k = s.size := by omega
      rw [HF.out]
      obtain ⟨nl, hnl0⟩ : ∃ nl, numL (patOf j) s.data.toList = nl := ⟨_, rfl⟩
      have HDB : Hid (digitsB j s.data.toList = ⟨(List.replicate (9 - nl.length) 48 ++ nl).toArray⟩) := by
        show digitsB j s.data.toList = _
        unfold digitsB; rw [hnl0]
      rw [hnl0] at hnl ⊢
      clear hnl0
      have HB := Lib.hid hB
      clear HF HV HSZ hB hk hlt
      go_wp2_with fail
      obtain ⟨wo, rfl⟩ : ∃ wo : World, wo = wr := ⟨_, rfl⟩
      go_loop [3] (fun o => ∃ t : Nat, t + nl.length ≤ 9 ∧ o = .string ⟨(List.replicate t 48 ++ nl).toArray⟩) (fun o => 9 - Lib.strSize o)
      case atStart => exact ⟨0, by omega, rfl⟩
      case round =>
        obtain ⟨t, ht, rfl⟩ := hrel
        obtain ⟨acc, hacc⟩ : ∃ acc : ByteArray, acc = ⟨(List.replicate t 48 ++ nl).toArray⟩ := ⟨_, rfl⟩
        have hasz : acc.size = t + nl.length := by rw [hacc, ba_mk_size, List.length_append, List.length_replicate]
        rw [← hacc]
        by_cases h9 : t + nl.length < 9
        · have d1 : decide ((acc.size : Int) < 9) = true := decide_eq_true (by omega)
          have d2 : decide (acc.size < 9) = true := decide_eq_true (by omega)
          have d3 : acc.size < 9 := by omega
          have HN : Hid ((⟨(List.replicate (t + 1) 48 ++ nl).toArray⟩ : ByteArray) = ⟨#[48]⟩ ++ acc) := by
            show (⟨(List.replicate (t + 1) 48 ++ nl).toArray⟩ : ByteArray) = ⟨#[48]⟩ ++ acc
            rw [hacc, List.replicate_succ, List.cons_append]; exact (ba_mk_append [48] _).symm
          have hov : ¬ 9223372036854775807 < 1 + acc.size := by omega
          have hov2 : ¬ 9223372036854775807 < (⟨#[48]⟩ : ByteArray).size + acc.size := by show ¬ 9223372036854775807 < 1 + acc.size; omega
          have HZ := Lib.hid hasz
          clear hacc hasz hj
          go_wp2_with fail
          go_round
          case rel => exact ⟨t + 1, by omega, by rw [HN.out]⟩
          case measure =>
            have : (⟨#[48]⟩ ++ acc : ByteArray).size = 1 + acc.size := by rw [ByteArray.size_append]; rfl
            rw [Lib.strSize_string, Lib.strSize_string, this]; omega
        · have ht9 : 9 - nl.length = t := by omega
          have d2 : ¬ acc.size < 9 := by omega
          have d1 : decide ((acc.size : Int) < 9) = false := decide_eq_false (by omega)
          have HC := Lib.hid hacc
          clear hacc hasz hj
          have HT9 := Lib.hid ht9
          clear ht9
          go_wp2_with fail
          go_ret
          exact ⟨by rw [HDB.out, HT9.out, HC.out]; rfl, HB.out⟩
end Go.Proofs.YtgdlgfplheeblaaGreatDoor
