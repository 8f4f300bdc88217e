/-
  Package code: Encode at a code.
-/
import Derived.Test.YtgdlgfplheeblaaGreatDoorKE
import Derived.Lib.OthersKept
namespace Go.Proofs.YtgdlgfplheeblaaGreatDoor
open Go.RowKit
set_option linter.unusedVariables false
set_option maxRecDepth 100000
theorem patS_size {j : Nat} (hj : j = 1 ∨ j = 2 ∨ j = 3) : (patS j).size = (patOf j).length := by rcases hj with rfl | rfl | rfl <;> rfl
theorem patS_at {j : Nat} (hj : j = 1 ∨ j = 2 ∨ j = 3) (k : Nat) (h : k < (patS j).size) (h2 : k < (patOf j).length) : ((patS j)[k]'h).toNat = if (patOf j)[k]'h2 then 76 else 68 := by
  rcases hj with rfl | rfl | rfl
  · exact (by decide : ∀ k : Fin 5, ((patS 1)[k.1]'k.2).toNat = if (patOf 1)[k.1]'k.2 then 76 else 68) ⟨k, h⟩
  · exact (by decide : ∀ k : Fin 6, ((patS 2)[k.1]'k.2).toNat = if (patOf 2)[k.1]'k.2 then 76 else 68) ⟨k, h⟩
  · exact (by decide : ∀ k : Fin 4, ((patS 3)[k.1]'k.2).toNat = if (patOf 3)[k.1]'k.2 then 76 else 68) ⟨k, h⟩
theorem matches_at : ∀ {l : List UInt8} {ks : List Bool}, matchesB l ks = true → ∀ (k : Nat) (h : k < l.length) (h2 : k < ks.length), kindB ks[k] l[k].toNat = true
  | [], [], _, k, h, _ => by simp at h
  | [], _ :: _, h, _, _, _ => by cases h
  | _ :: _, [], h, _, _, _ => by cases h
  | c :: l, b :: ks, h, 0, _, _ => by rw [matchesB, Bool.and_eq_true] at h; exact h.1
  | c :: l, b :: ks, h, k + 1, h1, h2 => by
    rw [matchesB, Bool.and_eq_true] at h
    exact matches_at h.2 k (by simpa using h1) (by simpa using h2)
theorem matches_take : ∀ {l : List UInt8} {ks : List Bool} (k : Nat), matchesB l ks = true → matchesB (l.take k) (ks.take k) = true
  | [], [], k, _ => by simp [matchesB]
  | [], _ :: _, _, h => by cases h
  | _ :: _, [], _, h => by cases h
  | c :: l, b :: ks, 0, h => rfl
  | c :: l, b :: ks, k + 1, h => by
    rw [matchesB, Bool.and_eq_true] at h
    rw [List.take_succ_cons, List.take_succ_cons, matchesB, h.1, matches_take k h.2]
    rfl
theorem width_le : ∀ ks : List Bool, widthL ks ≤ 2 * ks.length
  | [] => by simp [widthL]
  | k :: ks => by
    have := width_le ks
    have e : widthL (k :: ks) = (if k then 2 else 1) + widthL ks := by simp [widthL]
    rw [e, List.length_cons]
    split <;> omega
theorem num_take_len {l : List UInt8} {ks : List Bool} (h : matchesB l ks = true) (k : Nat) : (numL (ks.take k) (l.take k)).length ≤ 2 * ks.length := by
  have h1 := (numL_digit (matches_take k h)).2
  have h2 := width_le (ks.take k)
  have h3 : (ks.take k).length ≤ ks.length := List.length_take_le' _ _
  unfold widthL at h2
  omega
theorem patOf_len {j : Nat} (hj : j = 1 ∨ j = 2 ∨ j = 3) : (patOf j).length ≤ 6 := by rcases hj with rfl | rfl | rfl <;> decide
theorem ba_mk_size (l : List UInt8) : (⟨l.toArray⟩ : ByteArray).size = l.length := rfl
theorem ba_mk_append (a b : List UInt8) : (⟨a.toArray⟩ : ByteArray) ++ ⟨b.toArray⟩ = ⟨(a ++ b).toArray⟩ := by
  apply ByteArray.ext
  rw [ByteArray.data_append]
  simp
theorem extract_one (s : ByteArray) (i : Nat) (h : i < s.size) : s.extract i (i + 1) = ⟨[s.data.toList[i]'h].toArray⟩ := by
  apply ByteArray.ext
  rw [ByteArray.data_extract]
  apply Array.toList_inj.1
  rw [Array.toList_extract, List.extract_eq_take_drop, List.drop_eq_getElem_cons h, Nat.add_sub_cancel_left, List.take_succ_cons, List.take_zero]
theorem itoa_digit (j : Nat) (hj : j < 10) : Lib.decDigits j = [UInt8.ofNat (48 + j)] := dec_small hj
def itPos (w : World) (K : Nat) : Nat := match w.heap[K]? with | some (.stringIter _ p) => p | _ => 0
set_option maxHeartbeats 8000000 in
theorem enc_ok (j p : Nat) (s : ByteArray) (w : World) (hj : j = 1 ∨ j = 2 ∨ j = 3) (hp1 : 1 ≤ p) (hp2 : p ≤ 999999) (hv : matchesB s.data.toList (patOf j) = true) (ht : TabW w) (hg : 3 < w.heap.size) :
    Calls Tryz.prog 12 #[.int .u8 (j : Nat), .string s, .int .i64 (p : Nat)] w fun e w' => e = .returned (.tuple #[.string (checked ⟨(bodyL j s.data.toList p).toArray⟩), .int .i64 0]) ∧ Below w.heap.size w w' := by
  have hj3 : j ≤ 3 := by omega
  have hj1 : 1 ≤ j := by omega
  have hsl : s.size ≤ 6 := by
    have h1 := matches_len hv
    have h2 : s.data.toList.length = s.size := rfl
    rcases hj with rfl | rfl | rfl <;> simp [patOf] at h1 <;> omega
  have d1 : decide ((j : Int) < 1) = false := decide_eq_false (by omega)
  have d2 : decide (3 < (j : Int)) = false := decide_eq_false (by omega)
  have d3 : decide ((p : Int) < 1) = false := decide_eq_false (by omega)
  have d4 : decide (999999 < (p : Int)) = false := decide_eq_false (by omega)
  have hcv : codeR (j : Int) s = (s.data.toList, true) := code_valid (by unfold validB; rw [Int.toNat_natCast, hv]; rcases hj with rfl | rfl | rfl <;> rfl)
  have HC : Hid (∀ W, Calls Tryz.prog 20 #[.int .u8 (j : Nat), .string s] W fun e w' => e = .returned (.tuple #[.string s, .bool true]) ∧ Below W.heap.size W w') := fun W => by
    refine (code_any (j : Int) s W (by unfold maxLen; omega)).mono ?_
    rintro e w' ⟨t, h1, rfl, hb⟩
    rw [hcv] at h1 ⊢
    rw [ba_inj2 h1]
    exact ⟨rfl, hb⟩
  have hbe := ba_eq2 s s
  rw [decide_eq_true rfl] at hbe
  have hpa := pats_at j (by omega)
  clear hcv
  go_enter Tryz.func12, Tryz.ntmps12
  go_wp2_with fail
  refine (HC.out _).mono ?_
  rintro e w1 ⟨rfl, hb1⟩
  go_wp2_with fail
  go_region_with (go_at_call 21; refine (patterns_any _).mono ?_; rintro e w2 ⟨rfl, hb2⟩)
  all_goals
    go_wp2_with fail
    obtain ⟨W2, K, hW2, hK, hit, hb3, hlt3⟩ : ∃ W2 K, w2.iter (patS j) 0 = W2 ∧ w2.heap.size = K ∧ W2.heap[K]? = some (.stringIter (patS j) 0) ∧ Below w2.heap.size w2 W2 ∧ w2.heap.size ≤ K := ⟨_, _, rfl, rfl, World.iter_heap _ _ _, (Below.refl _ w2).alloc (Nat.le_refl _) _, Nat.le_refl _⟩
    rw [hW2, hK]
    have HB2 : Hid (Below w.heap.size w W2) := (hb1.drew.trans (hb2.mono hb1.size)).trans (hb3.mono (Nat.le_trans hb1.size hb2.size))
    have hKw : w.heap.size ≤ K := Nat.le_trans hb1.size (Nat.le_trans hb2.size hlt3)
    clear hW2 hK hb2 hb3
    go_loopw [10] (fun v wr => ∃ k : Nat, k ≤ s.size ∧ v = .string ⟨(numL ((patOf j).take k) (s.data.toList.take k)).toArray⟩ ∧ wr.heap[K]? = some (.stringIter (patS j) k) ∧ Below w.heap.size w wr) (fun _ wr => s.size - itPos wr K)
    case atStart => exact ⟨0, Nat.zero_le _, rfl, hit, HB2.out⟩
    case round =>
      clear hit HB2
      obtain ⟨k, hk, rfl, hit, hB⟩ := hrel
      have hmu : itPos wr K = k := by simp [itPos, hit]
      by_cases hlt : k < s.size
      · have hlp : k < (patS j).size := by rw [patS_size hj, ← matches_len hv]; exact hlt
        have hll : k < s.data.toList.length := hlt
        have hlo : k < (patOf j).length := by rw [← matches_len hv]; exact hlt
        obtain ⟨acc, hacc⟩ : ∃ acc : ByteArray, acc = ⟨(numL ((patOf j).take k) (s.data.toList.take k)).toArray⟩ := ⟨_, rfl⟩
        have hasz : acc.size ≤ 12 := by
          have := num_take_len hv k
          have := patOf_len hj
          rw [hacc, ba_mk_size]; omega
        have hkind := matches_at hv k hll hlo
        have hpat := patS_at hj k hlp hlo
        have hsn := numL_snoc (patOf j) s.data.toList k hlo hll
        obtain ⟨W1, hW1⟩ : ∃ W1, wr.iterAt K (patS j) (k + 1) = W1 := ⟨_, rfl⟩
        have hit1 : W1.heap[K]? = some (.stringIter (patS j) (k + 1)) := by rw [← hW1]; exact Lib.iterAt_heap wr K (patS j) k (k + 1) hit
        have hB1 : Below w.heap.size w W1 := by rw [← hW1]; exact Lib.below_iterAt hB hKw _ _
        have hK1 : K < W1.heap.size := (Array.getElem?_eq_some_iff.1 hit1).1
        have hT1 : TabW W1 := ht.below hB1 hg
        have hg1 : 3 < W1.heap.size := Nat.lt_of_lt_of_le hg hB1.size
        cases hkb : (patOf j)[k]
        · rw [hkb] at hkind hpat hsn
          have hnx : ∀ ty, (Instr.next (.pointer (some ⟨K, 0, none⟩)) true ty).run Tryz.prog wr = .ok (.tuple #[.bool true, .int .i64 k, .int .i32 68]) W1 := fun ty => by
            rw [Lib.run_next_ascii_at (P := Tryz.prog) wr K (patS j) k ty hit hlp (by rw [hpat]; decide), hW1, hpat]; rfl
          have HN : Hid ((⟨(numL ((patOf j).take (k + 1)) (s.data.toList.take (k + 1))).toArray⟩ : ByteArray) = acc ++ s.extract k (k + 1)) := by
            rw [hsn, hacc, extract_one s k hlt, ba_mk_append]; rfl
          rw [← hacc]
          have hov : ¬ 9223372036854775807 < acc.size + (s.extract k (k + 1)).size := by rw [ByteArray.size_extract]; omega
          have HI1 := Lib.hid hit1
          have HM : Hid (itPos W1 K = k + 1) := by show itPos W1 K = k + 1; unfold itPos; rw [hit1]
          have HB1 := Lib.hid hB1
          clear hsn hacc hkind hpat hit hB hW1 hit1 hB1 hT1 hg1 hK1 hlp hll hlo hkb hasz ht hv hj
          go_wp2_with fail
          go_roundw
          case rel => exact ⟨k + 1, by omega, by rw [HN.out], HI1.out, HB1.out⟩
          case measure => rw [HM.out, hmu]; omega
        · rw [hkb] at hkind hpat hsn
          have hnx : ∀ ty, (Instr.next (.pointer (some ⟨K, 0, none⟩)) true ty).run Tryz.prog wr = .ok (.tuple #[.bool true, .int .i64 k, .int .i32 76]) W1 := fun ty => by
            rw [Lib.run_next_ascii_at (P := Tryz.prog) wr K (patS j) k ty hit hlp (by rw [hpat]; decide), hW1, hpat]; rfl
          have hle : 65 ≤ ((s.data.toList[k]'hll).toNat : Int) ∧ ((s.data.toList[k]'hll).toNat : Int) ≤ 90 := by
            generalize s.data.toList[k]'hll = cc at hkind ⊢
            have h' : isLetter (cc.toNat : Int) = true := hkind
            unfold isLetter at h'
            simpa using h'
          obtain ⟨n, hn⟩ : ∃ n, (s.data.toList[k]'hll).toNat - 64 = n := ⟨_, rfl⟩
          have hcv : ((s[k]'hlt).toNat : Int) = (n : Int) + 64 := by
            have : (s[k]'hlt) = s.data.toList[k]'hll := rfl
            rw [this]; omega
          have hn1 : 1 ≤ n := by omega
          have hn2 : n ≤ 26 := by omega
          have HN : Hid ((⟨(numL ((patOf j).take (k + 1)) (s.data.toList.take (k + 1))).toArray⟩ : ByteArray) = acc ++ padB n 2) := by
            rw [hsn, hacc, ← hn]; exact (ba_mk_append _ _).symm
          rw [← hacc]
          have hov : ¬ 9223372036854775807 < acc.size + (padB n 2).size := by rw [padB_size (by decide) (by omega)]; omega
          have HP : Hid (∀ z : Int, z = n → Calls Tryz.prog 22 #[.int .i64 z, .int .i64 2] W1 fun e w' => e = .returned (.string (padB n 2)) ∧ Below W1.heap.size W1 w') := fun z hz => by
            subst hz; exact padded_any n 2 W1 (by decide) (by decide) (by omega) (by omega) hT1 hg1
          have HI1 := Lib.hid hit1
          have HK1 := Lib.hid hK1
          have HB1 := Lib.hid hB1
          generalize padB n 2 = pb at HN hov HP
          have hn1' : (1 : Int) ≤ (n : Int) := by omega
          have hn2' : (n : Int) ≤ 26 := by omega
          have HC := Lib.hid hcv
          have hx1 : (65 : Int) ≤ ((s[k]'hlt).toNat : Int) := by omega
          have hx2 : ((s[k]'hlt).toNat : Int) ≤ 90 := by omega
          clear hsn hacc hkind hpat hit hB hW1 hit1 hB1 hT1 hg1 hK1 hlp hlo hkb hasz ht hv hj hle hn hcv hll
          go_wp2_with fail
          refine (HP.out _ (by have := HC.out; omega)).mono ?_
          rintro e w3 ⟨rfl, hb3⟩
          have HI3 : Hid (w3.heap[K]? = some (.stringIter (patS j) (k + 1))) := (hb3.block K HK1.out).trans HI1.out
          have HB3 : Hid (Below w.heap.size w w3) := HB1.out.trans (hb3.mono HB1.out.size)
          have HM : Hid (itPos w3 K = k + 1) := by show itPos w3 K = k + 1; unfold itPos; rw [HI3.out]
          clear hb3
          go_wp2_with fail
          go_roundw
          case rel => exact ⟨k + 1, by omega, by rw [HN.out], HI3.out, HB3.out⟩
          case measure => rw [HM.out, hmu]; omega
      · obtain rfl : k = s.size := by omega
        have hnx : ∀ ty, (Instr.next (.pointer (some ⟨K, 0, none⟩)) true ty).run Tryz.prog wr = .ok (.tuple #[.bool false]) wr := fun ty => Lib.run_next_end_at (P := Tryz.prog) wr K (patS j) s.size ty hit (by rw [patS_size hj, ← matches_len hv]; exact Nat.lt_irrefl _)
        have hfull : numL ((patOf j).take s.size) (s.data.toList.take s.size) = numL (patOf j) s.data.toList := by
          have e1 : (patOf j).take s.size = patOf j := List.take_of_length_le (Nat.le_of_eq (matches_len hv).symm)
          have e2 : s.data.toList.take s.size = s.data.toList := List.take_of_length_le (Nat.le_refl _)
          rw [e1, e2]
        rw [hfull]
        have hnl : (numL (patOf j) s.data.toList).length ≤ 9 := by rw [numL_width hv]; rcases hj with rfl | rfl | rfl <;> decide
        obtain ⟨nb, hnb⟩ : ∃ nb : ByteArray, nb = ⟨(numL (patOf j) s.data.toList).toArray⟩ := ⟨_, rfl⟩
        have hnz : nb.size = (numL (patOf j) s.data.toList).length := by rw [hnb, ba_mk_size]
        have hnz9 : nb.size ≤ 9 := by omega
        obtain ⟨m, hm⟩ : ∃ m, 9 - nb.size = m := ⟨_, rfl⟩
        obtain ⟨zb, hzb⟩ : ∃ zb : ByteArray, zb = ⟨(List.replicate m 48).toArray⟩ := ⟨_, rfl⟩
        have hzz : zb.size ≤ 9 := by rw [hzb, ba_mk_size, List.length_replicate]; omega
        obtain ⟨cb, hcb⟩ : ∃ cb : ByteArray, cb = ⟨(Lib.decDigits j).toArray⟩ := ⟨_, rfl⟩
        have hcz : cb.size = 1 := by rw [hcb, ba_mk_size, itoa_digit j (by omega)]; rfl
        obtain ⟨pb, hpb⟩ : ∃ pb : ByteArray, pb = padB p 6 := ⟨_, rfl⟩
        have hpz : pb.size = 6 := by rw [hpb, padB_size (by decide) (by omega)]
        have hbody : (⟨(bodyL j s.data.toList p).toArray⟩ : ByteArray) = cb ++ zb ++ nb ++ pb := by
          rw [hcb, hzb, hnb, hpb, padB, itoa_digit j (by omega), ← hm, hnz, ba_mk_append, ba_mk_append, ba_mk_append]
          simp [bodyL]
        have hfa := bodyL_facts hj hv (p := p) (by omega)
        have hdg : digB (cb ++ zb ++ nb ++ pb) = true := by rw [← hbody]; exact digB_iff.2 (fun c hc => hfa.2 c hc)
        have hbz : (cb ++ zb ++ nb ++ pb).size = 16 := by rw [← hbody, ba_mk_size]; exact hfa.1
        have HR : Hid (∀ W z, z = (m : Int) → Calls Tryz.prog 23 #[.string ⟨#[48]⟩, .int .i64 z] W fun e w' => e = .returned (.string zb) ∧ Below W.heap.size W w') := fun W z hz => by
          subst hz; rw [hzb]; exact repeat_any m W (by omega)
        have HT : Hid (∀ W, TabW W → Calls Tryz.prog 24 #[.int .i64 (j : Nat)] W fun e w' => e = .returned (.string cb) ∧ Below W.heap.size W w') := fun W h => by
          rw [hcb]; exact itoa_any j W (by omega) h
        have HP : Hid (∀ W, TabW W → 3 < W.heap.size → Calls Tryz.prog 22 #[.int .i64 (p : Nat), .int .i64 6] W fun e w' => e = .returned (.string pb) ∧ Below W.heap.size W w') := fun W h h2 => by
          rw [hpb]; exact padded_any p 6 W (by decide) (by decide) (by omega) (by omega) h h2
        have HA : Hid (∀ W, Calls Tryz.prog 25 #[sysA, .string (cb ++ zb ++ nb ++ pb)] W fun e w' => e = .returned (.tuple #[.string (checked (cb ++ zb ++ nb ++ pb)), .int .i64 0]) ∧ Below W.heap.size W w') := fun W => append_any _ W hdg (by omega) (by omega)
        rw [← hnb]
        have HBO := Lib.hid hbody
        have HS : Hid ((cb ++ zb ++ nb ++ pb).size = 16) := hbz
        have hs1 : ¬ 9223372036854775807 < cb.size + zb.size := by omega
        have hs2 : ¬ 9223372036854775807 < (cb ++ zb).size + nb.size := by rw [ByteArray.size_append]; omega
        have hs3 : ¬ 9223372036854775807 < (cb ++ zb ++ nb).size + pb.size := by rw [ByteArray.size_append, ByteArray.size_append]; omega
        have HM : Hid ((m : Int) = 9 - (nb.size : Int)) := by unfold Hid; omega
        have hnz9' : (nb.size : Int) ≤ 9 := by omega
        have HB := Lib.hid hB
        have HT0 := Lib.hid ht
        clear hm hnz hzb hcb hpb hbody hfa hdg hbz hnb hzz hcz hpz hnl hfull hit hv hB ht hmu
        have hj3' : (j : Int) ≤ 3 := by omega
        clear hj hp1 hp2 hj3 hj1
        go_wp2_with fail
        refine (HR.out _ _ (by have := HM.out; omega)).mono ?_
        rintro e w3 ⟨rfl, hb3⟩
        have HB3 : Hid (Below w.heap.size w w3) := HB.out.trans (hb3.mono HB.out.size)
        have HT3 : Hid (TabW w3) := HT0.out.below HB3.out hg
        clear hb3
        go_wp2_with fail
        refine (HT.out _ HT3.out).mono ?_
        rintro e w4 ⟨rfl, hb4⟩
        have HB4 : Hid (Below w.heap.size w w4) := HB3.out.trans (hb4.mono HB3.out.size)
        have HT4 : Hid (TabW w4) := HT0.out.below HB4.out hg
        clear hb4
        go_wp2_with fail
        refine (HP.out _ HT4.out (Nat.lt_of_lt_of_le hg HB4.out.size)).mono ?_
        rintro e w5 ⟨rfl, hb5⟩
        have HB5 : Hid (Below w.heap.size w w5) := HB4.out.trans (hb5.mono HB4.out.size)
        clear hb5
        go_wp2_with fail
        refine (cperm_any _).mono ?_
        rintro e w6 ⟨rfl, hb6⟩
        have HB6 : Hid (Below w.heap.size w w6) := HB5.out.trans (hb6.mono HB5.out.size)
        clear hb6
        go_wp2_with fail
        refine (HA.out _).mono ?_
        rintro e w7 ⟨rfl, hb7⟩
        have HB7 : Hid (Below w.heap.size w w7) := HB6.out.trans (hb7.mono HB6.out.size)
        clear hb7
        go_wp2_with fail
        go_ret2
        exact ⟨by rw [HBO.out]; rfl, HB7.out⟩
end Go.Proofs.YtgdlgfplheeblaaGreatDoor
