/-
  tray.Right, tray.shares.
-/
import Derived.Test.YtelklmdlodgdpaaGreatGE
import Derived.Test.YtelklmdlodgdpaaGreatGY
namespace Go.Proofs.YtelklmdlodgdpaaGreat
open Go.RowKit Go.Sort
set_option linter.unusedVariables false
set_option maxRecDepth 100000
theorem Tryz.infoSlT : (Tryz.prog.info? 30).map (fun i => (i.zero, i.size, i.bytes)) = some (some (.slice none 0 0), 1, 24) := by kernel_rfl
def pckV (k : Pck) : Value := .agg #[.int .i64 k.pieces, .int .i64 k.grams, .int .i64 k.bundles, .int .i64 k.trays]
set_option maxHeartbeats 8000000 in
theorem tRight_any (k : Pck) (w : World) : Calls Tryz.prog 15 #[pckV k] w fun e w' => e = .returned (.bool (pckB k)) ∧ Below w.heap.size w w' := by
  obtain ⟨p, g, b, t⟩ := k
  have hE : pckB ⟨p, g, b, t⟩ = (decide (1 ≤ p ∧ p ≤ 2000 ∧ 1 ≤ g ∧ g ≤ 1000000) && decide (1 ≤ b ∧ b ≤ 200 ∧ 1 ≤ t ∧ t ≤ 200)) := rfl
  obtain ⟨R, hR⟩ : ∃ R, R = pckB ⟨p, g, b, t⟩ := ⟨_, rfl⟩
  rw [← hR] at hE ⊢
  have HE := Lib.hid hE
  have hb : Below w.heap.size w (w.alloc (.cells #[.int .i64 p, .int .i64 g, .int .i64 b, .int .i64 t] 32)) := (Below.refl _ w).alloc (Nat.le_refl _) _
  have HB := Lib.hid hb
  have HF : Hid (¬ (1 ≤ p ∧ p ≤ 2000 ∧ 1 ≤ g ∧ g ≤ 1000000) → R = false) := fun h => by rw [HE.out, decide_eq_false h]; rfl
  have HF2 : Hid (¬ (1 ≤ b ∧ b ≤ 200 ∧ 1 ≤ t ∧ t ≤ 200) → R = false) := fun h => by rw [HE.out, decide_eq_false h, Bool.and_false]
  have HT : Hid ((1 ≤ p ∧ p ≤ 2000 ∧ 1 ≤ g ∧ g ≤ 1000000) → (1 ≤ b ∧ b ≤ 200 ∧ 1 ≤ t ∧ t ≤ 200) → R = true) := fun h h' => by rw [HE.out, decide_eq_true h, decide_eq_true h']; rfl
  unfold pckV
  dsimp only
  clear hE hR hb HE
  by_cases q0 : p < 1
  · have hr : R = false := HF.out (by omega)
    have HRR := Lib.hid hr
    clear hr
    go_enter Tryz.func15, Tryz.ntmps15
    go_wp2_with fail
    go_ret
    rw [HRR.out]
    exact ⟨by simp, HB.out⟩
  · skip
    by_cases q1 : p > 2000
    · have hr : R = false := HF.out (by omega)
      have HRR := Lib.hid hr
      clear hr
      go_enter Tryz.func15, Tryz.ntmps15
      go_wp2_with fail
      go_ret
      rw [HRR.out]
      exact ⟨by simp, HB.out⟩
    · skip
      by_cases q2 : g < 1
      · have hr : R = false := HF.out (by omega)
        have HRR := Lib.hid hr
        clear hr
        go_enter Tryz.func15, Tryz.ntmps15
        go_wp2_with fail
        go_ret
        rw [HRR.out]
        exact ⟨by simp, HB.out⟩
      · skip
        by_cases q3 : g > 1000000
        · have hr : R = false := HF.out (by omega)
          have HRR := Lib.hid hr
          clear hr
          go_enter Tryz.func15, Tryz.ntmps15
          go_wp2_with fail
          go_ret
          rw [HRR.out]
          exact ⟨by simp, HB.out⟩
        · skip
          by_cases q4 : ¬ b ≥ 1
          · have hr : R = false := HF2.out (by omega)
            have HRR := Lib.hid hr
            clear hr
            go_enter Tryz.func15, Tryz.ntmps15
            go_wp2_with fail
            go_ret
            rw [HRR.out]
            exact ⟨by simp, HB.out⟩
          · skip
            by_cases q5 : ¬ b ≤ 200
            · have hr : R = false := HF2.out (by omega)
              have HRR := Lib.hid hr
              clear hr
              go_enter Tryz.func15, Tryz.ntmps15
              go_wp2_with fail
              go_ret
              rw [HRR.out]
              exact ⟨by simp, HB.out⟩
            · skip
              by_cases q6 : ¬ t ≥ 1
              · have hr : R = false := HF2.out (by omega)
                have HRR := Lib.hid hr
                clear hr
                go_enter Tryz.func15, Tryz.ntmps15
                go_wp2_with fail
                go_ret
                rw [HRR.out]
                exact ⟨by simp, HB.out⟩
              · skip
                by_cases q7 : ¬ t ≤ 200
                · have hr : R = false := HF2.out (by omega)
                  have HRR := Lib.hid hr
                  clear hr
                  go_enter Tryz.func15, Tryz.ntmps15
                  go_wp2_with fail
                  go_ret
                  rw [HRR.out]
                  exact ⟨by simp, HB.out⟩
                · skip
                  have hr : R = true := HT.out (by omega) (by omega)
                  have HRR := Lib.hid hr
                  have y4 : b ≥ 1 := by omega
                  have y5 : b ≤ 200 := by omega
                  have y6 : t ≥ 1 := by omega
                  have y7 : t ≤ 200 := by omega
                  clear hr
                  go_enter Tryz.func15, Tryz.ntmps15
                  go_wp2_with fail
                  go_ret
                  rw [HRR.out]
                  exact ⟨by simp, HB.out⟩
/-- Rows of numbers of the call's own. -/
def OwnsLL (w : World) (base : Nat) (v : Value) (ts : List (List Int)) : Prop :=
  ∃ L : List (List Int × Value), L.map Prod.fst = ts ∧ (∀ p ∈ L, RowJ w base p.2 p.1) ∧ w.ownsRow base 30 1 v L.length (L.map Prod.snd)
theorem OwnsLL.nil (w : World) (base : Nat) : OwnsLL w base (.slice none 0 0) [] := ⟨[], rfl, by simp, World.ownsRow_nil _ _ _ _⟩
theorem row_belowT {w w' : World} {base : Nat} {e : TypeId} {k n : Nat} {v : Value} {xs : List Value} (h : w.ownsRow base e k v n xs) (hb : Below w.heap.size w w') : w'.ownsRow base e k v n xs := by
  refine h.kept (grown_none hb) ?_
  cases v.ownBlock with
  | none => exact .inl rfl
  | some g => exact .inr (by simp)
theorem OwnsLL.below {w w' : World} {base : Nat} {v : Value} {ts : List (List Int)} (h : OwnsLL w base v ts) (hb : Below w.heap.size w w') : OwnsLL w' base v ts := by
  obtain ⟨L, hL, h1, h2⟩ := h
  exact ⟨L, hL, fun p hp => (h1 p hp).below hb, row_belowT h2 hb⟩
theorem OwnsLL.form {w : World} {base : Nat} {v : Value} {ts : List (List Int)} (h : OwnsLL w base v ts) : ∃ a cap, v = .slice a ts.length cap := by
  obtain ⟨L, rfl, _, ho⟩ := h
  rw [List.length_map]
  rcases Joins.ownsRow_forms ho with ⟨rfl, hp⟩ | ⟨g, cap, rfl⟩
  · exact ⟨none, 0, by rw [hp]⟩
  · exact ⟨_, cap, rfl⟩
theorem OwnsLL.add {W3 w2 : World} {base : Nat} {v v' u : Value} {l : List Int} {L : List (List Int × Value)} (hr : ∀ p ∈ L, RowJ W3 base p.2 p.1) (hu : RowJ W3 base u l) (hO : W3.ownsRow base 30 1 v L.length (L.map Prod.snd)) (hg : W3.grownBy w2 v.ownBlock)
    (ho : w2.ownsRow base 30 1 v' (L.length + 1) (L.map Prod.snd ++ [u])) : OwnsLL w2 base v' (L.map Prod.fst ++ [l]) := by
  have nA := own_not hO (T := 3) (by decide)
  refine ⟨L ++ [(l, u)], by rw [List.map_append]; rfl, fun p hp => ?_, ?_⟩
  · rcases List.mem_append.1 hp with hp | hp
    · exact (hr p hp).kept hg (fun g e => .inr (nA g e))
    · rw [List.mem_singleton.1 hp]; exact hu.kept hg (fun g e => .inr (nA g e))
  · rw [List.map_append, List.length_append]
    simpa using ho
theorem own_mono {w : World} {base base' : Nat} {e : TypeId} {size : Nat} {v : Value} {n : Nat} {xs : List Value} (h : w.ownsRow base e size v n xs) (hb : base' ≤ base) : w.ownsRow base' e size v n xs := by
  obtain ⟨h1, h2 | ⟨g, cap, cur, hv, h3, h4⟩⟩ := h
  · exact ⟨h1, .inl h2⟩
  · exact ⟨h1, .inr ⟨g, cap, cur, hv, Nat.le_trans hb h3, h4⟩⟩
theorem rowJ_own {w : World} {base : Nat} {v : Value} {zs : List Int} (h : w.ownsRow base 3 1 v zs.length (zs.map (Value.int .i64))) : RowJ w base v zs := by
  rcases h with ⟨_, ⟨rfl, hp⟩ | ⟨g, cap, cur, rfl, hb, hh, _, _, _, htk⟩⟩
  · obtain rfl : zs = [] := List.length_eq_zero_iff.1 hp
    exact RowJ.nil _ _ _ _
  · refine ⟨_, cap, rfl, fun h0 => ⟨g, 0, cur, rfl, hb, hh, fun i hi => ?_⟩⟩
    rw [Nat.mul_one] at htk
    have h1 : (cur.toList.take zs.length)[i]? = some (.int .i64 zs[i]) := by rw [htk, List.getElem?_map, List.getElem?_eq_getElem hi]; rfl
    rw [List.getElem?_take, if_pos hi] at h1
    rw [Nat.zero_add]
    simpa using h1
set_option maxHeartbeats 16000000 in
theorem shares_any (f t len : Nat) (w : World) (hl : 1 ≤ len) (hft : f ≤ t) (ht : t ≤ 1000000) (hlen : len ≤ 1000000) :
    Calls Tryz.prog 25 #[.int .i64 f, .int .i64 t, .int .i64 len] w fun e w' => ∃ v, e = .returned v ∧ Below w.heap.size w w' ∧ OwnsLL w' w.heap.size v (shareR f t len) := by
  obtain ⟨i0, hi⟩ := info_parts Tryz.infoI
  have HI := Lib.hid hi
  obtain ⟨j0, hj⟩ := info_parts Tryz.infoSlT
  have HJ := Lib.hid hj
  have hnn : shareN f t len ≤ 1000000 := by
    refine Nat.le_of_not_lt (fun h => ?_)
    have h1 := (shareN_lt hl).1 h
    have h2 : 1000000 * 1 ≤ 1000000 * len := Nat.mul_le_mul_left _ hl
    omega
  have HSN := Lib.hid (fun q => shareN_lt (f := f) (t := t) (q := q) hl)
  clear hi hj
  go_enter Tryz.func25, Tryz.ntmps25
  go_wp2_with fail
  go_loopw [0, 7] (fun fr v wx => ∃ q : Nat, q ≤ shareN f t len ∧ fr = .int .i64 (min (f + q * len) t : Nat) ∧ Below w.heap.size w wx ∧ OwnsLL wx w.heap.size v ((List.range q).map (shareAt f t len))) (fun fr _ _ => t - (intOf fr).toNat)
  case atStart => exact ⟨0, Nat.zero_le _, by simp; rw [Nat.min_eq_left hft], Below.refl _ _, OwnsLL.nil _ _⟩
  case round =>
    obtain ⟨wo, hwo⟩ : ∃ x, x = wr := ⟨_, rfl⟩
    subst hwo
    obtain ⟨q, hq, rfl, hB, hO⟩ := hrel
    obtain ⟨f0, hf0⟩ : ∃ f0, f0 = f + q * len := ⟨_, rfl⟩
    rw [← hf0]
    have HF0 := Lib.hid hf0
    have hqq := HSN.out q
    rw [← hf0] at hqq
    have HO := Lib.hid hO
    have HB := Lib.hid hB
    clear hf0
    by_cases hlt : f0 < t
    · have hqn := hqq.2 hlt
      have hmin : min f0 t = f0 := Nat.min_eq_left (Nat.le_of_lt hlt)
      rw [hmin]
      clear hmin hqq
      obtain ⟨al, cl, hform⟩ := hO.form
      rw [List.length_map, List.length_range] at hform
      clear hO hB
      subst hform
      go_wp2_with fail
      go_loopw [0, 8] (fun fr v wx => ∃ p : Nat, p ≤ len ∧ f0 + p ≤ t ∧ fr = .int .i64 (f0 + p : Nat) ∧ Below wo.heap.size wo wx ∧ wx.ownsRow wo.heap.size 3 1 v p ((numsR f0 (f0 + p)).map (Value.int .i64))) (fun fr _ _ => t - (intOf fr).toNat)
      case atStart => exact ⟨0, Nat.zero_le _, by omega, by simp, Below.refl _ _, by rw [Nat.add_zero, numsR_nil]; exact World.ownsRow_nil _ _ _ _⟩
      case round =>
        obtain ⟨p, hp, hpt, rfl, hBq, hOq⟩ := hrel
        have HBQ := Lib.hid hBq
        have HOQ := Lib.hid hOq
        clear hBq
        by_cases hin : p < len ∧ f0 + p < t
        · obtain ⟨hp1, hp2⟩ := hin
          have hsn := numsR_snoc (show f0 ≤ f0 + p by omega)
          have HSNC := Lib.hid hsn
          clear hsn
          obtain ⟨m, hm⟩ : ∃ m, m = f0 + p := ⟨_, rfl⟩
          have HMM := Lib.hid hm
          rw [← hm] at hp2 hpt HSNC ⊢
          clear hm
          rcases Joins.ownsRow_forms hOq with ⟨rfl, hpn⟩ | ⟨g2, cap2, rfl⟩
          · have HPN := Lib.hid hpn
            clear hpn hOq
            go_wp2_with (at_builtin; refine wpList_append_own _ rfl _ _ 30 rfl wo.heap.size 3 i0 (.int .i64 0) 1 8 Tryz.underlying30 HI.out.1 HI.out.2.1 HI.out.2.2.1 HI.out.2.2.2 rfl (by decide) _ _ _ rfl (HOQ.out.alloc _) ⟨wr.heap.size, 0, none⟩ 1 1 [.int .i64 m] rfl rfl (cells_new _ _ _) (by simp [Value.oneCell']) (by unfold maxLen; omega) (by omega) (by have := HBQ.out.size; simp; omega) ?_; intro v' w5 hown' hgrow _)
            go_roundw
            case rel =>
              refine ⟨p + 1, by omega, by have := HMM.out; omega, by have := HMM.out; go_num, (HBQ.out.alloc HBQ.out.size _).grown hgrow (by have := HBQ.out.size; simp; omega) (fun r e => (HOQ.out.lt r e).1), ?_⟩
              have hmm := HMM.out
              rw [show f0 + (p + 1) = m + 1 by omega, HSNC.out, List.map_append, hmm]
              rw [hmm] at hown'
              exact hown'
            case measure => simp [intOf]; omega
          · clear hOq
            go_wp2_with (at_builtin; refine wpList_append_own _ rfl _ _ 30 rfl wo.heap.size 3 i0 (.int .i64 0) 1 8 Tryz.underlying30 HI.out.1 HI.out.2.1 HI.out.2.2.1 HI.out.2.2.2 rfl (by decide) _ _ _ rfl (HOQ.out.alloc _) ⟨wr.heap.size, 0, none⟩ 1 1 [.int .i64 m] rfl rfl (cells_new _ _ _) (by simp [Value.oneCell']) (by unfold maxLen; omega) (by omega) (by have := HBQ.out.size; simp; omega) ?_; intro v' w5 hown' hgrow _)
            go_roundw
            case rel =>
              refine ⟨p + 1, by omega, by have := HMM.out; omega, by have := HMM.out; go_num, (HBQ.out.alloc HBQ.out.size _).grown hgrow (by have := HBQ.out.size; simp; omega) (fun r e => (HOQ.out.lt r e).1), ?_⟩
              have hmm := HMM.out
              rw [show f0 + (p + 1) = m + 1 by omega, HSNC.out, List.map_append, hmm]
              rw [hmm] at hown'
              exact hown'
            case measure => simp [intOf]; omega
        · have hp1 : 1 ≤ p := by omega
          have hmn : min (f0 + len) t = f0 + p := by omega
          have hsa : shareAt f t len q = numsR f0 (f0 + p) := by
            unfold shareAt
            rw [Nat.add_mul, Nat.one_mul, ← Nat.add_assoc, ← HF0.out, hmn]
          have HSA := Lib.hid hsa
          have HMN := Lib.hid hmn
          obtain ⟨L, hL, hLr, hLo⟩ := HO.out
          have HL := Lib.hid hL
          have HLR := Lib.hid hLr
          have HLO := Lib.hid hLo
          have hll : L.length ≤ 1000000 := by
            have := congrArg List.length hL
            simp at this
            omega
          rcases Joins.ownsRow_forms hOq with ⟨rfl, hpn⟩ | ⟨g2, cap2, rfl⟩
          · omega
          · have hRJ : RowJ wr w.heap.size (.slice (some ⟨g2, 0, none⟩) p cap2) (numsR f0 (f0 + p)) := by
              have hln : (numsR f0 (f0 + p)).length = p := by rw [numsR_len]; omega
              have h1 : wr.ownsRow w.heap.size 3 1 (.slice (some ⟨g2, 0, none⟩) p cap2) (numsR f0 (f0 + p)).length ((numsR f0 (f0 + p)).map (Value.int .i64)) := by
                rw [hln]
                exact own_mono HOQ.out HB.out.size
              exact rowJ_own h1
            have HRJ := Lib.hid hRJ
            clear hRJ hOq hsa hmn hL hLr hLo
            by_cases h1 : p < len
            · have h2 : ¬ f0 + p < t := fun h => hin ⟨h1, h⟩
              clear hin
              go_wp2_with (at_builtin; refine wpList_append_own _ rfl _ _ 83 rfl w.heap.size 30 j0 (.slice none 0 0) 1 24 Tryz.underlying83 HJ.out.1 HJ.out.2.1 HJ.out.2.2.1 HJ.out.2.2.2 rfl (by decide) _ L.length _ rfl ((row_belowT HLO.out HBQ.out).alloc _) ⟨wr.heap.size, 0, none⟩ 1 1 [.slice (some ⟨g2, 0, none⟩) p cap2] rfl rfl (cells_new _ _ _) (by simp [Value.oneCell']) (by unfold maxLen; omega) (by omega) (by have := HBQ.out.size; have := HB.out.size; simp; omega) ?_; intro v' w5 hown' hgrow _)
              go_roundw
              case rel =>
                refine ⟨q + 1, hqn, by have := HMN.out; have := HF0.out; rw [Nat.add_mul, Nat.one_mul]; go_num, ?_, ?_⟩
                · exact ((below_c HB.out HB.out.size HBQ.out).alloc (below_c HB.out HB.out.size HBQ.out).size _).grown hgrow (by have := HBQ.out.size; have := HB.out.size; simp; omega) (fun r e => (HLO.out.lt r e).1)
                · rw [List.range_succ, List.map_append, List.map_cons, List.map_nil, HSA.out, ← HL.out]
                  exact OwnsLL.add (fun p hp => ((HLR.out p hp).below HBQ.out).below ((Below.refl _ _).alloc (Nat.le_refl _) _)) (HRJ.out.below ((Below.refl _ _).alloc (Nat.le_refl _) _)) ((row_belowT HLO.out HBQ.out).alloc _) hgrow hown'
              case measure => simp [intOf]; omega
            · clear hin
              go_wp2_with (at_builtin; refine wpList_append_own _ rfl _ _ 83 rfl w.heap.size 30 j0 (.slice none 0 0) 1 24 Tryz.underlying83 HJ.out.1 HJ.out.2.1 HJ.out.2.2.1 HJ.out.2.2.2 rfl (by decide) _ L.length _ rfl ((row_belowT HLO.out HBQ.out).alloc _) ⟨wr.heap.size, 0, none⟩ 1 1 [.slice (some ⟨g2, 0, none⟩) p cap2] rfl rfl (cells_new _ _ _) (by simp [Value.oneCell']) (by unfold maxLen; omega) (by omega) (by have := HBQ.out.size; have := HB.out.size; simp; omega) ?_; intro v' w5 hown' hgrow _)
              go_roundw
              case rel =>
                refine ⟨q + 1, hqn, by have := HMN.out; have := HF0.out; rw [Nat.add_mul, Nat.one_mul]; go_num, ?_, ?_⟩
                · exact ((below_c HB.out HB.out.size HBQ.out).alloc (below_c HB.out HB.out.size HBQ.out).size _).grown hgrow (by have := HBQ.out.size; have := HB.out.size; simp; omega) (fun r e => (HLO.out.lt r e).1)
                · rw [List.range_succ, List.map_append, List.map_cons, List.map_nil, HSA.out, ← HL.out]
                  exact OwnsLL.add (fun p hp => ((HLR.out p hp).below HBQ.out).below ((Below.refl _ _).alloc (Nat.le_refl _) _)) (HRJ.out.below ((Below.refl _ _).alloc (Nat.le_refl _) _)) ((row_belowT HLO.out HBQ.out).alloc _) hgrow hown'
              case measure => simp [intOf]; omega
    · have hmin : min f0 t = t := Nat.min_eq_right (by omega)
      rw [hmin]
      have hqe : q = shareN f t len := by
        have := hqq
        omega
      clear hmin hqq hO hB
      go_wp2_with fail
      go_ret
      refine ⟨_, rfl, HB.out, ?_⟩
      have := HO.out
      rw [hqe] at this
      exact this
end Go.Proofs.YtelklmdlodgdpaaGreat
