/-
  Contract of Right, the walk.
-/
import Derived.Test.YtdahgfopighhlaaS8
namespace Go.Proofs.Ytdahgfopighhlaa
open Go.RowKit Go.Maps
set_option linter.unusedVariables false
set_option maxRecDepth 100000
theorem not_right_sum {ls : List Lev} {k : Nat} (hk : k < ls.length) (h : 200 < sumTo ls (k + 1)) : rightB ls = false :=
  rightB_false (fun h' => by have := h'.2.2.1.1; have := sumTo_mono ls (show k + 1 ≤ ls.length from hk); omega)
theorem not_right_name {ls : List Lev} {k j : Nat} (hk : k < ls.length) (hj : j < k) (h : (ls[j]'(by omega)).name = ls[k].name) : rightB ls = false :=
  rightB_false (fun h' => h'.2.2.1.2.2.1 k hk hk j hj (by omega) h)
theorem not_right_level {ls : List Lev} {k : Nat} (hk : k < ls.length) (h : levelB ls[k] (decide (k + 1 = ls.length)) = false) : rightB ls = false :=
  rightB_false (fun h' => by have := h'.2.2.1.2.1 k hk hk; rw [h] at this; cases this)
theorem not_right_pre {ls : List Lev} {j : Nat} (hk : j + 1 < ls.length) (h : ls[j].pre < ls[j + 1].pre) : rightB ls = false :=
  rightB_false (fun h' => by have := h'.2.2.1.2.2.2 (j + 1) hk hk j rfl (by omega); omega)
theorem not_right_nest {ls : List Lev} {j : Nat} (hk : j + 1 < ls.length) (h : nestedB ls[j] ls[j + 1] = false) : rightB ls = false :=
  rightB_false (fun h' => by have := h'.2.2.2 j hk; rw [h] at this; cases this)
def nestTo (ls : List Lev) (k : Nat) : Prop := ∀ i, i < k → ∀ h : i + 1 < ls.length, nestedB ls[i] ls[i + 1] = true
set_option maxHeartbeats 16000000 in
theorem right_main (ls : List Lev) (v : Value) (w : World) (hr : RdLevs w v ls) (hf : ∀ l ∈ ls, LevFits l) (h1 : 1 ≤ ls.length) (h6 : ls.length ≤ 6) :
    Calls Try.prog 13 #[v] w fun e w' => e = .returned (.bool (rightB ls)) ∧ Below w.heap.size w w' := by
  have hmm := @run_makeMap Try.prog
  have HRD := Lib.hid hr
  obtain ⟨a, cap, rfl, hc⟩ := hr
  obtain ⟨g, off, rfl, hg, hcc⟩ := hc (by omega)
  have HC := Lib.hid hcc
  have HF := Lib.hid hf
  have HRB : Hid (rightB ls = true → rightB ls = true) := fun h => h
  clear hcc hf hc
  go_enter Try.func13, Try.ntmps13
  go_wp2_with fail
  go_loopw [3, 19] (fun s i wr => ∃ k : Nat, k ≤ ls.length ∧ i = .int .i64 k ∧ s = .int .i64 (sumTo ls k : Nat) ∧ Hid (okTo ls k) ∧ Below w.heap.size w wr ∧ ∃ n f, OwnsSB wr w.heap.size n f ∧ n ≤ k ∧ Hid (NamesOk ls k f)) (fun _ i _ => ls.length - (intOf i).toNat)
  case atStart =>
    exact ⟨0, Nat.zero_le _, rfl, rfl, ⟨Nat.zero_le _, fun i h => by omega, fun i h => by omega, fun i h => by omega⟩, (Below.refl _ w).alloc (Nat.le_refl _) _, 0, fun _ => none, OwnsF.made w, Nat.le_refl _, fun u => .inl ⟨rfl, fun j h => by omega⟩⟩
  case round =>
    clear hmm
    obtain ⟨k, hk, rfl, rfl, hok, hB, n, f, hown, hnk, hnm⟩ := hrel
    by_cases hlt : k < ls.length
    · obtain ⟨sv, hlab, hat⟩ := HC.out k hlt
      have hgr : g < wr.heap.size := Nat.lt_of_lt_of_le hg hB.size
      have hwz : w.heap.size < wr.heap.size := hown.lt
      have hat' := hat.below hB hg
      obtain ⟨t0, t1, t2, t3, t4⟩ := hat'
      have hlf := HF.out _ (List.getElem_mem hlt)
      have hS := sumTo_succ ls k hlt
      have N1 := Lib.hid (not_right_sum hlt)
      have N2 : Hid (∀ j (hj : j < k), (ls[j]'(by omega)).name = ls[k].name → rightB ls = false) := fun j hj h => not_right_name hlt hj h
      have N3 := Lib.hid (not_right_level hlt)
      have hnames : (f ls[k].name = none ∧ Hid (∀ j, j < k → ∀ h' : j < ls.length, ls[j].name ≠ ls[k].name)) ∨ (f ls[k].name = some true ∧ Hid (rightB ls = false)) := by
        rcases hnm.out ls[k].name with ⟨e1, e2⟩ | ⟨e1, j, hj, hj', e2⟩
        · exact .inl ⟨e1, e2⟩
        · exact .inr ⟨e1, N2.out j hj e2⟩
      have NN := Lib.hid (NamesOk_step hnm.out hlt)
      have OK := Lib.hid (okTo_succ hok.out hlt)
      have hprev : Hid (∀ j, j + 1 = k → ∃ q : Int, w.cell? ⟨g, off + j * 5 + 1, none⟩ = some (.int .i64 q) ∧ (q < ls[k].pre → rightB ls = false) ∧ (ls[k].pre ≤ q → ∀ j, j + 1 = k → ∀ h' : j < ls.length, ls[k].pre ≤ ls[j].pre)) := fun j hj => by
        subst hj
        obtain ⟨sv', _, hat2⟩ := HC.out j (by omega)
        exact ⟨ls[j].pre, hat2.2.1, fun h => not_right_pre hlt h, fun h i hi _ => by
          obtain rfl : i = j := by omega
          exact h⟩
      have hsl : sumTo ls k ≤ 200 := hok.out.1
      clear hok hnm hat HC HF HRD
      have hw1 : w.heap.size ≤ wr.heap.size := Nat.le_of_lt hwz
      have hlt2 : ((k : Int) == (ls.length : Int) - 1) = decide (k + 1 = ls.length) := by rw [Bool.eq_iff_iff]; simp; omega
      generalize decide (k + 1 = ls.length) = lastB at hlt2 N3 OK
      obtain ⟨sk, hsk⟩ : ∃ x, sumTo ls k = x := ⟨_, rfl⟩
      rw [hsk] at hS hsl ⊢
      clear hsk
      generalize ls[k] = l at t0 t1 t2 t3 t4 hlab hlf hS N3 hnames NN OK hprev
      have hll := hlf.2.1
      have hln := hlf.1
      by_cases hsum : 200 < sk + l.labs.length
      · have HE := Lib.hid (N1.out (by omega))
        clear N1 N2 N3 NN OK hprev hnames hS
        obtain ⟨la, lc, rfl, _⟩ := hlab
        go_wp2_with fail
        go_ret
        exact ⟨ret_bool HE.out.symm, hB.alloc hw1 _⟩
      · have hsum' : sk + l.labs.length ≤ 200 := by omega
        have HS := Lib.hid hS
        have hlk := (hown.alloc (.cells #[.string l.name, .int .i64 l.pre, sv, .int .i64 l.min, .int .i64 l.cents] 45)).look boolLaw Try.underlying60 hln
        have HLAB := Lib.hid hlab
        obtain ⟨la, lc, rfl, _⟩ := hlab
        clear hsum hS N1 N2
        rcases hnames with ⟨hn0, HNN⟩ | ⟨hn0, HE⟩
        · rw [hn0] at hlk
          clear hn0
          have HIL := Lib.hid (isLevel_any l (.slice la l.labs.length lc) lastB (wr.alloc (.cells #[.string l.name, .int .i64 l.pre, .slice la l.labs.length lc, .int .i64 l.min, .int .i64 l.cents] 45)) hlf (HLAB.out.below (hB.alloc hw1 _)))
          unfold lvA at HIL
          cases hlev : levelB l lastB
          · have HE := Lib.hid (N3.out hlev)
            rw [hlev] at HIL
            clear N3 NN OK hprev hlev
            go_wp2_with (go_at_call 24; refine HIL.out.mono ?_; rintro e w2 ⟨rfl, hb2⟩)
            go_ret
            exact ⟨ret_bool HE.out.symm, below_ac hB hw1 hb2⟩
          · rw [hlev] at HIL
            have OK2 := Lib.hid (fun a c => OK.out a hlev HNN.out c)
            clear N3 OK hlev
            go_wp2_with (go_at_call 24; refine HIL.out.mono ?_; rintro e w2 ⟨rfl, hb2⟩)
            have B2 : Below w.heap.size w w2 := below_ac hB hw1 hb2
            have b0 : w2.cell? ⟨wr.heap.size, 0, none⟩ = some (.string l.name) := (hb2.cell (p := ⟨wr.heap.size, 0, none⟩) (by simp)).trans (by simp [go_sem])
            have b1 : w2.cell? ⟨wr.heap.size, 1, none⟩ = some (.int .i64 l.pre) := (hb2.cell (p := ⟨wr.heap.size, 1, none⟩) (by simp)).trans (by simp [go_sem])
            have z2 : wr.heap.size < w2.heap.size := Nat.lt_of_lt_of_le (by simp) hb2.size
            have own2 := (hown.alloc (.cells #[.string l.name, .int .i64 l.pre, .slice la l.labs.length lc, .int .i64 l.min, .int .i64 l.cents] 45)).below hb2
            have SK : Hid (sumTo ls (k + 1) ≤ 200) := by rw [HS.out]; exact hsum'
            have se : Value.int .i64 ((sk : Int) + (l.labs.length : Int)) = .int .i64 (sumTo ls (k + 1) : Nat) := by rw [HS.out]; simp
            have SE := Lib.hid se
            clear se
            clear hb2 hown HIL HLAB hlk hlf t0 t1 t2 t3 t4 HS hlt2
            by_cases k0 : 0 < k
            · obtain ⟨q, hq, hq1, hq2⟩ := hprev.out (k - 1) (by omega)
              have d1 : w2.cell? ⟨g, off + (k - 1) * 5 + 1, none⟩ = some (.int .i64 q) := (B2.cell (p := ⟨g, off + (k - 1) * 5 + 1, none⟩) hg).trans hq
              have HQ1 := Lib.hid hq1
              have HQ2 := Lib.hid hq2
              clear hq1 hq2 hprev hq
              have hd1 : decide (0 < k) = true := by simpa using k0
              have hd2 : decide ((0 : Int) < (k : Int)) = true := by simp; omega
              have hv2 : 0 ≤ (k : Int) - 1 := by omega
              have hv3 : ((k : Int) - 1).toNat = k - 1 := by omega
              have hv4 : (k : Int) - 1 < (ls.length : Int) := by omega
              have hv5 : 1 ≤ k := by omega
              have hv6 : k - 1 < ls.length := by omega
              have hv1 : IntKind.i64.wrap ((k : Int) - 1) = (k : Int) - 1 := IntWalk.i64_in _ (by omega)
              by_cases hlp : q < l.pre
              · have HE := Lib.hid (HQ1.out hlp)
                go_quiet (fail)
                clear hv1
                go_wp2_with fail
                go_ret
                exact ⟨ret_bool HE.out.symm, below_drewN B2 _⟩
              · have HE := Lib.hid (OK2.out SK.out (HQ2.out (by omega)))
                go_quiet (fail)
                clear hv1
                go_wp2_with (at_mapUpdate; refine wpList_update_F boolLaw _ rfl _ _ _ 60 rfl Try.underlying60 w.heap.size n f rfl (own2.drewN _) (by unfold maxLen; omega) l.name hln rfl true trivial rfl ?_; intro w3 ho3 hg3)
                go_roundw
                case rel => exact ⟨k + 1, by omega, by go_num, SE.out, HE, below_row (below_drewN B2 _) hg3 B2.size (Nat.le_refl _), n + 1, _, ho3, by omega, NN⟩
                case measure => simp [intOf]; omega
            · have hd1 : decide (0 < k) = false := by simp; omega
              have hd2 : decide ((0 : Int) < (k : Int)) = false := by simp; omega
              have HE := Lib.hid (OK2.out SK.out (fun j hj => by omega))
              clear OK2 hprev
              go_quiet (fail)
              go_wp2_with (at_mapUpdate; refine wpList_update_F boolLaw _ rfl _ _ _ 60 rfl Try.underlying60 w.heap.size n f rfl (own2.drewN _) (by unfold maxLen; omega) l.name hln rfl true trivial rfl ?_; intro w3 ho3 hg3)
              go_roundw
              case rel => exact ⟨k + 1, by omega, by go_num, SE.out, HE, below_row (below_drewN B2 _) hg3 B2.size (Nat.le_refl _), n + 1, _, ho3, by omega, NN⟩
              case measure => simp [intOf]; omega
        · rw [hn0] at hlk
          clear hn0 N3 NN OK hprev
          go_wp2_with fail
          go_ret
          exact ⟨ret_bool HE.out.symm, hB.alloc hw1 _⟩
    · have hke : k = ls.length := by omega
      have hok' : okTo ls ls.length := hke ▸ hok.out
      have HOK := Lib.hid hok'
      clear hok hok' hke hnm hown hnk
      obtain ⟨wo, hwo⟩ : ∃ wo : World, wo = wr := ⟨_, rfl⟩
      have BO : Below w.heap.size w wo := by rw [hwo]; exact hB
      clear hB
      subst hwo
      go_wp2_with fail
      go_loopw [67] (fun i wr => ∃ j : Nat, j + 1 ≤ ls.length ∧ i = .int .i64 j ∧ Hid (nestTo ls j) ∧ Below w.heap.size w wr) (fun i _ => ls.length - (intOf i).toNat)
      case atStart => exact ⟨0, h1, rfl, fun i h => by omega, BO⟩
      case round =>
        obtain ⟨j, hj, rfl, hnt, hB⟩ := hrel
        by_cases hlt2 : j + 1 < ls.length
        · obtain ⟨sv, hlab, hat⟩ := HC.out j (by omega)
          obtain ⟨su, hlab2, hat2⟩ := HC.out (j + 1) hlt2
          obtain ⟨f1, f2, f3, f4⟩ := level_facts (HOK.out.2.1 j (by omega) (by omega))
          obtain ⟨k1, k2, k3, k4⟩ := level_facts (HOK.out.2.1 (j + 1) hlt2 hlt2)
          have hpm := HOK.out.2.2.2 (j + 1) hlt2 hlt2 j rfl (by omega)
          have HIN : Hid (∀ W, Below w.heap.size w W → Calls Try.prog 25 #[lvA ls[j] sv, lvA ls[j + 1] su] W fun e w' => e = .returned (.bool (nestedB ls[j] ls[j + 1])) ∧ Below w.heap.size w w') := fun W hW => by
            refine (isNested_any ls[j] ls[j + 1] sv su W (HF.out _ (List.getElem_mem _)) (HF.out _ (List.getElem_mem _)) (hlab.below hW) (hlab2.below hW) f1 k1 k3 hpm f2).mono ?_
            rintro e w' ⟨rfl, hb⟩
            exact ⟨rfl, below_c hW hW.size hb⟩
          obtain ⟨t0, t1, t2, t3, t4⟩ := hat.below hB hg
          obtain ⟨s0, s1, s2, s3, s4⟩ := hat2.below hB hg
          have NF := Lib.hid (not_right_nest hlt2)
          have NT : Hid (nestedB ls[j] ls[j + 1] = true → nestTo ls (j + 1)) := fun h i hi h' => by
            by_cases e : i = j
            · subst e; exact h
            · exact hnt.out i (by omega) h'
          clear hlab hlab2 hat hat2 f1 f2 f3 f4 k1 k2 k3 k4 hpm HC HF HRD hnt HOK
          unfold lvA at HIN
          generalize ls[j] = l at t0 t1 t2 t3 t4 HIN NF NT
          generalize ls[j + 1] = m at s0 s1 s2 s3 s4 HIN NF NT
          cases hne : nestedB l m
          · rw [hne] at HIN
            have HE := Lib.hid (NF.out hne)
            clear NF NT hne
            go_wp2_with fail
            have hv2 : 0 ≤ (j : Int) + 1 := by omega
            have hv3 : ((j : Int) + 1).toNat = j + 1 := by omega
            have hv4 : (j : Int) + 1 < (ls.length : Int) := by omega
            have hv1 : IntKind.i64.wrap ((j : Int) + 1) = (j : Int) + 1 := IntWalk.i64_in _ (by omega)
            go_region_with (go_at_call 25; refine (HIN.out _ hB.drew).mono ?_; rintro e w2 ⟨rfl, hb2⟩)
            all_goals
              clear hv1
              go_wp2_with fail
              go_ret
              exact ⟨ret_bool HE.out.symm, hb2⟩
          · rw [hne] at HIN
            have HE := Lib.hid (NT.out hne)
            clear NF NT hne
            go_wp2_with fail
            have hv2 : 0 ≤ (j : Int) + 1 := by omega
            have hv3 : ((j : Int) + 1).toNat = j + 1 := by omega
            have hv4 : (j : Int) + 1 < (ls.length : Int) := by omega
            have hv1 : IntKind.i64.wrap ((j : Int) + 1) = (j : Int) + 1 := IntWalk.i64_in _ (by omega)
            go_region_with (go_at_call 25; refine (HIN.out _ hB.drew).mono ?_; rintro e w2 ⟨rfl, hb2⟩)
            all_goals
              clear hv1
              go_wp2_with fail
              go_roundw
              case rel => exact ⟨j + 1, by omega, by go_num, HE, hb2⟩
              case measure => simp [intOf]; omega
        · have HE : Hid (rightB ls = true) := rightB_iff.2 ⟨h1, h6, HOK.out, fun i h => hnt.out i (by omega) h⟩
          go_wp2_with fail
          go_ret
          exact ⟨ret_bool HE.out.symm, hB⟩
theorem right_any (ls : List Lev) (v : Value) (w : World) (hr : RdLevs w v ls) (hf : ∀ l ∈ ls, LevFits l) (hl : ls.length ≤ maxLen) :
    Calls Try.prog 13 #[v] w fun e w' => e = .returned (.bool (rightB ls)) ∧ Below w.heap.size w w' := by
  unfold maxLen at hl
  by_cases h : 1 ≤ ls.length ∧ ls.length ≤ 6
  · exact right_main ls v w hr hf h.1 h.2
  · have HE : Hid (rightB ls = false) := rightB_false (fun h' => h ⟨h'.1, h'.2.1⟩)
    have h' : ls.length < 1 ∨ 6 < ls.length := by omega
    obtain ⟨a, cap, rfl, hc⟩ := hr
    clear h hc hf
    rcases h' with h | h
    all_goals
      go_enter Try.func13, Try.ntmps13
      go_wp2_with fail
      go_ret
      exact ⟨ret_bool HE.out.symm, Below.refl _ _⟩
end Go.Proofs.Ytdahgfopighhlaa
