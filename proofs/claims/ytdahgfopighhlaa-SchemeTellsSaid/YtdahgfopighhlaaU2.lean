/-
  The reference of layer 23: level.
-/
import Derived.Test.YtdahgfopighhlaaUQ
namespace Go.Proofs.Ytdahgfopighhlaa
open Go.RowKit Go.Sort
set_option linter.unusedVariables false
set_option maxRecDepth 100000
set_option maxHeartbeats 2000000 in
theorem rLevel_head (l : Lev) (v : Value) (last : Bool) (w : World) (hf : LevFits l) (hh : headB l = false) :
    Calls Try.prog 53 #[lvA l v, .bool last] w fun e w' => e = .returned (.bool (levelB l last)) ∧ Below w.heap.size w w' := by
  obtain ⟨hn, hl, hx⟩ := hf
  have HF := Lib.hid (headB_false (last := last) hh)
  have hh' : nameB l.name = false ∨ (nameB l.name = true ∧ (l.pre < 0 ∨ (0 ≤ l.pre ∧ 10 < l.pre) ∨ ((0 ≤ l.pre ∧ l.pre ≤ 10) ∧ l.cents < 0) ∨ ((0 ≤ l.pre ∧ l.pre ≤ 10) ∧ 0 ≤ l.cents ∧ 1000000 < l.cents))) := by
    unfold headB at hh
    cases h : nameB l.name
    · exact .inl rfl
    · rw [h] at hh
      simp at hh
      exact .inr ⟨rfl, by omega⟩
  clear hh hl hx
  obtain ⟨name, pre, labs, min, cents⟩ := l
  dsimp only at hn hh'
  unfold lvA
  dsimp only
  generalize levelB _ _ = r at HF
  clear labs
  rcases hh' with h | ⟨h, h1 | ⟨h0, h1⟩ | ⟨⟨h0, h1⟩, h2⟩ | ⟨⟨h0, h1⟩, h2, h3⟩⟩
  all_goals
    go_enter Try.func53, Try.ntmps53
    go_wp2_with (go_at_call 67; refine (rName_any _ _ hn).mono ?_; rintro e w1 ⟨rfl, rfl⟩)
    go_ret
    exact ⟨ret_bool HF.out.symm, (Below.refl _ w).alloc (Nat.le_refl _) _⟩
set_option maxHeartbeats 2000000 in
theorem rLevel_min (l : Lev) (v : Value) (w : World) (hf : LevFits l) (hh : headB l = true) (hm : l.min < 1 ∨ 2000 < l.min) :
    Calls Try.prog 53 #[lvA l v, .bool false] w fun e w' => e = .returned (.bool (levelB l false)) ∧ Below w.heap.size w w' := by
  obtain ⟨hn, hl, hx⟩ := hf
  have HR : Hid (levelB l false = false) := levelB_false (fun h => by have := h.2; simp at this; omega)
  obtain ⟨h, h1, h2, h3, h4⟩ := head_parts hh
  clear hh hx
  obtain ⟨name, pre, labs, min, cents⟩ := l
  dsimp only at *
  unfold lvA
  dsimp only
  generalize levelB _ _ = r at HR
  rcases hm with hm | hm
  all_goals
    go_enter Try.func53, Try.ntmps53
    go_wp2_with (go_at_call 67; refine (rName_any _ _ hn).mono ?_; rintro e w1 ⟨rfl, rfl⟩)
    go_ret
    exact ⟨ret_bool HR.out.symm, (Below.refl _ w).alloc (Nat.le_refl _) _⟩
set_option maxHeartbeats 2000000 in
theorem rLevel_last (l : Lev) (v : Value) (w : World) (hf : LevFits l) (hh : headB l = true) (hv : ∃ a cap, v = .slice a l.labs.length cap) :
    Calls Try.prog 53 #[lvA l v, .bool true] w fun e w' => e = .returned (.bool (levelB l true)) ∧ Below w.heap.size w w' := by
  obtain ⟨hn, hl, hx⟩ := hf
  obtain ⟨a, cap, rfl⟩ := hv
  have HT : Hid (l.min = 0 → l.pre = 0 → l.labs.length = 0 → levelB l true = true) := fun h1 h2 h3 => levelB_iff.2 ⟨hh, by simp [h1, h2, h3]⟩
  have HF : Hid (¬ (l.min = 0 ∧ l.pre = 0 ∧ l.labs.length = 0) → levelB l true = false) := fun h => levelB_false (fun h' => h (by simpa using h'.2))
  obtain ⟨h, h1, h2, h3, h4⟩ := head_parts hh
  clear hh hx
  obtain ⟨name, pre, labs, min, cents⟩ := l
  dsimp only at *
  unfold lvA
  dsimp only
  generalize levelB _ _ = r at HT HF
  generalize labs.length = n at HT HF hl
  by_cases p0 : pre = 0
  · subst p0
    by_cases n0 : n = 0
    · subst n0
      by_cases m0 : min = 0
      · subst m0
        have HR := Lib.hid (HT.out rfl rfl rfl)
        clear HT HF
        go_enter Try.func53, Try.ntmps53
        go_wp2_with (go_at_call 67; refine (rName_any _ _ hn).mono ?_; rintro e w1 ⟨rfl, rfl⟩)
        go_loop [5] (fun i => i = .int .i64 0) (fun i => 0)
        case atStart => rfl
        case round =>
          subst hrel
          go_wp2_with fail
          go_ret
          exact ⟨ret_bool HR.out.symm, (Below.refl _ w).alloc (Nat.le_refl _) _⟩
      · have hne : (min != 0) = true := by simpa using m0
        have HR := Lib.hid (HF.out (fun h => m0 h.1))
        clear m0
        go_enter Try.func53, Try.ntmps53
        go_wp2_with (go_at_call 67; refine (rName_any _ _ hn).mono ?_; rintro e w1 ⟨rfl, rfl⟩)
        go_ret
        exact ⟨ret_bool HR.out.symm, (Below.refl _ w).alloc (Nat.le_refl _) _⟩
    · have hne : ((n : Int) != 0) = true := by simp; omega
      have HR := Lib.hid (HF.out (fun h => n0 h.2.2))
      clear n0
      go_enter Try.func53, Try.ntmps53
      go_wp2_with (go_at_call 67; refine (rName_any _ _ hn).mono ?_; rintro e w1 ⟨rfl, rfl⟩)
      go_ret
      exact ⟨ret_bool HR.out.symm, (Below.refl _ w).alloc (Nat.le_refl _) _⟩
  · have hne : (pre != 0) = true := by simpa using p0
    have HR := Lib.hid (HF.out (fun h => p0 h.2.1))
    clear p0
    go_enter Try.func53, Try.ntmps53
    go_wp2_with (go_at_call 67; refine (rName_any _ _ hn).mono ?_; rintro e w1 ⟨rfl, rfl⟩)
    go_ret
    exact ⟨ret_bool HR.out.symm, (Below.refl _ w).alloc (Nat.le_refl _) _⟩
set_option maxHeartbeats 8000000 in
theorem rLevel_labs (l : Lev) (v : Value) (w : World) (hf : LevFits l) (hh : headB l = true) (hm1 : 1 ≤ l.min) (hm2 : l.min ≤ 2000) (hr : RdLabs w v l.labs) :
    Calls Try.prog 53 #[lvA l v, .bool false] w fun e w' => e = .returned (.bool (levelB l false)) ∧ Below w.heap.size w w' := by
  obtain ⟨hn, hl, hx⟩ := hf
  obtain ⟨a, cap, rfl, hc⟩ := hr
  have HC := Lib.hid hc
  have HX := Lib.hid hx
  have HT : Hid (labsTo l l.labs.length → levelB l false = true) := fun h => levelB_iff.2 ⟨hh, by simp; exact ⟨⟨hm1, hm2⟩, h⟩⟩
  have HF1 : Hid (∀ k (hk : k < l.labs.length), labOk l l.labs[k] = false → levelB l false = false) := fun k hk => levelB_not_lab hk
  have HF2 : Hid (∀ j (hk : j + 1 < l.labs.length), ltB l.labs[j].pre l.labs[j + 1].pre = false → levelB l false = false) := fun j hk => levelB_not_sorted hk
  obtain ⟨h, h1, h2, h3, h4⟩ := head_parts hh
  clear hh hx hc
  generalize levelB l false = r at HT HF1 HF2
  unfold lvA
  go_enter Try.func53, Try.ntmps53
  go_wp2_with (go_at_call 67; refine (rName_any _ _ hn).mono ?_; rintro e w1 ⟨rfl, rfl⟩)
  go_loopw [5] (fun i wr => ∃ k : Nat, k ≤ l.labs.length ∧ i = .int .i64 k ∧ Hid (labsTo l k) ∧ Below (w.heap.size + 1) (w.alloc (.cells #[.string l.name, .int .i64 l.pre, .slice a l.labs.length cap, .int .i64 l.min, .int .i64 l.cents] 45)) wr) (fun i _ => l.labs.length - (intOf i).toNat)
  case atStart => exact ⟨0, Nat.zero_le _, rfl, fun j h => by omega, Below.refl _ _⟩
  case round =>
    obtain ⟨k, hk, rfl, ha, hB⟩ := hrel
    have hbx : w.heap.size < (w.alloc (.cells #[.string l.name, .int .i64 l.pre, .slice a l.labs.length cap, .int .i64 l.min, .int .i64 l.cents] 45)).heap.size := by simp
    have b1 : wr.cell? ⟨w.heap.size, 1, none⟩ = some (.int .i64 l.pre) := (hB.cell (p := ⟨w.heap.size, 1, none⟩) (Nat.lt_succ_self _)).trans (by simp [go_sem])
    have b2 : wr.cell? ⟨w.heap.size, 2, none⟩ = some (.slice a l.labs.length cap) := (hB.cell (p := ⟨w.heap.size, 2, none⟩) (Nat.lt_succ_self _)).trans (by simp [go_sem])
    have hsz : w.heap.size < wr.heap.size := Nat.lt_of_lt_of_le hbx hB.size
    have hend : Below w.heap.size w wr := ((Below.refl _ w).alloc (Nat.le_refl _) _).trans (hB.mono (Nat.le_succ _))
    by_cases hlt : k < l.labs.length
    · obtain ⟨g, off, rfl, hg, hcc⟩ := HC.out (by omega)
      have hgr : g < wr.heap.size := by omega
      have cl : ∀ o, wr.cell? ⟨g, o, none⟩ = w.cell? ⟨g, o, none⟩ := fun o => (hend.cell (p := ⟨g, o, none⟩) hg)
      have c1 : wr.cell? ⟨g, off + k * 2, none⟩ = some (.string l.labs[k].pre) := (cl _).trans (hcc k hlt).1
      have c2 : wr.cell? ⟨g, off + k * 2 + 1, none⟩ = some (.string l.labs[k].grp) := (cl _).trans (hcc k hlt).2
      have x1 := (HX.out _ (List.getElem_mem hlt)).1
      have x2 := (HX.out _ (List.getElem_mem hlt)).2
      have HN := Lib.hid (fun a b => labsTo_succ ha.out hlt a b)
      have HFK := Lib.hid (HF1.out k hlt)
      have hprev : Hid (∀ j, j + 1 = k → ∃ q : ByteArray, wr.cell? ⟨g, off + j * 2, none⟩ = some (.string q) ∧ (ltB q l.labs[k].pre = false → r = false) ∧ (ltB q l.labs[k].pre = true → ∀ j, j + 1 = k → ∀ h' : j < l.labs.length, ltB l.labs[j].pre l.labs[k].pre = true)) := fun j hj => by
        subst hj
        exact ⟨l.labs[j].pre, (cl _).trans (hcc j (by omega)).1, fun h => HF2.out j hlt h, fun h i hi _ => by
          obtain rfl : i = j := by omega
          exact h⟩
      have hlc := labOk_cases (l := l) (x := l.labs[k])
      have HLC := Lib.hid hlc
      clear cl hcc HC HX HF1 HF2 HT ha hlc
      generalize labOk l l.labs[k] = lok at HFK HN HLC
      generalize l.labs[k].pre = xp at c1 x1 HN HLC hprev
      generalize l.labs[k].grp = xg at c2 x2 HLC
      have hd : decide ((k : Int) < (l.labs.length : Int)) = true := decide_eq_true (by omega)
      go_wp2_with fail
      have q0 : (wr.alloc (.cells #[.string xp, .string xg] 47)).cell? ⟨wr.heap.size, 0, none⟩ = some (.string xp) := by rw [World.cell?_alloc_new]; rfl
      have q1 : (wr.alloc (.cells #[.string xp, .string xg] 47)).cell? ⟨wr.heap.size, 1, none⟩ = some (.string xg) := by rw [World.cell?_alloc_new]; rfl
      have d1 := (cell_alloc_old (.cells #[.string xp, .string xg] 47) hsz (i := 1)).trans b1
      have d2 := (cell_alloc_old (.cells #[.string xp, .string xg] 47) hsz (i := 2)).trans b2
      have hprev2 : Hid (∀ j, j + 1 = k → ∃ q : ByteArray, (wr.alloc (.cells #[.string xp, .string xg] 47)).cell? ⟨g, off + j * 2, none⟩ = some (.string q) ∧ (ltB q xp = false → r = false) ∧ (ltB q xp = true → ∀ j, j + 1 = k → ∀ h' : j < l.labs.length, ltB l.labs[j].pre xp = true)) := fun j hj => by
        obtain ⟨q, h1, h2, h3⟩ := hprev.out j hj
        exact ⟨q, (cell_alloc_old _ hgr).trans h1, h2, h3⟩
      have HBX : Hid (Below (w.heap.size + 1) (w.alloc (.cells #[.string l.name, .int .i64 l.pre, .slice (some ⟨g, off, none⟩) l.labs.length cap, .int .i64 l.min, .int .i64 l.cents] 45)) (wr.alloc (.cells #[.string xp, .string xg] 47))) := hB.alloc hsz _
      have HEX : Hid (Below w.heap.size w (wr.alloc (.cells #[.string xp, .string xg] 47))) := hend.alloc (Nat.le_of_lt hsz) _
      generalize wr.alloc (.cells #[.string xp, .string xg] 47) = wx at q0 q1 d1 d2 hprev2 HBX HEX ⊢
      have q0 := cells_in q0
      have q1 := cells_in q1
      have d1 := cells_in d1
      have d2 := cells_in d2
      clear hprev hB hend hsz hbx b1 b2 c1 c2 hgr
      have CP : Hid (∀ W, Below wx.heap.size wx W → Calls Try.prog 52 #[.string xp] W fun e w' => e = .returned (.bool (plainB xp)) ∧ Below W.heap.size W w') := fun W _ => (rPlain_any xp W x1).mono fun e w' ⟨a, b⟩ => ⟨a, by subst b; exact Below.refl _ _⟩
      have CN : Hid (∀ W, Below wx.heap.size wx W → Calls Try.prog 67 #[.string xg] W fun e w' => e = .returned (.bool (nameB xg)) ∧ Below W.heap.size W w') := fun W _ => (rName_any xg W x2).mono fun e w' ⟨a, b⟩ => ⟨a, by subst b; exact Below.refl _ _⟩
      generalize plainB xp = pb at CP HLC
      generalize nameB xg = nb at CN HLC
      clear x1 x2
      rcases HLC.out with ⟨rfl, hcs⟩ | ⟨rfl, t1, rfl, rfl⟩
      · have HR := Lib.hid (HFK.out rfl)
        clear HFK HN hprev2 HLC
        rcases hcs with t1 | ⟨t1, rfl⟩ | ⟨t1, rfl, rfl⟩
        · refine wp_region_quiet_below (by kernel_rfl) (by kernel_rfl) ?_
          repeat (go_big_quiet_step ((first | (with_reducible exact regrown_in CP.out _) | (with_reducible exact regrown_in CN.out _))))
          refine wpQuiet_nil ?_
          intro _ hw'
          obtain ⟨pp, hw''⟩ := hw'
          subst hw''
          go_wp2_with fail
          go_ret
          exact ⟨ret_bool HR.out.symm, HEX.out.trans ((below_in wx pp).mono HEX.out.size)⟩
        · refine wp_region_quiet_below (by kernel_rfl) (by kernel_rfl) ?_
          repeat (go_big_quiet_step ((first | (with_reducible exact regrown_in CP.out _) | (with_reducible exact regrown_in CN.out _))))
          refine wpQuiet_nil ?_
          intro _ hw'
          obtain ⟨pp, hw''⟩ := hw'
          subst hw''
          go_wp2_with fail
          go_ret
          exact ⟨ret_bool HR.out.symm, HEX.out.trans ((below_in wx pp).mono HEX.out.size)⟩
        · refine wp_region_quiet_below (by kernel_rfl) (by kernel_rfl) ?_
          repeat (go_big_quiet_step ((first | (with_reducible exact regrown_in CP.out _) | (with_reducible exact regrown_in CN.out _))))
          refine wpQuiet_nil ?_
          intro _ hw'
          obtain ⟨pp, hw''⟩ := hw'
          subst hw''
          go_wp2_with fail
          go_ret
          exact ⟨ret_bool HR.out.symm, HEX.out.trans ((below_in wx pp).mono HEX.out.size)⟩
      · have HN' := Lib.hid (HN.out rfl)
        clear HN HFK HLC
        by_cases k0 : 0 < k
        · obtain ⟨q, hq, hq1, hq2⟩ := hprev2.out (k - 1) (by omega)
          have HQ1 := Lib.hid hq1
          have HQ2 := Lib.hid hq2
          have hq := cells_in hq
          clear hq1 hq2 hprev2
          have hle := less_eq q xp
          have hle2 := leq_eq xp q
          have hd1 : decide (0 < k) = true := by simpa using k0
          have hd2 : decide ((0 : Int) < (k : Int)) = true := by simp; omega
          have hw2 : 0 ≤ (k : Int) - 1 := by omega
          have hw3 : ((k : Int) - 1).toNat = k - 1 := by omega
          have hw4 : (k : Int) - 1 < (l.labs.length : Int) := by omega
          have hw5 : 1 ≤ k := by omega
          have hw6 : k - 1 < l.labs.length := by omega
          have hw1 : IntKind.i64.wrap ((k : Int) - 1) = (k : Int) - 1 := IntWalk.i64_in _ (by omega)
          cases hqq : ltB q xp
          · rw [hqq] at hle hle2
            have HR := Lib.hid (HQ1.out hqq)
            refine wp_region_quiet_below (by kernel_rfl) (by kernel_rfl) ?_
            repeat (go_big_quiet_step ((first | (with_reducible exact regrown_in CP.out _) | (with_reducible exact regrown_in CN.out _))))
            refine wpQuiet_nil ?_
            intro _ hw'
            obtain ⟨pp, hw''⟩ := hw'
            subst hw''
            clear hw1
            go_wp2_with fail
            go_ret
            exact ⟨ret_bool HR.out.symm, HEX.out.trans ((below_in wx pp).mono HEX.out.size)⟩
          · rw [hqq] at hle hle2
            have HR := Lib.hid (HN'.out (HQ2.out hqq))
            refine wp_region_quiet_below (by kernel_rfl) (by kernel_rfl) ?_
            repeat (go_big_quiet_step ((first | (with_reducible exact regrown_in CP.out _) | (with_reducible exact regrown_in CN.out _))))
            refine wpQuiet_nil ?_
            intro _ hw'
            obtain ⟨pp, hw''⟩ := hw'
            subst hw''
            have HBN : Hid (Below (w.heap.size + 1) (w.alloc (.cells #[.string l.name, .int .i64 l.pre, .slice (some ⟨g, off, none⟩) l.labs.length cap, .int .i64 l.min, .int .i64 l.cents] 45)) (grow (redrawn wx pp.d) pp.os)) := HBX.out.trans ((below_in wx pp).mono (by have := HBX.out.size; simp at this; omega))
            clear hw1
            go_wp2_with fail
            go_roundw
            case rel => exact ⟨k + 1, by omega, by go_num, HR.out, HBN.out⟩
            case measure => simp [intOf]; omega
        · have hd1 : decide (0 < k) = false := by simp; omega
          have hd2 : decide ((0 : Int) < (k : Int)) = false := by simp; omega
          have HR := Lib.hid (HN'.out (fun j hj => by omega))
          clear hprev2
          refine wp_region_quiet_below (by kernel_rfl) (by kernel_rfl) ?_
          repeat (go_big_quiet_step ((first | (with_reducible exact regrown_in CP.out _) | (with_reducible exact regrown_in CN.out _))))
          refine wpQuiet_nil ?_
          intro _ hw'
          obtain ⟨pp, hw''⟩ := hw'
          subst hw''
          have HBN : Hid (Below (w.heap.size + 1) (w.alloc (.cells #[.string l.name, .int .i64 l.pre, .slice (some ⟨g, off, none⟩) l.labs.length cap, .int .i64 l.min, .int .i64 l.cents] 45)) (grow (redrawn wx pp.d) pp.os)) := HBX.out.trans ((below_in wx pp).mono (by have := HBX.out.size; simp at this; omega))
          go_wp2_with fail
          go_roundw
          case rel => exact ⟨k + 1, by omega, by go_num, HR.out, HBN.out⟩
          case measure => simp [intOf]; omega
    · have HR := Lib.hid (HT.out (by obtain rfl : k = l.labs.length := by omega
                                     exact ha.out))
      go_wp2_with fail
      go_ret
      exact ⟨ret_bool HR.out.symm, hend⟩
theorem rLevel_any (l : Lev) (v : Value) (last : Bool) (w : World) (hf : LevFits l) (hr : RdLabs w v l.labs) :
    Calls Try.prog 53 #[lvA l v, .bool last] w fun e w' => e = .returned (.bool (levelB l last)) ∧ Below w.heap.size w w' := by
  cases hh : headB l
  · exact rLevel_head l v last w hf hh
  · cases last
    · by_cases hm : l.min < 1 ∨ 2000 < l.min
      · exact rLevel_min l v w hf hh hm
      · exact rLevel_labs l v w hf hh (by omega) (by omega) hr
    · exact rLevel_last l v w hf hh (by obtain ⟨a, cap, h, _⟩ := hr; exact ⟨a, cap, h⟩)
end Go.Proofs.Ytdahgfopighhlaa
