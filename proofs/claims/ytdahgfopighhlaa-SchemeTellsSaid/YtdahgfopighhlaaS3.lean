/-
  Contract of isLevel.
-/
import Derived.Test.YtdahgfopighhlaaS2
namespace Go.Proofs.Ytdahgfopighhlaa
open Go.RowKit
set_option linter.unusedVariables false
set_option maxRecDepth 100000
theorem cell_alloc_old {W : World} {b i : Nat} (o : Obj) (h : b < W.heap.size) : (W.alloc o).cell? ⟨b, i, none⟩ = W.cell? ⟨b, i, none⟩ :=
  ((Below.refl _ W).alloc (Nat.le_refl _) o).cell (p := ⟨b, i, none⟩) h
theorem below_ac {B : Nat} {w wr w2 : World} {o : Obj} (h : Below B w wr) (hB : B ≤ wr.heap.size) (h2 : Below (wr.alloc o).heap.size (wr.alloc o) w2) : Below B w w2 :=
  (h.alloc hB o).trans (h2.mono (by simp; omega))
theorem below_c {B : Nat} {w wr w2 : World} (h : Below B w wr) (hB : B ≤ wr.heap.size) (h2 : Below wr.heap.size wr w2) : Below B w w2 := h.trans (h2.mono hB)
theorem head_parts {l : Lev} (h : headB l = true) : nameB l.name = true ∧ 0 ≤ l.pre ∧ l.pre ≤ 10 ∧ 0 ≤ l.cents ∧ l.cents ≤ 1000000 := by
  unfold headB at h
  simpa using h
set_option maxHeartbeats 2000000 in
theorem isLevel_last (l : Lev) (v : Value) (w : World) (hf : LevFits l) (hh : headB l = true) (hv : ∃ a cap, v = .slice a l.labs.length cap) :
    Calls Try.prog 24 #[lvA l v, .bool true] w fun e w' => e = .returned (.bool (levelB l true)) ∧ Below w.heap.size w w' := by
  obtain ⟨hn, hl, hx⟩ := hf
  obtain ⟨a, cap, rfl⟩ := hv
  have HT : Hid (l.min = 0 → l.pre = 0 → l.labs.length = 0 → levelB l true = true) := fun h1 h2 h3 => levelB_iff.2 ⟨hh, by simp [h1, h2, h3]⟩
  have HF : Hid (¬ (l.min = 0 ∧ l.pre = 0 ∧ l.labs.length = 0) → levelB l true = false) := fun h => levelB_false (fun h' => h (by simpa using h'.2))
  obtain ⟨h, h1, h2, h3, h4⟩ := head_parts hh
  clear hh hx
  obtain ⟨name, pre, labs, min, cents⟩ := l
  dsimp only at *
  unfold lvA
  dsimp only
  generalize levelB _ _ = r at HT HF
  generalize labs.length = n at HT HF hl
  by_cases m0 : min = 0
  · subst m0
    by_cases p0 : pre = 0
    · subst p0
      by_cases n0 : n = 0
      · subst n0
        have HR := Lib.hid (HT.out rfl rfl rfl)
        clear HT HF
        go_enter Try.func24, Try.ntmps24
        go_wp2_with (go_at_call 41; refine (isName_any _ _ hn).mono ?_; rintro e w1 ⟨rfl, hb⟩; obtain ⟨hc1, hf1⟩ := bcell hb)
        go_ret
        exact ⟨ret_bool HR.out.symm, ((Below.refl _ w).alloc (Nat.le_refl _) _).trans (hb.mono (by simp))⟩
      · have hne : ((n : Int) == 0) = false := by simp; omega
        have HR := Lib.hid (HF.out (fun h => n0 h.2.2))
        clear n0
        go_enter Try.func24, Try.ntmps24
        go_wp2_with (go_at_call 41; refine (isName_any _ _ hn).mono ?_; rintro e w1 ⟨rfl, hb⟩; obtain ⟨hc1, hf1⟩ := bcell hb)
        go_ret
        exact ⟨ret_bool HR.out.symm, ((Below.refl _ w).alloc (Nat.le_refl _) _).trans (hb.mono (by simp))⟩
    · have hne : (pre == 0) = false := by simpa using p0
      have HR := Lib.hid (HF.out (fun h => p0 h.2.1))
      clear p0
      go_enter Try.func24, Try.ntmps24
      go_wp2_with (go_at_call 41; refine (isName_any _ _ hn).mono ?_; rintro e w1 ⟨rfl, hb⟩; obtain ⟨hc1, hf1⟩ := bcell hb)
      go_ret
      exact ⟨ret_bool HR.out.symm, ((Below.refl _ w).alloc (Nat.le_refl _) _).trans (hb.mono (by simp))⟩
  · have hne : (min == 0) = false := by simpa using m0
    have HR := Lib.hid (HF.out (fun h => m0 h.1))
    clear m0
    go_enter Try.func24, Try.ntmps24
    go_wp2_with (go_at_call 41; refine (isName_any _ _ hn).mono ?_; rintro e w1 ⟨rfl, hb⟩; obtain ⟨hc1, hf1⟩ := bcell hb)
    go_ret
    exact ⟨ret_bool HR.out.symm, ((Below.refl _ w).alloc (Nat.le_refl _) _).trans (hb.mono (by simp))⟩
set_option maxHeartbeats 2000000 in
theorem isLevel_min (l : Lev) (v : Value) (w : World) (hf : LevFits l) (hh : headB l = true) (hm : l.min < 1 ∨ 2000 < l.min) :
    Calls Try.prog 24 #[lvA l v, .bool false] w fun e w' => e = .returned (.bool (levelB l false)) ∧ Below w.heap.size w w' := by
  obtain ⟨hn, hl, hx⟩ := hf
  have HR : Hid (levelB l false = false) := levelB_false (fun h => by have := h.2; simp at this; omega)
  obtain ⟨h, h1, h2, h3, h4⟩ := head_parts hh
  clear hh hx
  obtain ⟨name, pre, labs, min, cents⟩ := l
  dsimp only at *
  unfold lvA
  dsimp only
  generalize levelB _ _ = r at HR
  rcases hm with hm | hm
  all_goals
    go_enter Try.func24, Try.ntmps24
    go_wp2_with (go_at_call 41; refine (isName_any _ _ hn).mono ?_; rintro e w1 ⟨rfl, hb⟩; obtain ⟨hc1, hf1⟩ := bcell hb)
    go_ret
    exact ⟨ret_bool HR.out.symm, ((Below.refl _ w).alloc (Nat.le_refl _) _).trans (hb.mono (by simp))⟩
theorem labOk_cases {l : Lev} {x : Lab} : (labOk l x = false ∧ (((x.pre.size : Int) != l.pre) = true ∨ (((x.pre.size : Int) != l.pre) = false ∧ plainB x.pre = false) ∨ (((x.pre.size : Int) != l.pre) = false ∧ plainB x.pre = true ∧ nameB x.grp = false))) ∨
    (labOk l x = true ∧ ((x.pre.size : Int) != l.pre) = false ∧ plainB x.pre = true ∧ nameB x.grp = true) := by
  unfold labOk
  by_cases h : (x.pre.size : Int) = l.pre
  · cases h1 : plainB x.pre <;> cases h2 : nameB x.grp <;> simp [h]
  · simp [h]
theorem labsTo_succ {l : Lev} {k : Nat} (h : labsTo l k) (hk : k < l.labs.length) (h1 : labOk l l.labs[k] = true) (h2 : ∀ j, j + 1 = k → ∀ h' : j < l.labs.length, ltB l.labs[j].pre l.labs[k].pre = true) : labsTo l (k + 1) := by
  intro i hi hlt
  by_cases e : i = k
  · subst e; exact ⟨h1, h2⟩
  · exact h i (by omega) hlt
theorem levelB_not_lab {l : Lev} {k : Nat} (hk : k < l.labs.length) (h : labOk l l.labs[k] = false) : levelB l false = false :=
  levelB_false (fun h' => by
    have := h'.2
    simp only [Bool.false_eq_true, if_false] at this
    have := (this.2 k hk hk).1
    rw [h] at this; cases this)
theorem levelB_not_sorted {l : Lev} {j : Nat} (hk : j + 1 < l.labs.length) (h : ltB l.labs[j].pre l.labs[j + 1].pre = false) : levelB l false = false :=
  levelB_false (fun h' => by
    have := h'.2
    simp only [Bool.false_eq_true, if_false] at this
    have := (this.2 (j + 1) hk hk).2 j rfl (by omega)
    rw [h] at this; cases this)
set_option maxHeartbeats 8000000 in
theorem isLevel_labs (l : Lev) (v : Value) (w : World) (hf : LevFits l) (hh : headB l = true) (hm1 : 1 ≤ l.min) (hm2 : l.min ≤ 2000) (hr : RdLabs w v l.labs) :
    Calls Try.prog 24 #[lvA l v, .bool false] w fun e w' => e = .returned (.bool (levelB l false)) ∧ Below w.heap.size w w' := by
  obtain ⟨hn, hl, hx⟩ := hf
  obtain ⟨a, cap, rfl, hc⟩ := hr
  have HC := Lib.hid hc
  have HX := Lib.hid hx
  have HT : Hid (labsTo l l.labs.length → levelB l false = true) := fun h => levelB_iff.2 ⟨hh, by simp; exact ⟨⟨hm1, hm2⟩, h⟩⟩
  have HF1 : Hid (∀ k (hk : k < l.labs.length), labOk l l.labs[k] = false → levelB l false = false) := fun k hk => levelB_not_lab hk
  have HF2 : Hid (∀ j (hk : j + 1 < l.labs.length), ltB l.labs[j].pre l.labs[j + 1].pre = false → levelB l false = false) := fun j hk => levelB_not_sorted hk
  obtain ⟨h, h1, h2, h3, h4⟩ := head_parts hh
  clear hh hx hc
  generalize levelB l false = r at HT HF1 HF2
  unfold lvA
  go_enter Try.func24, Try.ntmps24
  go_wp2_with (go_at_call 41; refine (isName_any _ _ hn).mono ?_; rintro e w1 ⟨rfl, hb⟩; obtain ⟨hc1, hf1⟩ := bcell hb)
  go_loopw [57] (fun i wr => ∃ k : Nat, k ≤ l.labs.length ∧ i = .int .i64 k ∧ Hid (labsTo l k) ∧ Below (w.heap.size + 1) (w.alloc (.cells #[.string l.name, .int .i64 l.pre, .slice a l.labs.length cap, .int .i64 l.min, .int .i64 l.cents] 45)) wr) (fun i _ => l.labs.length - (intOf i).toNat)
  case atStart => exact ⟨0, Nat.zero_le _, rfl, fun j h => by omega, by simpa using hb⟩
  case round =>
    clear hc1 hf1 hb
    obtain ⟨k, hk, rfl, ha, hB⟩ := hrel
    have hbx : w.heap.size < (w.alloc (.cells #[.string l.name, .int .i64 l.pre, .slice a l.labs.length cap, .int .i64 l.min, .int .i64 l.cents] 45)).heap.size := by simp
    have b1 : wr.cell? ⟨w.heap.size, 1, none⟩ = some (.int .i64 l.pre) := (hB.cell (p := ⟨w.heap.size, 1, none⟩) (Nat.lt_succ_self _)).trans (by simp [go_sem])
    have b2 : wr.cell? ⟨w.heap.size, 2, none⟩ = some (.slice a l.labs.length cap) := (hB.cell (p := ⟨w.heap.size, 2, none⟩) (Nat.lt_succ_self _)).trans (by simp [go_sem])
    have hsz : w.heap.size < wr.heap.size := Nat.lt_of_lt_of_le hbx hB.size
    have hend : Below w.heap.size w wr := ((Below.refl _ w).alloc (Nat.le_refl _) _).trans (hB.mono (Nat.le_succ _))
    by_cases hlt : k < l.labs.length
    · obtain ⟨g, off, rfl, hg, hcc⟩ := HC.out (by omega)
      have hgr : g < wr.heap.size := by omega
      have cl : ∀ o, wr.cell? ⟨g, o, none⟩ = w.cell? ⟨g, o, none⟩ := fun o => (hend.cell (p := ⟨g, o, none⟩) hg)
      have c1 : wr.cell? ⟨g, off + k * 2, none⟩ = some (.string l.labs[k].pre) := (cl _).trans (hcc k hlt).1
      have c2 : wr.cell? ⟨g, off + k * 2 + 1, none⟩ = some (.string l.labs[k].grp) := (cl _).trans (hcc k hlt).2
      have x1 := (HX.out _ (List.getElem_mem hlt)).1
      have x2 := (HX.out _ (List.getElem_mem hlt)).2
      have HN := Lib.hid (fun a b => labsTo_succ ha.out hlt a b)
      have HFK := Lib.hid (HF1.out k hlt)
      have hprev : Hid (∀ j, j + 1 = k → ∃ q : ByteArray, wr.cell? ⟨g, off + j * 2, none⟩ = some (.string q) ∧ (ltB q l.labs[k].pre = false → r = false) ∧ (ltB q l.labs[k].pre = true → ∀ j, j + 1 = k → ∀ h' : j < l.labs.length, ltB l.labs[j].pre l.labs[k].pre = true)) := fun j hj => by
        subst hj
        exact ⟨l.labs[j].pre, (cl _).trans (hcc j (by omega)).1, fun h => HF2.out j hlt h, fun h i hi _ => by
          obtain rfl : i = j := by omega
          exact h⟩
      clear cl hcc HC HX HF1 HF2 HT ha
      rcases labOk_cases (l := l) (x := l.labs[k]) with ⟨hlo, hcs⟩ | ⟨hlo, t1, t2, t3⟩
      · have HR := Lib.hid (HFK.out hlo)
        clear hlo HFK HN hprev
        generalize l.labs[k].pre = xp at c1 hcs x1
        generalize l.labs[k].grp = xg at c2 hcs x2
        rcases hcs with t1 | ⟨t1, t2⟩ | ⟨t1, t2, t3⟩
        · go_wp2_with fail
          go_ret
          exact ⟨ret_bool HR.out.symm, hend.alloc (Nat.le_of_lt hsz) _⟩
        · go_wp2_with (go_at_call 42; refine (isPlain_any _ _ x1).mono ?_; rintro e w2 ⟨rfl, hb2⟩; obtain ⟨hc2, hf2⟩ := bcell hb2)
          go_ret
          exact ⟨ret_bool HR.out.symm, below_ac hend (Nat.le_of_lt hsz) hb2⟩
        · go_wp2_with (first | (go_at_call 42; refine (isPlain_any _ _ x1).mono ?_; rintro e w2 ⟨rfl, hb2⟩; obtain ⟨hc2, hf2⟩ := bcell hb2; have hz2 := hb2.size) | (go_at_call 41; refine (isName_any _ _ x2).mono ?_; rintro e w3 ⟨rfl, hb3⟩; obtain ⟨hc3, hf3⟩ := bcell hb3))
          go_ret
          exact ⟨ret_bool HR.out.symm, below_c (below_ac hend (Nat.le_of_lt hsz) hb2) (by have := hb2.size; simp at this; omega) hb3⟩
      · clear HFK
        have HN' := Lib.hid (HN.out hlo)
        clear HN hlo
        generalize l.labs[k].pre = xp at c1 t1 t2 x1 HN' hprev
        generalize l.labs[k].grp = xg at c2 t3 x2
        by_cases k0 : 0 < k
        · obtain ⟨q, hq, hq1, hq2⟩ := hprev.out (k - 1) (by omega)
          have HQ1 := Lib.hid hq1
          have HQ2 := Lib.hid hq2
          clear hq1 hq2 hprev
          have hle := leq_eq xp q
          go_wp2_with (first | (go_at_call 42; refine (isPlain_any _ _ x1).mono ?_; rintro e w2 ⟨rfl, hb2⟩; obtain ⟨hc2, hf2⟩ := bcell hb2; have hz2 := hb2.size) | (go_at_call 41; refine (isName_any _ _ x2).mono ?_; rintro e w3 ⟨rfl, hb3⟩; obtain ⟨hc3, hf3⟩ := bcell hb3))
          have d1 : w3.cell? ⟨w.heap.size, 2, none⟩ = some (.slice (some ⟨g, off, none⟩) l.labs.length cap) := by
            rw [hc3 _ _ (by simp at hz2; omega), hc2 _ _ (by simp; omega)]
            exact (cell_alloc_old _ hsz).trans b2
          have d2 : w3.cell? ⟨g, off + (k - 1) * 2, none⟩ = some (.string q) := by
            rw [hc3 _ _ (by simp at hz2; omega), hc2 _ _ (by simp; omega)]
            exact (cell_alloc_old _ hgr).trans hq
          have d3 : w3.cell? ⟨wr.heap.size, 0, none⟩ = some (.string xp) := by
            rw [hc3 _ _ (by simp at hz2; omega), hc2 _ _ (by simp)]
            simp [go_sem]
          have HB : Hid (Below (w.heap.size + 1) (w.alloc (.cells #[.string l.name, .int .i64 l.pre, .slice (some ⟨g, off, none⟩) l.labs.length cap, .int .i64 l.min, .int .i64 l.cents] 45)) w3) := below_c (below_ac hB hsz hb2) (by have := hb2.size; simp at this; omega) hb3
          have HE : Hid (Below w.heap.size w w3) := below_c (below_ac hend (by omega) hb2) (by have := hb2.size; simp at this; omega) hb3
          clear hc2 hc3 hf2 hf3 hb2 hb3 hB hend b1 b2 c1 c2 hq hz2
          have hd1 : decide (0 < k) = true := by simpa using k0
          have hd2 : decide ((0 : Int) < (k : Int)) = true := by simp; omega
          have hw2 : 0 ≤ (k : Int) - 1 := by omega
          have hw3 : ((k : Int) - 1).toNat = k - 1 := by omega
          have hw4 : (k : Int) - 1 < (l.labs.length : Int) := by omega
          have hw5 : 1 ≤ k := by omega
          have hw6 : k - 1 < l.labs.length := by omega
          have hw1 : IntKind.i64.wrap ((k : Int) - 1) = (k : Int) - 1 := IntWalk.i64_in _ (by omega)
          cases hq : ltB q xp
          · rw [hq] at hle
            have HR := Lib.hid (HQ1.out hq)
            go_quiet (fail)
            clear hw1
            go_wp2_with fail
            go_ret
            exact ⟨ret_bool HR.out.symm, below_drewN HE.out _⟩
          · rw [hq] at hle
            have HR := Lib.hid (HQ2.out hq)
            go_quiet (fail)
            clear hw1
            go_wp2_with fail
            go_roundw
            case rel => exact ⟨k + 1, by omega, by go_num, HN'.out HR.out, below_drewN HB.out _⟩
            case measure => simp [intOf]; omega
        · have hd1 : decide (0 < k) = false := by simp; omega
          have hd2 : decide ((0 : Int) < (k : Int)) = false := by simp; omega
          go_wp2_with (first | (go_at_call 42; refine (isPlain_any _ _ x1).mono ?_; rintro e w2 ⟨rfl, hb2⟩; obtain ⟨hc2, hf2⟩ := bcell hb2; have hz2 := hb2.size) | (go_at_call 41; refine (isName_any _ _ x2).mono ?_; rintro e w3 ⟨rfl, hb3⟩; obtain ⟨hc3, hf3⟩ := bcell hb3))
          go_quiet (fail)
          go_wp2_with fail
          go_roundw
          case rel => exact ⟨k + 1, by omega, by go_num, HN'.out (fun j hj => by omega), below_drewN (below_c (below_ac hB hsz hb2) (by have := hb2.size; simp at this; omega) hb3) _⟩
          case measure => simp [intOf]; omega
    · have HR := Lib.hid (HT.out (by obtain rfl : k = l.labs.length := by omega
                                     exact ha.out))
      go_wp2_with fail
      go_ret
      exact ⟨ret_bool HR.out.symm, hend⟩
theorem isLevel_any (l : Lev) (v : Value) (last : Bool) (w : World) (hf : LevFits l) (hr : RdLabs w v l.labs) :
    Calls Try.prog 24 #[lvA l v, .bool last] w fun e w' => e = .returned (.bool (levelB l last)) ∧ Below w.heap.size w w' := by
  cases hh : headB l
  · exact isLevel_head l v last w hf hh
  · cases last
    · by_cases hm : l.min < 1 ∨ 2000 < l.min
      · exact isLevel_min l v w hf hh hm
      · exact isLevel_labs l v w hf hh (by omega) (by omega) hr
    · exact isLevel_last l v w hf hh (by obtain ⟨a, cap, h, _⟩ := hr; exact ⟨a, cap, h⟩)
end Go.Proofs.Ytdahgfopighhlaa
