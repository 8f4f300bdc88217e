/-
  The reference of layer 23: Find, Path.
-/
import Derived.Test.YtdahgfopighhlaaU4
namespace Go.Proofs.Ytdahgfopighhlaa
open Go.RowKit Go.Sort
set_option linter.unusedVariables false
set_option maxRecDepth 100000
set_option maxHeartbeats 4000000 in
theorem rFind_any (ls : List Lev) (v : Value) (i : Int) (c : ByteArray) (w : World) (hr : RdLevs w v ls) (hf : ∀ l ∈ ls, LevFits l) (hl : ls.length ≤ maxLen) (hcs : c.size ≤ maxLen) :
    Calls Try.prog 36 #[v, .int .i64 i, .string c] w fun e w' => e = .returned (.tuple #[.string (findR ls i c).1, .int .i64 (findR ls i c).2]) ∧ Below w.heap.size w w' := by
  have HR := Lib.hid (fun W (h : Below w.heap.size w W) => rRight_any ls v W (hr.below h) hf hl)
  have HCD := Lib.hid (fun W => rCode_any c W hcs)
  have HRD := Lib.hid hr
  have HFT := Lib.hid hf
  obtain ⟨a, cap, rfl, hc⟩ := hr
  have HC := Lib.hid hc
  clear hc hf
  unfold maxLen at hl
  cases hri : rightB ls
  · have HE : Hid (findR ls i c = (⟨#[]⟩, 2)) := by unfold findR; rw [if_neg (by simp [hri])]; exact rfl
    rw [hri] at HR
    clear hri
    go_enter Try.func36, Try.ntmps36
    go_wp2_with (go_at_call 38; refine (HR.out _ (Below.refl _ _)).mono ?_; rintro e w1 ⟨rfl, hb1⟩)
    go_ret2
    exact ⟨ret_pair HE.out, hb1⟩
  · by_cases hi : 0 ≤ i ∧ i < ls.length
    · obtain ⟨hi0, hi1⟩ := hi
      cases hcd : codeB c
      · have HE : Hid (findR ls i c = (⟨#[]⟩, 2)) := by unfold findR; rw [if_neg (by simp [hcd])]; exact rfl
        rw [hri] at HR
        rw [hcd] at HCD
        clear hri hcd
        go_enter Try.func36, Try.ntmps36
        go_wp2_with (first | (go_at_call 38; refine (HR.out _ (Below.refl _ _)).mono ?_; rintro e w1 ⟨rfl, hb1⟩) | (go_at_call 37; refine (HCD.out _).mono ?_; rintro e w2 ⟨rfl, rfl⟩))
        go_ret2
        exact ⟨ret_pair HE.out, hb1⟩
      · obtain ⟨n, rfl⟩ : ∃ n : Nat, i = n := ⟨i.toNat, by omega⟩
        have hn : n < ls.length := by omega
        obtain ⟨r1, r2, r3, r4⟩ := right_level hri n hn
        have HE : Hid (findR ls n c = if (c.size : Int) < ls[n].pre then (⟨#[]⟩, 6) else (grpOf ls[n] c, 0)) := by
          unfold findR; rw [if_pos ⟨hri, hi0, hi1, hcd⟩]; simp only [Int.toNat_natCast]; rw [List.getElem?_eq_getElem hn]; exact rfl
        obtain ⟨g, off, rfl, hg, hcc⟩ := HC.out (by omega)
        obtain ⟨sv, hlab, hat⟩ := hcc n hn
        obtain ⟨np, hnp⟩ : ∃ np : Nat, ls[n].pre = np := ⟨ls[n].pre.toNat, by omega⟩
        have HG : Hid (∀ W, Below w.heap.size w W → Calls Try.prog 51 #[lvA ls[n] sv, .string (c.extract 0 np)] W fun e w' => e = .returned (.string (grpOf ls[n] c)) ∧ Below W.heap.size W w') := fun W hW => by
          have := rGroup_any ls[n] sv (c.extract 0 np) W (HFT.out _ (List.getElem_mem hn)).2.1 (hlab.below hW)
          have e : grpOf ls[n] c = refGrp ls[n] (c.extract 0 np) := by rw [show np = ls[n].pre.toNat by omega]; rfl
          rw [e]; exact this
        obtain ⟨c1, c2⟩ := codeB_size hcd
        obtain ⟨t0, t1, t2, t3, t4⟩ := hat
        rw [hri] at HR
        rw [hcd] at HCD
        unfold lvA at HG
        clear hri hcd hcc HC HRD HFT hlab r1 r2 r3 r4 hi0 hi1
        obtain ⟨res, hres⟩ : ∃ r, findR ls n c = r := ⟨_, rfl⟩
        rw [hres] at HE
        have HRES := Lib.hid hres
        clear hres
        generalize grpOf ls[n] c = gr at HE HG
        generalize ls[n] = l at t0 t1 t2 t3 t4 HE HG hnp
        by_cases hp : (c.size : Int) < l.pre
        · rw [if_pos hp] at HE
          go_enter Try.func36, Try.ntmps36
          go_wp2_with (first | (go_at_call 38; refine (HR.out _ (Below.refl _ _)).mono ?_; rintro e w1 ⟨rfl, hb1⟩) | (go_at_call 37; refine (HCD.out _).mono ?_; rintro e w2 ⟨rfl, rfl⟩; obtain ⟨hcc, hff⟩ := bcell hb1))
          go_ret2
          exact ⟨ret_pair (HRES.out.trans HE.out), hb1⟩
        · rw [if_neg hp] at HE
          have hpn : (np : Int) ≤ (c.size : Int) := by omega
          have hpn2 : np ≤ c.size := by omega
          have hpd : decide ((c.size : Int) < l.pre) = false := decide_eq_false hp
          rw [hnp] at t1 hpd
          have HNP := Lib.hid hnp
          clear hp hnp
          go_enter Try.func36, Try.ntmps36
          go_wp2_with (first | (go_at_call 38; refine (HR.out _ (Below.refl _ _)).mono ?_; rintro e w1 ⟨rfl, hb1⟩) | (go_at_call 37; refine (HCD.out _).mono ?_; rintro e w2 ⟨rfl, rfl⟩; obtain ⟨hcc, hff⟩ := bcell hb1))
          have CG : Hid (∀ W, Below w1.heap.size w1 W → Calls Try.prog 51 #[.agg #[.string l.name, .int .i64 (np : Nat), sv, .int .i64 l.min, .int .i64 l.cents], .string (c.extract 0 np)] W fun e w' => e = .returned (.string gr) ∧ Below W.heap.size W w') := fun W hW => by
            have := HG.out W (hb1.trans (hW.mono hb1.size))
            rw [HNP.out] at this; exact this
          have s0 := cells_in ((hb1.cell (p := ⟨g, off + n * 5, none⟩) hg).trans t0)
          have s1 := cells_in ((hb1.cell (p := ⟨g, off + n * 5 + 1, none⟩) hg).trans t1)
          have s2 := cells_in ((hb1.cell (p := ⟨g, off + n * 5 + 2, none⟩) hg).trans t2)
          have s3 := cells_in ((hb1.cell (p := ⟨g, off + n * 5 + 3, none⟩) hg).trans t3)
          have s4 := cells_in ((hb1.cell (p := ⟨g, off + n * 5 + 4, none⟩) hg).trans t4)
          refine wp_region_quiet_below (by kernel_rfl) (by kernel_rfl) ?_
          repeat (go_big_quiet_step ((with_reducible exact regrown_in CG.out _)))
          refine wpQuiet_nil ?_
          intro _ hw'
          obtain ⟨pp, hw''⟩ := hw'
          subst hw''
          go_wp2_with fail
          go_ret2
          exact ⟨ret_pair (HRES.out.trans HE.out), hb1.trans ((below_in w1 pp).mono hb1.size)⟩
    · have HE : Hid (findR ls i c = (⟨#[]⟩, 2)) := by unfold findR; rw [if_neg (fun h => hi ⟨h.2.1, h.2.2.1⟩)]; exact rfl
      rw [hri] at HR
      have h' : i < 0 ∨ (0 ≤ i ∧ (ls.length : Int) ≤ i) := by omega
      clear hri hi
      rcases h' with h | ⟨h, h2⟩
      all_goals
        go_enter Try.func36, Try.ntmps36
        go_wp2_with (go_at_call 38; refine (HR.out _ (Below.refl _ _)).mono ?_; rintro e w1 ⟨rfl, hb1⟩)
        go_ret2
        exact ⟨ret_pair HE.out, hb1⟩
theorem find_cases {ls : List Lev} (hr : rightB ls = true) (c : ByteArray) (k : Nat) (hk : k < ls.length) :
    (codeB c = false ∧ findR ls k c = (⟨#[]⟩, 2)) ∨ (codeB c = true ∧ (c.size : Int) < ls[k].pre ∧ findR ls k c = (⟨#[]⟩, 6)) ∨ (codeB c = true ∧ ¬ (c.size : Int) < ls[k].pre ∧ findR ls k c = (grpOf ls[k] c, 0)) := by
  cases hc : codeB c
  · exact .inl ⟨rfl, by unfold findR; rw [if_neg (by simp [hc])]⟩
  · right
    have e : findR ls k c = if (c.size : Int) < ls[k].pre then (⟨#[]⟩, 6) else (grpOf ls[k] c, 0) := by
      unfold findR; rw [if_pos ⟨hr, by omega, by omega, hc⟩]; simp only [Int.toNat_natCast]; rw [List.getElem?_eq_getElem hk]
    by_cases hp : (c.size : Int) < ls[k].pre
    · exact .inl ⟨rfl, hp, by rw [e, if_pos hp]⟩
    · exact .inr ⟨rfl, hp, by rw [e, if_neg hp]⟩
theorem pathR_eq {ls : List Lev} (hr : rightB ls = true) {c : ByteArray} (hc : codeB c = true) : pathR ls c = if (c.size : Int) < (ls[0]'(by have := right_len hr; omega)).pre then ([], 6) else (ls.map (fun l => grpOf l c), 0) := by
  have h1 := (right_len hr).1
  unfold pathR
  rw [if_pos ⟨hr, hc⟩]
  cases ls with
  | nil => simp at h1
  | cons l r => rfl
theorem path_bad {ls : List Lev} (hr : rightB ls = true) (c : ByteArray) (k : Nat) (hk : k < ls.length) (he : (findR ls k c).2 ≠ 0) : pathR ls c = ([], (findR ls k c).2) := by
  rcases find_cases hr c k hk with ⟨h1, h2⟩ | ⟨h1, h2, h3⟩ | ⟨h1, h2, h3⟩
  · rw [h2]
    unfold pathR
    rw [if_neg (by simp [h1])]
  · rw [h3, pathR_eq hr h1, if_pos (by have := right_mono hr k hk; omega)]
  · rw [h3] at he; exact absurd rfl he
theorem path_step {ls : List Lev} (hr : rightB ls = true) (c : ByteArray) (k : Nat) (hk : k < ls.length) (he : (findR ls k c).2 = 0) : (findR ls k c).1 = grpOf ls[k] c := by
  rcases find_cases hr c k hk with ⟨h1, h2⟩ | ⟨h1, h2, h3⟩ | ⟨h1, h2, h3⟩
  · rw [h2] at he; simp at he
  · rw [h3] at he; simp at he
  · rw [h3]
theorem path_good {ls : List Lev} (hr : rightB ls = true) (c : ByteArray) (he : (findR ls (0 : Nat) c).2 = 0) : pathR ls c = (ls.map (fun l => grpOf l c), 0) := by
  have h1 := (right_len hr).1
  rcases find_cases hr c 0 h1 with ⟨h1, h2⟩ | ⟨h1, h2, h3⟩ | ⟨h1, h2, h3⟩
  · rw [h2] at he; simp at he
  · rw [h3] at he; simp at he
  · rw [pathR_eq hr h1, if_neg h2]
set_option maxHeartbeats 8000000 in
theorem rPath_any (ls : List Lev) (v : Value) (c : ByteArray) (w : World) (hr : RdLevs w v ls) (hf : ∀ l ∈ ls, LevFits l) (hl : ls.length ≤ maxLen) (hcs : c.size ≤ maxLen) :
    Calls Try.prog 39 #[v, .string c] w fun e w' => ∃ v, e = .returned (.tuple #[v, .int .i64 (pathR ls c).2]) ∧ Below w.heap.size w w' ∧ OwnsT w' w.heap.size v (pathR ls c).1 := by
  have HR := Lib.hid (rRight_any ls v w hr hf hl)
  have HFD : Hid (∀ W (i : Int), Below w.heap.size w W → Calls Try.prog 36 #[v, .int .i64 i, .string c] W fun e w' => e = .returned (.tuple #[.string (findR ls i c).1, .int .i64 (findR ls i c).2]) ∧ Below W.heap.size W w') := fun W i hW => rFind_any ls v i c W (hr.below hW) hf hl hcs
  obtain ⟨a, cap, rfl, hc⟩ := hr
  clear hc hf hcs
  obtain ⟨res, hres⟩ : ∃ r, pathR ls c = r := ⟨_, rfl⟩
  rw [hres]
  cases hri : rightB ls
  · have HE : Hid (res = ([], 2)) := by show res = _; rw [← hres]; unfold pathR; rw [if_neg (by simp [hri])]
    rw [hri] at HR
    clear hri hres HFD
    go_enter Try.func39, Try.ntmps39
    go_wp2_with fail
    refine HR.out.mono ?_
    rintro e w1 ⟨rfl, hb1⟩
    go_wp2_with fail
    go_ret2
    rw [HE.out]
    exact ⟨_, rfl, hb1, OwnsT.nil _ _⟩
  · rw [hri] at HR
    obtain ⟨i0, hi⟩ := info_parts Try.infoS
    have HI := Lib.hid hi
    have h6 := right_len hri
    obtain ⟨n1, n6⟩ := h6
    have HBAD : Hid (∀ k, k < ls.length → (findR ls k c).2 ≠ 0 → res = ([], (findR ls k c).2)) := fun k hk he => by rw [← hres]; exact path_bad hri c k hk he
    have HSTEP : Hid (∀ k (hk : k < ls.length), (findR ls k c).2 = 0 → (ls.take (k + 1)).map (fun l => grpOf l c) = (ls.take k).map (fun l => grpOf l c) ++ [(findR ls k c).1]) := fun k hk he => by
      rw [path_step hri c k hk he, List.take_succ_eq_append_getElem hk, List.map_append]; rfl
    have HGOOD : Hid ((findR ls (0 : Nat) c).2 = 0 → res = (ls.map (fun l => grpOf l c), 0)) := fun he => by rw [← hres]; exact path_good hri c he
    clear hi hri hres
    go_enter Try.func39, Try.ntmps39
    go_wp2_with fail
    refine HR.out.mono ?_
    rintro e w1 ⟨rfl, hb1⟩
    have HB1 := Lib.hid hb1
    clear hb1 HR
    go_wp2_with fail
    go_loopw [6, 7] (fun v i wr => ∃ k : Nat, k ≤ ls.length ∧ i = .int .i64 k ∧ Hid (Below w.heap.size w wr) ∧ OwnsT wr w.heap.size v ((ls.take k).map (fun l => grpOf l c)) ∧ Hid (0 < k → (findR ls (0 : Nat) c).2 = 0)) (fun _ i _ => ls.length - (intOf i).toNat)
    case atStart => exact ⟨0, Nat.zero_le _, rfl, HB1.out, OwnsT.nil _ _, fun h => by omega⟩
    case round =>
      obtain ⟨k, hk, rfl, HB, hown, HZ⟩ := hrel
      by_cases hlt : k < ls.length
      · have hd : decide ((k : Int) < (ls.length : Int)) = true := decide_eq_true (by omega)
        have HFK := Lib.hid (HFD.out wr k HB.out)
        have HBK := Lib.hid (HBAD.out k hlt)
        have HSK := Lib.hid (HSTEP.out k hlt)
        have HZK : Hid ((findR ls k c).2 = 0 → 0 < k + 1 → (findR ls (0 : Nat) c).2 = 0) := fun h _ => by
          by_cases k0 : 0 < k
          · exact HZ.out k0
          · obtain rfl : k = 0 := by omega
            exact h
        have hlen : ((ls.take k).map (fun l => grpOf l c)).length ≤ 6 := by simp; omega
        clear HFD HBAD HSTEP HZ HGOOD
        generalize (findR ls k c).2 = er at HFK HBK HSK HZK
        generalize (findR ls k c).1 = gr at HFK HSK
        generalize (ls.take k).map (fun l => grpOf l c) = acc at hown HSK hlen
        by_cases he : er = 0
        · have e1 : (er != 0) = false := by simp [he]
          have HN := Lib.hid (HSK.out he)
          have HZ := Lib.hid (HZK.out he)
          unfold OwnsT at hown
          clear HBK HSK HZK he
          go_wp2_with (first
            | (go_at_call 36; refine HFK.out.mono ?_; rintro e w3 ⟨rfl, hb3⟩; have hown3 := hown.kept (grown_none hb3) (Classical.em _); have HB3 := Lib.hid (HB.out.trans (hb3.mono HB.out.size)); clear hb3 hown)
            | (at_builtin; refine wpList_append_own _ rfl _ _ 27 rfl w.heap.size 9 i0 (.string ⟨#[]⟩) 1 16 Try.underlying27 HI.out.1 HI.out.2.1 HI.out.2.2.1 HI.out.2.2.2 rfl (by decide) _ _ _ rfl (hown3.alloc _) ⟨w3.heap.size, 0, none⟩ 1 1 [.string gr] rfl rfl (cell_one_new _ _ _) (by simp [Value.oneCell']) (by unfold maxLen; omega) (by omega) (by have := HB3.out.size; simp; omega) ?_; intro v4 w4 hown4 hgrow4 _))
          have hb4 : Below w.heap.size w w4 := (HB3.out.alloc HB3.out.size _).grown hgrow4 (by have := HB3.out.size; simp; omega) (fun r e => (hown3.lt r e).1)
          have HO : Hid (OwnsT w4 w.heap.size v4 ((ls.take (k + 1)).map (fun l => grpOf l c))) := by
            show w4.ownsRow _ _ _ _ _ _
            rw [HN.out, List.length_append, List.map_append, List.length_singleton, List.map_singleton]
            exact hown4
          have HB4 := Lib.hid hb4
          clear hgrow4 hown4 hown3 hb4
          go_roundw
          case rel => exact ⟨k + 1, by omega, by go_num, HB4.out, HO.out, HZ.out⟩
          case measure => simp [intOf]; omega
        · have e1 : (er != 0) = true := by simpa using he
          have HE := Lib.hid (HBK.out he)
          clear HBK HSK HZK he hown
          go_wp2_with fail
          refine HFK.out.mono ?_
          rintro e w3 ⟨rfl, hb3⟩
          have HB3 := Lib.hid (HB.out.trans (hb3.mono HB.out.size))
          clear hb3
          go_wp2_with fail
          go_ret2
          rw [HE.out]
          exact ⟨_, rfl, HB3.out, OwnsT.nil _ _⟩
      · obtain rfl : k = ls.length := by omega
        have HE := Lib.hid (HGOOD.out (HZ.out (by omega)))
        rw [List.take_of_length_le (Nat.le_refl _)] at hown
        have HO := Lib.hid hown
        clear hown
        go_wp2_with fail
        go_ret2
        rw [HE.out]
        exact ⟨_, rfl, HB.out, HO.out⟩
end Go.Proofs.Ytdahgfopighhlaa
