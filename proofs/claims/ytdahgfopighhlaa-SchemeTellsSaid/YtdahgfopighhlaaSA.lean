/-
  Contracts of Find and Path.
-/
import Derived.Test.YtdahgfopighhlaaS9
import Derived.Maps.AppendAt
import Derived.Lib.SmallJoins
namespace Go.Proofs.Ytdahgfopighhlaa
open Go.RowKit Go.Maps
set_option linter.unusedVariables false
set_option maxRecDepth 100000
theorem Try.infoS : (Try.prog.info? 9).map (fun i => (i.zero, i.size, i.bytes)) = some (some (.string ⟨#[]⟩), 1, 16) := by kernel_rfl
open Classical in
noncomputable def findR (ls : List Lev) (i : Int) (c : ByteArray) : ByteArray × Int :=
  if rightB ls = true ∧ 0 ≤ i ∧ i < ls.length ∧ codeB c = true then
    match ls[i.toNat]? with
    | none => (⟨#[]⟩, 2)
    | some l => if (c.size : Int) < l.pre then (⟨#[]⟩, 6) else (grpOf l c, 0)
  else (⟨#[]⟩, 2)
noncomputable def pathR (ls : List Lev) (c : ByteArray) : List ByteArray × Int :=
  if rightB ls = true ∧ codeB c = true then
    match ls with
    | [] => ([], 2)
    | l :: _ => if (c.size : Int) < l.pre then ([], 6) else (ls.map (fun l => grpOf l c), 0)
  else ([], 2)
theorem codeB_size {c : ByteArray} (h : codeB c = true) : 1 ≤ c.size ∧ c.size ≤ 10 := by unfold codeB at h; simp at h; exact h.1
theorem right_len {ls : List Lev} (h : rightB ls = true) : 1 ≤ ls.length ∧ ls.length ≤ 6 := ⟨(rightB_iff.1 h).1, (rightB_iff.1 h).2.1⟩
theorem right_level {ls : List Lev} (h : rightB ls = true) (i : Nat) (hi : i < ls.length) : sortedB ls[i].labs ∧ (∀ x ∈ ls[i].labs, (x.pre.size : Int) = ls[i].pre) ∧ 0 ≤ ls[i].pre ∧ ls[i].pre ≤ 10 :=
  level_facts ((rightB_iff.1 h).2.2.1.2.1 i hi hi)
theorem right_mono {ls : List Lev} (h : rightB ls = true) (i : Nat) (hi : i < ls.length) : ls[i].pre ≤ (ls[0]'(by omega)).pre := by
  induction i with
  | zero => exact Int.le_refl _
  | succ i ih =>
    have := (rightB_iff.1 h).2.2.1.2.2.2 (i + 1) hi hi i rfl (by omega)
    have := ih (by omega)
    omega
theorem ret_pair {x : ByteArray} {n : Int} {b : ByteArray × Int} (h : b = (x, n)) : Ending.returned (.tuple #[.string x, .int .i64 n]) = .returned (.tuple #[.string b.1, .int .i64 b.2]) := by rw [h]
set_option maxHeartbeats 4000000 in
theorem find_any (ls : List Lev) (v : Value) (i : Int) (c : ByteArray) (w : World) (hr : RdLevs w v ls) (hf : ∀ l ∈ ls, LevFits l) (hl : ls.length ≤ maxLen) (hcs : c.size ≤ maxLen) :
    Calls Try.prog 19 #[v, .int .i64 i, .string c] w fun e w' => e = .returned (.tuple #[.string (findR ls i c).1, .int .i64 (findR ls i c).2]) ∧ Below w.heap.size w w' := by
  have HR := Lib.hid (fun W (h : Below w.heap.size w W) => right_any ls v W (hr.below h) hf hl)
  have HCD := Lib.hid (fun W => code_any c W hcs)
  have HRD := Lib.hid hr
  have HFT := Lib.hid hf
  obtain ⟨a, cap, rfl, hc⟩ := hr
  have HC := Lib.hid hc
  clear hc hf
  unfold maxLen at hl
  cases hri : rightB ls
  · have HE : Hid (findR ls i c = (⟨#[]⟩, 2)) := by unfold findR; rw [if_neg (by simp [hri])]; exact rfl
    rw [hri] at HR
    clear hri
    go_enter Try.func19, Try.ntmps19
    go_wp2_with (go_at_call 13; refine (HR.out _ (Below.refl _ _)).mono ?_; rintro e w1 ⟨rfl, hb1⟩)
    go_ret2
    exact ⟨ret_pair HE.out, hb1⟩
  · by_cases hi : 0 ≤ i ∧ i < ls.length
    · obtain ⟨hi0, hi1⟩ := hi
      cases hcd : codeB c
      · have HE : Hid (findR ls i c = (⟨#[]⟩, 2)) := by unfold findR; rw [if_neg (by simp [hcd])]; exact rfl
        rw [hri] at HR
        rw [hcd] at HCD
        clear hri hcd
        go_enter Try.func19, Try.ntmps19
        go_wp2_with (first | (go_at_call 13; refine (HR.out _ (Below.refl _ _)).mono ?_; rintro e w1 ⟨rfl, hb1⟩) | (go_at_call 28; refine (HCD.out _).mono ?_; rintro e w2 ⟨rfl, hb2⟩))
        go_ret2
        exact ⟨ret_pair HE.out, below_c hb1 hb1.size hb2⟩
      · obtain ⟨n, rfl⟩ : ∃ n : Nat, i = n := ⟨i.toNat, by omega⟩
        have hn : n < ls.length := by omega
        obtain ⟨r1, r2, r3, r4⟩ := right_level hri n hn
        have HE : Hid (findR ls n c = if (c.size : Int) < ls[n].pre then (⟨#[]⟩, 6) else (grpOf ls[n] c, 0)) := by
          unfold findR; rw [if_pos ⟨hri, hi0, hi1, hcd⟩]; simp only [Int.toNat_natCast]; rw [List.getElem?_eq_getElem hn]; exact rfl
        obtain ⟨g, off, rfl, hg, hcc⟩ := HC.out (by omega)
        obtain ⟨sv, hlab, hat⟩ := hcc n hn
        have HG : Hid (∀ W, Below w.heap.size w W → ls[n].pre ≤ c.size → Calls Try.prog 30 #[lvA ls[n] sv, .string c] W fun e w' => e = .returned (.string (grpOf ls[n] c)) ∧ Below w.heap.size w w') := fun W hW hp => by
          refine (group_any ls[n] c sv W (HFT.out _ (List.getElem_mem hn)) (hlab.below hW) r1 r3 hp hcs).mono ?_
          rintro e w' ⟨rfl, hb⟩
          exact ⟨rfl, below_c hW hW.size hb⟩
        obtain ⟨c1, c2⟩ := codeB_size hcd
        obtain ⟨t0, t1, t2, t3, t4⟩ := hat
        rw [hri] at HR
        rw [hcd] at HCD
        unfold lvA at HG
        clear hri hcd hcc HC HRD HFT hlab r1 r2 r3 r4 hi0 hi1
        obtain ⟨res, hres⟩ : ∃ r, findR ls n c = r := ⟨_, rfl⟩
        rw [hres] at HE
        have HRES := Lib.hid hres
        clear hres
        generalize grpOf ls[n] c = gr at HE HG
        generalize ls[n] = l at t0 t1 t2 t3 t4 HE HG
        by_cases hp : (c.size : Int) < l.pre
        · rw [if_pos hp] at HE
          go_enter Try.func19, Try.ntmps19
          go_wp2_with (first | (go_at_call 13; refine (HR.out _ (Below.refl _ _)).mono ?_; rintro e w1 ⟨rfl, hb1⟩) | (go_at_call 28; refine (HCD.out _).mono ?_; rintro e w2 ⟨rfl, hb2⟩; have hb := below_c hb1 hb1.size hb2; obtain ⟨hcc, hff⟩ := bcell hb))
          go_ret2
          exact ⟨ret_pair (HRES.out.trans HE.out), hb⟩
        · rw [if_neg hp] at HE
          go_enter Try.func19, Try.ntmps19
          go_wp2_with (first | (go_at_call 13; refine (HR.out _ (Below.refl _ _)).mono ?_; rintro e w1 ⟨rfl, hb1⟩) | (go_at_call 28; refine (HCD.out _).mono ?_; rintro e w2 ⟨rfl, hb2⟩; have hb := below_c hb1 hb1.size hb2; obtain ⟨hcc, hff⟩ := bcell hb) | (go_at_call 30; refine (HG.out _ hb (by omega)).mono ?_; rintro e w3 ⟨rfl, hb3⟩))
          go_ret2
          exact ⟨ret_pair (HRES.out.trans HE.out), hb3⟩
    · have HE : Hid (findR ls i c = (⟨#[]⟩, 2)) := by unfold findR; rw [if_neg (fun h => hi ⟨h.2.1, h.2.2.1⟩)]; exact rfl
      rw [hri] at HR
      have h' : i < 0 ∨ (0 ≤ i ∧ (ls.length : Int) ≤ i) := by omega
      clear hri hi
      rcases h' with h | ⟨h, h2⟩
      all_goals
        go_enter Try.func19, Try.ntmps19
        go_wp2_with (go_at_call 13; refine (HR.out _ (Below.refl _ _)).mono ?_; rintro e w1 ⟨rfl, hb1⟩)
        go_ret2
        exact ⟨ret_pair HE.out, hb1⟩
/-- A slice of texts of the call's own. -/
abbrev OwnsT (w : World) (base : Nat) (v : Value) (l : List ByteArray) : Prop := w.ownsRow base 9 1 v l.length (l.map Value.string)
theorem OwnsT.nil (w : World) (base : Nat) : OwnsT w base (.slice none 0 0) [] := World.ownsRow_nil _ _ _ _
set_option maxHeartbeats 4000000 in
theorem path_any (ls : List Lev) (v : Value) (c : ByteArray) (w : World) (hr : RdLevs w v ls) (hf : ∀ l ∈ ls, LevFits l) (hl : ls.length ≤ maxLen) (hcs : c.size ≤ maxLen) :
    Calls Try.prog 17 #[v, .string c] w fun e w' => ∃ v, e = .returned (.tuple #[v, .int .i64 (pathR ls c).2]) ∧ Below w.heap.size w w' ∧ OwnsT w' w.heap.size v (pathR ls c).1 := by
  have HR := Lib.hid (fun W (h : Below w.heap.size w W) => right_any ls v W (hr.below h) hf hl)
  have HCD := Lib.hid (fun W => code_any c W hcs)
  have HFT := Lib.hid hf
  obtain ⟨a, cap, rfl, hc⟩ := hr
  have HC := Lib.hid hc
  clear hc hf
  unfold maxLen at hl
  obtain ⟨res, hres⟩ : ∃ r, pathR ls c = r := ⟨_, rfl⟩
  rw [hres]
  cases hri : rightB ls
  · have HE : Hid (res = ([], 2)) := by rw [← hres]; unfold pathR; rw [if_neg (by simp [hri])]; exact rfl
    rw [hri] at HR
    clear hri hres
    go_enter Try.func17, Try.ntmps17
    go_wp2_with (go_at_call 13; refine (HR.out _ (Below.refl _ _)).mono ?_; rintro e w1 ⟨rfl, hb1⟩)
    go_ret2
    rw [HE.out]
    exact ⟨_, rfl, hb1, OwnsT.nil _ _⟩
  · obtain ⟨hl1, hl6⟩ := right_len hri
    cases hcd : codeB c
    · have HE : Hid (res = ([], 2)) := by rw [← hres]; unfold pathR; rw [if_neg (by simp [hcd])]; exact rfl
      rw [hri] at HR
      rw [hcd] at HCD
      clear hri hcd hres
      go_enter Try.func17, Try.ntmps17
      go_wp2_with (first | (go_at_call 13; refine (HR.out _ (Below.refl _ _)).mono ?_; rintro e w1 ⟨rfl, hb1⟩) | (go_at_call 28; refine (HCD.out _).mono ?_; rintro e w2 ⟨rfl, hb2⟩))
      go_ret2
      rw [HE.out]
      exact ⟨_, rfl, below_c hb1 hb1.size hb2, OwnsT.nil _ _⟩
    · have HE : Hid (res = if (c.size : Int) < (ls[0]'(by omega)).pre then ([], 6) else (ls.map (fun l => grpOf l c), 0)) := by
        rw [← hres]; unfold pathR; rw [if_pos ⟨hri, hcd⟩]
        cases ls with
        | nil => simp at hl1
        | cons l r => exact rfl
      obtain ⟨g, off, rfl, hg, hcc⟩ := HC.out (by omega)
      have HC2 := Lib.hid hcc
      have HLV := Lib.hid (right_level hri)
      have HMO := Lib.hid (right_mono hri)
      obtain ⟨sv0, _, hat0⟩ := hcc 0 (by omega)
      obtain ⟨t0, t1, t2, t3, t4⟩ := hat0
      obtain ⟨c1, c2⟩ := codeB_size hcd
      rw [hri] at HR
      rw [hcd] at HCD
      clear hri hcd hcc HC hres
      obtain ⟨p0, hp0⟩ : ∃ p, (ls[0]'(by omega)).pre = p := ⟨_, rfl⟩
      rw [hp0] at t1 HE
      have HP0 := Lib.hid hp0
      clear hp0 t0 t2 t3 t4
      rw [Nat.zero_mul, Nat.add_zero] at t1
      by_cases hp : (c.size : Int) < p0
      · rw [if_pos hp] at HE
        go_enter Try.func17, Try.ntmps17
        go_wp2_with (first | (go_at_call 13; refine (HR.out _ (Below.refl _ _)).mono ?_; rintro e w1 ⟨rfl, hb1⟩) | (go_at_call 28; refine (HCD.out _).mono ?_; rintro e w2 ⟨rfl, hb2⟩; have hb := below_c hb1 hb1.size hb2; obtain ⟨hcc, hff⟩ := bcell hb))
        go_ret2
        rw [HE.out]
        exact ⟨_, rfl, hb, OwnsT.nil _ _⟩
      · rw [if_neg hp] at HE
        obtain ⟨i0, hi⟩ := info_parts Try.infoS
        have HI := Lib.hid hi
        clear hi
        go_enter Try.func17, Try.ntmps17
        go_wp2_with (first | (go_at_call 13; refine (HR.out _ (Below.refl _ _)).mono ?_; rintro e w1 ⟨rfl, hb1⟩) | (go_at_call 28; refine (HCD.out _).mono ?_; rintro e w2 ⟨rfl, hb2⟩; have hb := below_c hb1 hb1.size hb2; obtain ⟨hcc, hff⟩ := bcell hb))
        go_loopw [6, 26] (fun v i wr => ∃ k : Nat, k ≤ ls.length ∧ i = .int .i64 k ∧ Below w.heap.size w wr ∧ OwnsT wr w.heap.size v ((ls.take k).map (fun l => grpOf l c))) (fun _ i _ => ls.length - (intOf i).toNat)
        case atStart => exact ⟨0, Nat.zero_le _, rfl, hb, OwnsT.nil _ _⟩
        case round =>
          clear hcc hff hb hb1 hb2 t1
          obtain ⟨k, hk, rfl, hB, hown⟩ := hrel
          by_cases hlt : k < ls.length
          · obtain ⟨sv, hlab, hat⟩ := HC2.out k hlt
            obtain ⟨r1, r2, r3, r4⟩ := HLV.out k hlt
            have hpk : ls[k].pre ≤ c.size := by have := HMO.out k hlt; have := HP0.out; omega
            have HG : Hid (∀ W, Below w.heap.size w W → Calls Try.prog 30 #[lvA ls[k] sv, .string c] W fun e w' => e = .returned (.string (grpOf ls[k] c)) ∧ Below W.heap.size W w') := fun W hW => by
              exact (group_any ls[k] c sv W (HFT.out _ (List.getElem_mem hlt)) (hlab.below hW) r1 r3 hpk hcs)
            obtain ⟨la, lc, rfl, _⟩ := hlab
            obtain ⟨t0, t1, t2, t3, t4⟩ := hat.below hB hg
            have HN : Hid ((ls.take (k + 1)).map (fun l => grpOf l c) = (ls.take k).map (fun l => grpOf l c) ++ [grpOf ls[k] c]) := by rw [List.take_succ_eq_append_getElem hlt, List.map_append]; exact rfl
            have hlen : ((ls.take k).map (fun l => grpOf l c)).length = k := by simp; omega
            have hlen' : ((ls.take k).map (fun l => grpOf l c)).length ≤ 6 := by omega
            clear hlen HC2 HLV HMO HP0 HFT hat r1 r2 r3 r4 hpk HE
            unfold lvA at HG
            generalize grpOf ls[k] c = gr at HG HN
            generalize ls[k] = l at t0 t1 t2 t3 t4 HG
            generalize (ls.take k).map (fun l => grpOf l c) = acc at hown HN hlen'
            have hgr : g < wr.heap.size := Nat.lt_of_lt_of_le hg hB.size
            go_wp2_with (first
              | (go_at_call 30; refine (HG.out _ (hB.alloc hB.size _)).mono ?_; rintro e w3 ⟨rfl, hb3⟩; have hown3 := (hown.alloc (.cells #[.string l.name, .int .i64 l.pre, .slice la l.labs.length lc, .int .i64 l.min, .int .i64 l.cents] 45)).kept (grown_none hb3) (Classical.em _); have hB3 := below_ac hB hB.size hb3)
              | (at_builtin; refine wpList_append_own _ rfl _ _ 27 rfl w.heap.size 9 i0 (.string ⟨#[]⟩) 1 16 Try.underlying27 HI.out.1 HI.out.2.1 HI.out.2.2.1 HI.out.2.2.2 rfl (by decide) _ _ _ rfl (hown3.alloc _) ⟨w3.heap.size, 0, none⟩ 1 1 [.string gr] rfl rfl (cell_one_new _ _ _) (by simp [Value.oneCell']) (by unfold maxLen; omega) (by omega) (by have := hB3.size; simp; omega) ?_; intro v' w4 hown' hgrow _; have hb4 : Below w.heap.size w w4 := (hB3.alloc hB3.size _).grown hgrow (by have := hB3.size; simp; omega) (fun r e => (hown3.lt r e).1)))
            go_roundw
            case rel => exact ⟨k + 1, by omega, by go_num, hb4, by rw [HN.out]; unfold OwnsT; rw [List.map_append, List.length_append]; exact hown'⟩
            case measure => simp [intOf]; omega
          · have hke : k = ls.length := by omega
            have HK : Hid (OwnsT wr w.heap.size u6 (ls.map (fun l => grpOf l c))) := by
              have := hown
              rw [hke, List.take_of_length_le (Nat.le_refl _)] at this
              exact this
            clear hown hke
            go_wp2_with fail
            go_ret2
            rw [HE.out]
            exact ⟨_, rfl, hB, HK.out⟩
end Go.Proofs.Ytdahgfopighhlaa
