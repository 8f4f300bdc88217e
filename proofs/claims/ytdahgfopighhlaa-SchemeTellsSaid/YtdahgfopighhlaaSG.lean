/-
  Contract of Groups: every input.
-/
import Derived.Test.YtdahgfopighhlaaSF
namespace Go.Proofs.Ytdahgfopighhlaa
open Go.RowKit
set_option linter.unusedVariables false
set_option maxRecDepth 100000
def shortB (ls : List Lev) (c : ByteArray) : Bool := match ls with | [] => false | l :: _ => decide ((c.size : Int) < l.pre)
open Classical in
noncomputable def groupsR (ls : List Lev) (cs : List ByteArray) : List Grp × Int :=
  if 2000 < cs.length then ([], 5) else if rightB ls = true ∧ (∀ c ∈ cs, codeB c = true) then (if cs.any (shortB ls) then ([], 6) else ((gTo ls cs ls.length).1, 0)) else ([], 2)
theorem shortB_eq {ls : List Lev} (h : 0 < ls.length) (c : ByteArray) : shortB ls c = decide ((c.size : Int) < ls[0].pre) := by
  cases ls with
  | nil => simp at h
  | cons l r => rfl
set_option maxHeartbeats 4000000 in
theorem groups_any (ls : List Lev) (v vc : Value) (cs : List ByteArray) (w : World) (hr : RdLevs w v ls) (hf : ∀ l ∈ ls, LevFits l) (hl : ls.length ≤ maxLen) (hrc : ReadsT w vc cs) (hcl : cs.length ≤ maxLen) (hcz : ∀ c ∈ cs, c.size ≤ maxLen) :
    Calls Try.prog 14 #[v, vc] w (GroupsPost ls cs w (groupsR ls cs).1 (groupsR ls cs).2) := by
  unfold maxLen at hcl hl
  by_cases h2 : 2000 < cs.length
  · have e : groupsR ls cs = ([], 5) := by unfold groupsR; rw [if_pos h2]
    rw [e]
    obtain ⟨a, cap, rfl, _⟩ := hr
    obtain ⟨ac, capc, rfl, _⟩ := hrc
    clear e hf hcz
    go_enter Try.func14, Try.ntmps14
    go_wp2_with fail
    go_ret2
    exact ⟨_, rfl, (Below.refl _ w).alloc (Nat.le_refl _) _, OwnsG.nil _ _⟩
  · cases hri : rightB ls
    · have e : groupsR ls cs = ([], 2) := by unfold groupsR; rw [if_neg h2, if_neg (by simp [hri])]
      rw [e]
      have HR := Lib.hid (fun W (h : Below w.heap.size w W) => right_any ls v W (hr.below h) hf hl)
      rw [hri] at HR
      obtain ⟨a, cap, rfl, _⟩ := hr
      obtain ⟨ac, capc, rfl, _⟩ := hrc
      clear e hf hcz hri
      go_enter Try.func14, Try.ntmps14
      go_wp2_with (go_at_call 13; refine (HR.out _ ((Below.refl _ w).alloc (Nat.le_refl _) _)).mono ?_; rintro e w1 ⟨rfl, hb1⟩)
      go_ret2
      exact ⟨_, rfl, below_ac (Below.refl _ w) (Nat.le_refl _) hb1, OwnsG.nil _ _⟩
    · obtain ⟨hl1, hl6⟩ := right_len hri
      have HR := Lib.hid (fun W (h : Below w.heap.size w W) => right_any ls v W (hr.below h) hf hl)
      rw [hri] at HR
      have HC1 : Hid (∀ W, Below w.heap.size w W → Calls Try.prog 26 #[vc, .func (.func 27) #[] #[]] W fun e w' => e = .returned (.bool (cs.any (fun c => !codeB c))) ∧ Below W.heap.size W w') := fun W hW =>
        contains1_any cs vc (fun c => !codeB c) W (hrc.below hW) (by omega) (fun W' _ s hs => groups1_any s W' (hcz s hs))
      by_cases hco : ∀ c ∈ cs, codeB c = true
      · cases hsh : cs.any (shortB ls)
        · have e : groupsR ls cs = ((gTo ls cs ls.length).1, 0) := by unfold groupsR; rw [if_neg h2, if_pos ⟨hri, hco⟩, hsh]; rfl
          rw [e]
          refine groups_main ls v vc cs w hr hf hri hrc (by omega) hco (fun c hc h => ?_)
          rw [List.any_eq_false] at hsh
          have := hsh c hc
          rw [shortB_eq h] at this
          simpa using this
        · have e : groupsR ls cs = ([], 6) := by unfold groupsR; rw [if_neg h2, if_pos ⟨hri, hco⟩, hsh]; rfl
          rw [e]
          have hany : cs.any (fun c => !codeB c) = false := by
            rw [List.any_eq_false]
            intro c hc
            rw [hco c hc]; simp
          rw [hany] at HC1
          obtain ⟨a, cap, rfl, hc⟩ := hr
          obtain ⟨g, off, rfl, hg, hcc⟩ := hc (by omega)
          obtain ⟨sv0, _, hat0⟩ := hcc 0 (by omega)
          have hp0 : w.cell? ⟨g, off + 1, none⟩ = some (.int .i64 (ls[0]'(by omega)).pre) := by simpa using hat0.2.1
          have HC2 : Hid (∀ W, Below w.heap.size w W → W.cell? ⟨w.heap.size, 0, none⟩ = some (.slice (some ⟨g, off, none⟩) ls.length cap) → w.heap.size < W.heap.size → Calls Try.prog 26 #[vc, .func (.func 29) #[] #[.pointer (some ⟨w.heap.size, 0, none⟩)]] W fun e w' => e = .returned (.bool true) ∧ Below W.heap.size W w') := fun W hW hx hz => by
            refine (contains2_any cs vc w.heap.size (shortB ls) W (hrc.below hW) (by omega) (fun W' hW' s hs => ?_)).mono ?_
            · refine (groups2_any s g off ls.length cap w.heap.size (ls[0]'(by omega)).pre W' ((hW'.cell (p := ⟨w.heap.size, 0, none⟩) hz).trans hx) (by omega) (by omega) (((hW'.cell (p := ⟨g, off + 1, none⟩) (by have := hW.size; show g < _; omega)).trans (hW.cell (p := ⟨g, off + 1, none⟩) hg)).trans hp0) (hcz s hs)).mono ?_
              rintro e w' ⟨rfl, rfl⟩
              exact ⟨ret_bool (shortB_eq (by omega) s).symm, Below.refl _ _⟩
            · rintro e w' ⟨rfl, hb⟩
              exact ⟨ret_bool hsh, hb⟩
          obtain ⟨ac, capc, rfl, _⟩ := hrc
          clear e hf hcz hri hco hsh hany hcc hat0 hp0 hc
          go_enter Try.func14, Try.ntmps14
          go_wp2_with (first
            | (go_at_call 13; refine (HR.out _ ((Below.refl _ w).alloc (Nat.le_refl _) _)).mono ?_; rintro e w1 ⟨rfl, hb1⟩; have hB1 := below_ac (Below.refl _ w) (Nat.le_refl _) hb1; have hx1 : w1.cell? ⟨w.heap.size, 0, none⟩ = some (.slice (some ⟨g, off, none⟩) ls.length cap) := (hb1.cell (p := ⟨w.heap.size, 0, none⟩) (by simp)).trans (by simp [go_sem]); have hz1 : w.heap.size < w1.heap.size := Nat.lt_of_lt_of_le (by simp) hb1.size; clear hb1)
            | (go_at_call 26; refine (HC1.out _ hB1).mono ?_; rintro e w2 ⟨rfl, hb2⟩; replace hx1 := (hb2.cell (p := ⟨w.heap.size, 0, none⟩) hz1).trans hx1; replace hB1 := below_c hB1 hB1.size hb2; replace hz1 := Nat.lt_of_lt_of_le hz1 hb2.size; clear hb2 HC1)
            | (go_at_call 26; refine (HC2.out _ hB1 hx1 hz1).mono ?_; rintro e w3 ⟨rfl, hb3⟩; replace hB1 := below_c hB1 hB1.size hb3; clear hb3))
          go_ret2
          exact ⟨_, rfl, hB1, OwnsG.nil _ _⟩
      · have e : groupsR ls cs = ([], 2) := by unfold groupsR; rw [if_neg h2, if_neg (fun h => hco h.2)]
        rw [e]
        have hany : cs.any (fun c => !codeB c) = true := by
          rw [List.any_eq_true]
          obtain ⟨c, hc⟩ := Classical.not_forall.1 hco
          obtain ⟨hc1, hc2⟩ := Classical.not_imp.1 hc
          exact ⟨c, hc1, by simpa using hc2⟩
        rw [hany] at HC1
        obtain ⟨a, cap, rfl, _⟩ := hr
        obtain ⟨ac, capc, rfl, _⟩ := hrc
        clear e hf hcz hri hco hany
        go_enter Try.func14, Try.ntmps14
        go_wp2_with (first
          | (go_at_call 13; refine (HR.out _ ((Below.refl _ w).alloc (Nat.le_refl _) _)).mono ?_; rintro e w1 ⟨rfl, hb1⟩; have hB1 := below_ac (Below.refl _ w) (Nat.le_refl _) hb1; clear hb1)
          | (go_at_call 26; refine (HC1.out _ hB1).mono ?_; rintro e w2 ⟨rfl, hb2⟩; replace hB1 := below_c hB1 hB1.size hb2; clear hb2))
        go_ret2
        exact ⟨_, rfl, hB1, OwnsG.nil _ _⟩
end Go.Proofs.Ytdahgfopighhlaa
