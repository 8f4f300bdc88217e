/-
  PresortSaves: the walk.
-/
import Derived.Test.YtpieagaggjngjaaGreatY1
import Derived.Test.YtpieagaggjngjaaGreatY2
import Derived.Test.YtpieagaggjngjaaGreatWV
namespace Go.Proofs.YtpieagaggjngjaaGreat
open Go.RowKit Go.Sort
set_option linter.unusedVariables false
set_option maxRecDepth 100000
theorem rdLevN_below {w w' : World} {v : Value} {ls : List Lev} (h : RdLevN w v ls) (hb : Below w.heap.size w w') : RdLevN w' v ls := by
  obtain ⟨a, cap, rfl, hc⟩ := h
  exact ⟨a, cap, rfl, fun h0 => by
    obtain ⟨g, off, e, hg, hcc⟩ := hc h0
    exact ⟨g, off, e, Nat.lt_of_lt_of_le hg hb.size, fun i h => by
      obtain ⟨sv, a1, a2, a3⟩ := hcc i h
      exact ⟨sv, a1.below hb, a2, a3.below hb hg⟩⟩⟩
set_option maxHeartbeats 16000000 in
theorem presortSaves1_any (ls : List Lev) (v vz : Value) (zs : List Int) (w : World) (hr : RdLevN w v ls) (hb : ∀ l ∈ ls, l.labs.length ≤ 4398046511104 ∧ l.name.size ≤ maxLen ∧ ∀ x ∈ l.labs, x.pre.size ≤ maxLen ∧ x.grp.size ≤ maxLen) (hl : ls.length ≤ maxLen)
    (hz : RdInts w vz zs) (hnil : NilOk vz) (hlz : zs.length ≤ maxLen) :
    Calls Tryz.prog 5 #[v, vz] w fun e w' => e = .returned (.bool true) ∧ Below w.heap.size w w' := by
  have HFW := Lib.hid (few25_any ls v w hr.reads (fun l h => (hb l h).1) hl)
  have HZ := Lib.hid hz
  unfold maxLen at hlz
  cases hfew : fewZ ls
  · rw [hfew] at HFW
    obtain ⟨a, cap, rfl, _⟩ := hr
    obtain ⟨az, cz, rfl, _⟩ := hz
    clear hb hfew hnil
    go_enter Tryz.func5, Tryz.ntmps5
    go_wp2_with (go_at_call 13; refine HFW.out.mono ?_; rintro e w1 ⟨rfl, hb1⟩)
    go_ret
    exact ⟨rfl, hb1⟩
  · rw [hfew] at HFW
    obtain ⟨h10, h20⟩ := fewZ_each hfew
    by_cases h3 : 3000 < zs.length
    · have hgt : (zs.length : Int) > 3000 := by omega
      obtain ⟨a, cap, rfl, _⟩ := hr
      obtain ⟨az, cz, rfl, _⟩ := hz
      clear hb hfew hnil h20
      go_enter Tryz.func5, Tryz.ntmps5
      go_wp2_with (go_at_call 13; refine HFW.out.mono ?_; rintro e w1 ⟨rfl, hb1⟩)
      go_ret
      exact ⟨rfl, hb1⟩
    · have hgt : ¬ (zs.length : Int) > 3000 := by omega
      have hfit : ∀ l ∈ ls, LevFits l := fun l h => ⟨(hb l h).2.1, by have := h20 l h; omega, (hb l h).2.2⟩
      have HLT : Hid (∀ W, Below w.heap.size w W → Calls Tryz.prog 14 #[v] W fun e w' => ∃ u, e = .returned u ∧ LentLevs w' W.heap.size u ls ∧ Below W.heap.size W w') := fun W hW => lentLevels_any ls v W (rdLevN_below hr hW) (fun l h => by have := h20 l h; omega) (by omega)
      have HLI : Hid (∀ W, Below w.heap.size w W → Calls Tryz.prog 15 #[vz] W fun e w' => ∃ u, e = .returned u ∧ LentInt w' W.heap.size u zs ∧ Below W.heap.size W w') := fun W hW => lentInts_any zs vz W (RdInts.below HZ.out hW) hnil (by omega)
      obtain ⟨R, hR⟩ : ∃ R, R = savingR ls zs := ⟨_, rfl⟩
      have HS1 : Hid (∀ W u uz, RdLevs W u ls → RdInts W uz zs → Calls Tryz.prog 10 #[u, uz] W fun e w' => e = .returned (.tuple #[.int .i64 R.1, .int .i64 R.2]) ∧ Below W.heap.size W w') := fun W u uz a b => by
        rw [hR]; exact saving_any ls u uz zs W a hfit (by omega) b (by omega)
      have HS2 : Hid (∀ W, Below w.heap.size w W → Calls Tryz.prog 16 #[v, vz] W fun e w' => e = .returned (.tuple #[.int .i64 R.1, .int .i64 R.2]) ∧ Below W.heap.size W w') := fun W hW => by
        rw [hR]; exact rSaving_any ls v vz zs W (hr.reads.below hW) hfit (by omega) (RdInts.below HZ.out hW) (by omega)
      have HK1 : Hid (∀ W u base, Below w.heap.size w W → LentLevs W base u ls → Calls Tryz.prog 17 #[u, v] W fun e w' => e = .returned (.bool true) ∧ Below W.heap.size W w') := fun W u base hW hu => keptLevels_true ls u v base W hu (hr.reads.below hW) (fun l h => by have := h20 l h; omega) (by omega)
      have HK2 : Hid (∀ W u base, Below w.heap.size w W → LentInt W base u zs → Calls Tryz.prog 18 #[u, vz] W fun e w' => e = .returned (.bool true) ∧ Below W.heap.size W w') := fun W u base hW hu => keptInts_true zs u vz base W hu (RdInts.below HZ.out hW) (by omega)
      obtain ⟨ra, rb⟩ := R
      dsimp only at HS1 HS2
      obtain ⟨a, cap, rfl, _⟩ := hr
      obtain ⟨az, cz, rfl, _⟩ := hz
      have ea : (ra == ra) = true := by simp
      have eb : (rb == rb) = true := by simp
      clear hb hfew hnil h20 hfit hR
      go_enter Tryz.func5, Tryz.ntmps5
      go_wp2_with (first
        | (go_at_call 13; refine HFW.out.mono ?_; rintro e w1 ⟨rfl, hb1⟩)
        | (go_at_call 14; refine (HLT.out _ hb1).mono ?_; rintro e w2 ⟨u, rfl, hu, hb2⟩; (have hB2 : Below w.heap.size w w2 := below_c hb1 hb1.size hb2))
        | (go_at_call 15; refine (HLI.out _ hB2).mono ?_; rintro e w3 ⟨uz, rfl, huz, hb3⟩; (have hB3 : Below w.heap.size w w3 := below_c hB2 hB2.size hb3); (have hu3 := hu.below hb3))
        | (go_at_call 10; refine (HS1.out _ _ _ hu3.reads huz.reads).mono ?_; rintro e w4 ⟨rfl, hb4⟩; (have hB4 : Below w.heap.size w w4 := below_c hB3 hB3.size hb4); (have hu4 := hu3.below hb4); (have huz4 := huz.below hb4))
        | (go_at_call 16; refine (HS2.out _ hB4).mono ?_; rintro e w5 ⟨rfl, hb5⟩; (have hB5 : Below w.heap.size w w5 := below_c hB4 hB4.size hb5); (have hu5 := hu4.below hb5); (have huz5 := huz4.below hb5))
        | (go_at_call 17; refine (HK1.out _ _ _ hB5 hu5).mono ?_; rintro e w6 ⟨rfl, hb6⟩; (have hB6 : Below w.heap.size w w6 := below_c hB5 hB5.size hb6); (have huz6 := huz5.below hb6))
        | (go_at_call 18; refine (HK2.out _ _ _ hB6 huz6).mono ?_; rintro e w7 ⟨rfl, hb7⟩; (have hB7 : Below w.heap.size w w7 := below_c hB6 hB6.size hb7)))
      go_ret
      exact ⟨by simp, hB7⟩
theorem presortSaves_walk (ls : List Lev) (v vz : Value) (zs : List Int) (w : World) (hr : RdLevN w v ls) (hb : ∀ l ∈ ls, l.labs.length ≤ 4398046511104 ∧ l.name.size ≤ maxLen ∧ ∀ x ∈ l.labs, x.pre.size ≤ maxLen ∧ x.grp.size ≤ maxLen) (hl : ls.length ≤ maxLen)
    (hz : RdInts w vz zs) (hnil : NilOk vz) (hlz : zs.length ≤ maxLen) :
    Calls Tryz.prog 3 #[v, vz] w fun e w' => e = .returned (.bool true) ∧ Below w.heap.size w w' := by
  have HAW := Lib.hid (awake_any w)
  have H1 : Hid (∀ W, Below w.heap.size w W → Calls Tryz.prog 5 #[v, vz] W fun e w' => e = .returned (.bool true) ∧ Below W.heap.size W w') := fun W hW => presortSaves1_any ls v vz zs W (rdLevN_below hr hW) hb hl (hz.below hW) hnil hlz
  obtain ⟨a, cap, rfl, _⟩ := hr
  obtain ⟨az, cz, rfl, _⟩ := hz
  clear hb hnil
  go_enter Tryz.func3, Tryz.ntmps3
  go_wp2_with (first
    | (go_at_call 4; refine HAW.out.mono ?_; rintro e w1 ⟨rfl, hb1⟩)
    | (go_at_call 5; refine (H1.out _ hb1).mono ?_; rintro e w2 ⟨rfl, hb2⟩; (have hB2 : Below w.heap.size w w2 := below_c hb1 hb1.size hb2)))
  go_ret
  exact ⟨rfl, hB2⟩
end Go.Proofs.YtpieagaggjngjaaGreat
