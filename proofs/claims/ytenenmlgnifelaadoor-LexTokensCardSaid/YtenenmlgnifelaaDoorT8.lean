/-
  The walk of letterbaglaw08.LexTokens.
-/
import Derived.Test.YtenenmlgnifelaaDoorT6
import Derived.Test.YtenenmlgnifelaaDoorT7
import Derived.Test.YtenenmlgnifelaaDoorAw
namespace Go.Proofs.YtenenmlgnifelaaDoor
open Go.RowKit
set_option linter.unusedVariables false
theorem own_first {W : World} {base g : Nat} {ls : List ByteArray} (h : W.ownsRow base 9 1 (.slice (some ⟨g, 0, none⟩) (ls.length + 12) (ls.length + 12)) (ls.length + 12) (ls.map Value.string ++ markV 12)) : W.ownsRow base 9 1 (.slice (some ⟨g, 0, none⟩) ls.length (ls.length + 12)) ls.length (ls.map Value.string) := by
  have := row_first (n := ls.length) h (by omega)
  rwa [List.take_left' (by simp)] at this
theorem lexTokens_walk (ls : List ByteArray) (v : Value) (m : Int) (w : World) (hr : ReadsC w v ls) (hnil : ∀ l c, v = .slice none l c → l = 0 ∧ c = 0) (hl : ls.length ≤ maxLen) (hsz : ∀ s ∈ ls, s.size ≤ maxLen) (h0 : 0 < w.heap.size) (hm : w.cell? ⟨0, 0, none⟩ = some (.int .i64 m)) :
    Calls Tryd.prog 3 #[v] w fun e w' => e = .returned (.bool true) ∧ Below w.heap.size w w' := by
  have HM := Lib.hid hm
  have HR := Lib.hid hr
  have HZ := Lib.hid hsz
  have HNIL := Lib.hid hnil
  clear hm hr hsz hnil
  cases hf : fewB ls
  · have HF := Lib.hid hf
    clear hf
    go_enter Tryd.func3, Tryd.ntmps3
    go_wp2_with (first
      | (go_at_call 11; refine (awake_any m _ h0 HM.out).mono ?_; rintro e w1 ⟨rfl, hB⟩)
      | (go_at_call 10; refine (few_any ls _ _ HR.out.reads hl HZ.out).mono ?_; rintro e w2 ⟨rfl, rfl⟩; rw [HF.out]))
    go_ret
    exact ⟨rfl, hB⟩
  · have hparts : (∀ s ∈ ls, s.size ≤ 1000) ∧ ls.length ≤ 20 := by
      unfold fewB at hf
      rw [Bool.and_eq_true, List.all_eq_true] at hf
      exact ⟨fun s hs => by simpa using hf.1 s hs, by simpa using hf.2⟩
    obtain ⟨hz1, hl20⟩ := hparts
    have HZ1 := Lib.hid hz1
    have HF := Lib.hid hf
    clear hf hz1
    go_enter Tryd.func3, Tryd.ntmps3
    go_wp2_with (first
      | (go_at_call 10; refine (few_any ls _ _ HR.out.reads hl HZ.out).mono ?_; rintro e w2 ⟨rfl, rfl⟩; rw [HF.out])
      | (go_at_call 12; refine (lentTexts_any ls _ _ HR.out HNIL.out hl20).mono ?_; rintro e w3 ⟨g, rfl, hB, hown⟩)
      | (go_at_call 13; refine (lawTokens_any ls _ _ m _ (by omega) HZ1.out (cell0' h0 HM.out hB).2 (cell0' h0 HM.out hB).1 (own_first hown)).mono ?_; rintro e w4 ⟨rfl, hb4⟩; replace hown := hown.kept (grown_none hb4) (Classical.em _); replace hB := hB.trans (hb4.mono hB.size); clear hb4)
      | (go_at_call 14; refine (keptTexts_any ls _ _ g _ (HR.out.below hB).reads hl20 hown).mono ?_; rintro e w5 ⟨rfl, hb5⟩; replace hB := hB.trans (hb5.mono hB.size); clear hb5)
      | (go_at_call 11; refine (awake_any m _ (cell0' h0 HM.out hB).2 (cell0' h0 HM.out hB).1).mono ?_; rintro e w6 ⟨rfl, hb6⟩; replace hB := hB.trans (hb6.mono hB.size); clear hb6))
    go_ret
    exact ⟨rfl, hB⟩
end Go.Proofs.YtenenmlgnifelaaDoor
