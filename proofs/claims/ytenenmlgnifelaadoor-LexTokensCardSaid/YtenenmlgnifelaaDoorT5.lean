/-
  Contracts of letterbagkit.LentTexts and KeptTexts.
-/
import Derived.Test.YtenenmlgnifelaaDoorT4
namespace Go.Proofs.YtenenmlgnifelaaDoor
open Go.RowKit
set_option linter.unusedVariables false
def markV (k : Nat) : List Value := (List.range k).map fun j => .string (markB j)
theorem markV_succ (k : Nat) : markV (k + 1) = markV k ++ [.string (markB k)] := by unfold markV; rw [List.range_succ]; simp
theorem markV_len (k : Nat) : (markV k).length = k := by unfold markV; simp
/-- The first elements of a row of the call's own. -/
theorem row_first {W : World} {base g N cap n : Nat} {e : TypeId} {xs : List Value} (h : W.ownsRow base e 1 (.slice (some ⟨g, 0, none⟩) N cap) N xs) (hn : n ≤ N) : W.ownsRow base e 1 (.slice (some ⟨g, 0, none⟩) n cap) n (xs.take n) := by
  obtain ⟨h1, h2 | ⟨g', cap', cur, hv, hb, hg, hnc, hcm, hcs, ht⟩⟩ := h
  · simp at h2
  · simp only [Value.slice.injEq, Option.some.injEq, Addr.mk.injEq, and_true, true_and] at hv
    obtain ⟨rfl, rfl⟩ := hv
    refine ⟨by rw [List.length_take]; omega, .inr ⟨g, cap, cur, rfl, hb, hg, by omega, hcm, hcs, ?_⟩⟩
    rw [← ht, List.take_take]
    congr 1
    omega
theorem lent_cells {w w1 : World} {a : Option Addr} {ls : List ByteArray} (hc : 0 < ls.length → ∃ g off, a = some ⟨g, off, none⟩ ∧ g < w.heap.size ∧ ∀ i (h : i < ls.length), w.cell? ⟨g, off + i, none⟩ = some (.string ls[i])) (hB : Below w.heap.size w w1) :
    ∀ ad, a = some ad → ∀ j u, (ls.map Value.string)[j]? = some u → w1.cell? (ad.add j) = some u := by
  intro ad had j u hu
  obtain ⟨hj, rfl⟩ := List.getElem?_eq_some_iff.1 hu
  rw [List.length_map] at hj
  obtain ⟨g, off, e, hg, hcc⟩ := hc (by omega)
  rw [e] at had
  obtain rfl := Option.some.inj had
  have ea : (⟨g, off, none⟩ : Addr).add j = ⟨g, off + j, none⟩ := by unfold Addr.add; split <;> simp_all
  rw [ea, List.getElem_map]
  exact (hB.cell (p := ⟨g, off + j, none⟩) hg).trans (hcc j hj)
theorem lent_one (ls : List ByteArray) : ∀ u ∈ ls.map Value.string, u.oneCell' = true := by
  intro u hu
  obtain ⟨b, _, rfl⟩ := List.mem_map.1 hu
  rfl
set_option maxHeartbeats 4000000 in
theorem lentTexts_any (ls : List ByteArray) (v : Value) (w : World) (hr : ReadsC w v ls) (hnil : ∀ l c, v = .slice none l c → l = 0 ∧ c = 0) (hl : ls.length ≤ 20) :
    Calls Tryd.prog 12 #[v] w fun e w' => ∃ g, e = .returned (.slice (some ⟨g, 0, none⟩) ls.length (ls.length + 12)) ∧ Below w.heap.size w w' ∧
      w'.ownsRow w.heap.size 9 1 (.slice (some ⟨g, 0, none⟩) (ls.length + 12) (ls.length + 12)) (ls.length + 12) (ls.map Value.string ++ markV 12) := by
  obtain ⟨a, cap, rfl, hcap, hc⟩ := hr
  obtain ⟨i0, hi⟩ := info_parts Tryd.infoS
  have HI := Lib.hid hi
  have HC := Lib.hid hc
  have HNIL := Lib.hid hnil
  clear hi hc hnil
  have hlen : (ls.map Value.string).length = ls.length := by simp
  have HL := Lib.hid hlen
  clear hlen
  go_enter Tryd.func12, Tryd.ntmps12
  go_wp2_with (first
    | (at_make; refine wpList_make_own _ rfl _ _ 22 rfl w.heap.size 9 i0 (.string ⟨#[]⟩) 1 Tryd.underlying22 HI.out.1 HI.out.2.1 HI.out.2.2.1 _ _ _ (ls.length + 12) rfl (by first | rfl | simp) rfl (by rw [HI.out.2.2.2]; omega) (by unfold maxLen; omega) (Nat.le_refl _) ?_; intro w1 hown hgrow; have hB : Below w.heap.size w w1 := (Below.refl _ w).grown hgrow (Nat.le_refl _) (fun _ e => by cases e); clear hgrow)
    | (at_builtin; refine wpList_append_fits_any w1 rfl _ _ 22 rfl w.heap.size 9 i0 1 Tryd.underlying22 HI.out.1 HI.out.2.2.1 w.heap.size 0 (ls.length + 12) [] rfl hown a ls.length cap (ls.map Value.string) rfl (by rw [HL.out, Nat.mul_one]) (fun e => HNIL.out _ _ (by rw [e])) (lent_cells HC.out hB) (lent_one ls) (by omega) ?_; intro w2 hown2 hgrow2; replace hB : Below w.heap.size w w2 := hB.grown hgrow2 hB.size (fun r e => by cases e; exact Nat.le_refl _); clear hown hgrow2))
  rw [Nat.zero_add, List.nil_append] at hown2
  go_loopw [3, 4] (fun v i wr => ∃ k : Nat, k ≤ 12 ∧ i = .int .i64 k ∧ v = .slice (some ⟨w.heap.size, 0, none⟩) (ls.length + k) (ls.length + 12) ∧ Below w.heap.size w wr ∧ wr.ownsRow w.heap.size 9 1 (.slice (some ⟨w.heap.size, 0, none⟩) (ls.length + k) (ls.length + 12)) (ls.length + k) (ls.map Value.string ++ markV k)) (fun _ i _ => 12 - (intOf i).toNat)
  case atStart => exact ⟨0, Nat.zero_le _, rfl, by simp, hB, by simpa [markV] using hown2⟩
  case round =>
    clear hB hown2
    obtain ⟨k, hk, rfl, rfl, hB, hown⟩ := hrel
    by_cases hlt : k < 12
    · have hsu := markV_succ k
      have HSU := Lib.hid hsu
      clear hsu
      have hmt := fun W => markText_any k hlt W
      generalize markB k = mk at HSU hmt
      have HMT := Lib.hid hmt
      clear hmt
      go_wp2_with (first
        | (go_at_call 33; refine (HMT.out _).mono ?_; rintro e w3 ⟨rfl, hb3⟩; replace hown := hown.kept (grown_none hb3) (Classical.em _); replace hB := hB.trans (hb3.mono hB.size); clear hb3)
        | (at_builtin; refine wpList_append_fits _ rfl _ _ 22 rfl w.heap.size 9 i0 1 Tryd.underlying22 HI.out.1 HI.out.2.2.1 w.heap.size (ls.length + k) (ls.length + 12) _ rfl (hown.alloc _) ⟨w3.heap.size, 0, none⟩ 1 1 [.string mk] rfl rfl (cell_one_new _ _ _) (by simp [Value.oneCell']) (by omega) ?_; intro w4 hown4 hgrow4; have hb4 : Below w.heap.size w w4 := (hB.alloc hB.size _).grown hgrow4 (by have := hB.size; simp; omega) (fun r e => by cases e; exact Nat.le_refl _); clear hown hgrow4))
      go_roundw
      case rel => exact ⟨k + 1, by omega, by go_num, by rw [Nat.add_assoc], hb4, by rw [HSU.out, ← List.append_assoc, ← Nat.add_assoc]; exact hown4⟩
      case measure => simp [intOf]; omega
    · obtain rfl : k = 12 := by omega
      have hbw := (hown.lt w.heap.size rfl).2
      go_wp2_with fail
      go_ret
      exact ⟨w.heap.size, rfl, hB, hown⟩
end Go.Proofs.YtenenmlgnifelaaDoor
