/-
  Contract of letterbaglaw08.tokens.
-/
import Derived.Test.YtdcpmnkebhilpaaGreatDoorT3
namespace Go.Proofs.YtdcpmnkebhilpaaGreatDoor
open Go.RowKit
set_option linter.unusedVariables false
theorem ReadsT.below {w w' : World} {v : Value} {ls : List ByteArray} (h : ReadsT w v ls) (hb : Below w.heap.size w w') : ReadsT w' v ls := by
  obtain ⟨a, cap, hv, hc⟩ := h
  exact ⟨a, cap, hv, fun h0 => by
    obtain ⟨g, off, ha, hg, hcc⟩ := hc h0
    exact ⟨g, off, ha, Nat.lt_of_lt_of_le hg hb.size, fun i h => (hb.cell (p := ⟨g, off + i, none⟩) hg).trans (hcc i h)⟩⟩
theorem ReadsC.below {w w' : World} {v : Value} {ls : List ByteArray} (h : ReadsC w v ls) (hb : Below w.heap.size w w') : ReadsC w' v ls := by
  obtain ⟨a, cap, hv, hcap, hc⟩ := h
  exact ⟨a, cap, hv, hcap, fun h0 => by
    obtain ⟨g, off, ha, hg, hcc⟩ := hc h0
    exact ⟨g, off, ha, Nat.lt_of_lt_of_le hg hb.size, fun i h => (hb.cell (p := ⟨g, off + i, none⟩) hg).trans (hcc i h)⟩⟩
theorem rtok_cell {w : World} {base g cap k : Nat} {ts : List Tok} (ho : w.ownsRow base 51 4 (.slice (some ⟨g, 0, none⟩) ts.length cap) ts.length (toksV ts)) (hk : k < ts.length) :
    w.cell? ⟨g, k * 4, none⟩ = some (.string ts[k].1) ∧ w.cell? ⟨g, k * 4 + 1, none⟩ = some (.int .i64 ts[k].2.1) ∧ w.cell? ⟨g, k * 4 + 2, none⟩ = some (.int .i64 ts[k].2.2) ∧ w.cell? ⟨g, k * 4 + 3, none⟩ = some (.int .u16 (classesB ts[k].1)) := by
  refine ⟨?_, ?_, ?_, ?_⟩
  · rw [ho.cellAt _ (by omega), show k * 4 = k * 4 + 0 from rfl, toksV_get ts k 0 hk (by omega)]; rfl
  · rw [ho.cellAt _ (by omega), toksV_get ts k 1 hk (by omega)]; rfl
  · rw [ho.cellAt _ (by omega), toksV_get ts k 2 hk (by omega)]; rfl
  · rw [ho.cellAt _ (by omega), toksV_get ts k 3 hk (by omega)]; rfl
theorem rtrow_reads {W : World} {base : Nat} {va : Option Addr} {vc : Nat} {T : List Tok} (h : W.ownsRow base 51 4 (.slice va T.length vc) T.length (toksV T)) (h0 : 0 < T.length) : ∃ g, va = some ⟨g, 0, none⟩ ∧ g < W.heap.size ∧ ∀ k (hk : k < T.length),
    W.cell? ⟨g, k * 4, none⟩ = some (.string T[k].1) ∧ W.cell? ⟨g, k * 4 + 1, none⟩ = some (.int .i64 T[k].2.1) ∧ W.cell? ⟨g, k * 4 + 2, none⟩ = some (.int .i64 T[k].2.2) ∧ W.cell? ⟨g, k * 4 + 3, none⟩ = some (.int .u16 (classesB T[k].1)) := by
  rcases Joins.ownsRow_forms h with ⟨e, hp⟩ | ⟨g, cap, e⟩
  · omega
  · injection e with e1 _ e2
    subst e1 e2
    exact ⟨g, rfl, (h.lt g rfl).2, fun k hk => rtok_cell h hk⟩
theorem tokens_count (ls : List ByteArray) : (tokensR ls).1.length ≤ 40 := by
  unfold tokensR
  split
  · simp
  split
  · simp
  split
  · simp
  split
  · simp
  · simp only; omega
set_option maxRecDepth 100000 in
set_option maxHeartbeats 8000000 in
theorem lawTokens_any (ls : List ByteArray) (v : Value) (base : Nat) (m : Int) (w : World) (hl : ls.length ≤ 60000) (hsz : ∀ s ∈ ls, s.size ≤ 1000) (h0 : 4 < w.heap.size) (hm : w.cell? ⟨4, 0, none⟩ = some (.int .i64 m))
    (ho : w.ownsRow base 9 1 v ls.length (ls.map Value.string)) : Calls Tryz.prog 6 #[v] w fun e w' => e = .returned (.bool true) ∧ Below w.heap.size w w' := by
  have hc1 := tokens_ev (L := ls) (T := (tokensR ls).1) (n := (tokensR ls).2) rfl hl (fun s hs => by have := hsz s hs; unfold maxLen; omega) h0 hm ho
  have hc2 : ∀ W, Below w.heap.size w W → Calls Tryz.prog 24 #[v] W fun e w' => ∃ u, e = .returned (.tuple #[u, .int .i64 (tokensR ls).2]) ∧ Below W.heap.size W w' ∧ w'.ownsRow W.heap.size 51 4 u (tokensR ls).1.length (toksV (tokensR ls).1) := fun W hb =>
    refTokens_any ls v W ((ReadsT.of_row ho).below hb) hl hsz
  have hct := tokens_count ls
  generalize (tokensR ls).1 = T at hc1 hc2 hct
  generalize (tokensR ls).2 = n at hc1 hc2
  have H1 := Lib.hid hc1
  have H2 := Lib.hid hc2
  clear hc1 hc2 ho hm hsz
  have hne : (n != n) = false := by simp
  go_enter Tryz.func6, Tryz.ntmps6
  go_wp2_with (first
    | (go_at_call 23; refine H1.out.mono ?_; rintro e w1 ⟨u, rfl, hB, hown1⟩; obtain ⟨ua, uc, rfl⟩ := tslice_of_row hown1)
    | (go_at_call 24; refine (H2.out _ hB).mono ?_; rintro e w2 ⟨u2, rfl, hb2, hown2⟩; obtain ⟨ua2, uc2, rfl⟩ := rslice_of_row hown2; replace hown1 := hown1.kept (grown_none hb2) (Classical.em _); replace hB := hB.trans (hb2.mono hB.size); clear hb2))
  have HR1 := Lib.hid (trow_reads hown1)
  have HR2 := Lib.hid (rtrow_reads hown2)
  clear hown1 hown2
  go_loopw [7] (fun i wr => ∃ k : Nat, k ≤ T.length ∧ i = .int .i64 k ∧ Below w2.heap.size w2 wr) (fun i _ => T.length - (intOf i).toNat)
  case atStart => exact ⟨0, Nat.zero_le _, rfl, Below.refl _ _⟩
  case round =>
    obtain ⟨k, hk, rfl, hB2⟩ := hrel
    by_cases hlt : k < T.length
    · obtain ⟨g1, rfl, hg1, hcc1⟩ := HR1.out (by omega)
      obtain ⟨g2, rfl, hg2, hcc2⟩ := HR2.out (by omega)
      have cl1 : ∀ o, wr.cell? ⟨g1, o, none⟩ = w2.cell? ⟨g1, o, none⟩ := fun o => hB2.cell (p := ⟨g1, o, none⟩) hg1
      have cl2 : ∀ o, wr.cell? ⟨g2, o, none⟩ = w2.cell? ⟨g2, o, none⟩ := fun o => hB2.cell (p := ⟨g2, o, none⟩) hg2
      obtain ⟨a1, a2, a3, a4⟩ := hcc1 k hlt
      obtain ⟨b1, b2, b3, b4⟩ := hcc2 k hlt
      rw [← cl1] at a1 a2 a3 a4
      rw [← cl2] at b1 b2 b3 b4
      clear cl1 cl2 hcc1 hcc2 HR1 HR2
      generalize T[k].1 = wd at a1 a4 b1 b4
      generalize T[k].2.1 = n1 at a2 b2
      generalize T[k].2.2 = n2 at a3 b3
      generalize classesB wd = n3 at a4 b4
      go_wp2_with fail
      go_quiet (fail)
      go_wp2_with fail
      go_roundw
      case rel => exact ⟨k + 1, by omega, by go_num, below_drewN hB2 _⟩
      case measure => simp [intOf]; omega
    · go_wp2_with fail
      go_ret
      exact ⟨rfl, hB.trans (hB2.mono hB.size)⟩
end Go.Proofs.YtdcpmnkebhilpaaGreatDoor
