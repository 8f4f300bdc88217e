/-
  The kit's LentLevels.
-/
import Derived.Test.YtdahgfopighhlaaU7
namespace Go.Proofs.Ytdahgfopighhlaa
open Go.RowKit Go.Sort
set_option linter.unusedVariables false
set_option maxRecDepth 100000
/-- A slice reads as levels; nil slices in it have no room. -/
def RdLevN (w : World) (v : Value) (ls : List Lev) : Prop :=
  ∃ a cap, v = .slice a ls.length cap ∧ (0 < ls.length → ∃ g off, a = some ⟨g, off, none⟩ ∧ g < w.heap.size ∧ ∀ i (h : i < ls.length), ∃ sv, RdLabs w sv ls[i].labs ∧ NilOk sv ∧ LevAt w g (off + i * 5) ls[i] sv)
theorem RdLevN.reads {w : World} {v : Value} {ls : List Lev} (h : RdLevN w v ls) : RdLevs w v ls := by
  obtain ⟨a, cap, rfl, hc⟩ := h
  exact ⟨a, cap, rfl, fun h0 => by
    obtain ⟨g, off, e, hg, hcc⟩ := hc h0
    exact ⟨g, off, e, hg, fun i h => by
      obtain ⟨sv, a1, _, a3⟩ := hcc i h
      exact ⟨sv, a1, a3⟩⟩⟩
/-- A lent slice of levels: each with labels of its own, and twelve marks behind them. -/
def LentLevs (W : World) (base : Nat) (v : Value) (ls : List Lev) : Prop :=
  ∃ g, v = .slice (some ⟨g, 0, none⟩) ls.length (ls.length + 12) ∧ base ≤ g ∧ g < W.heap.size ∧ (∀ i (h : i < ls.length), ∃ sv, LentLab W base sv ls[i].labs ∧ LevAt W g (i * 5) ls[i] sv) ∧ ∀ j, j < 12 → LevAt W g ((ls.length + j) * 5) (markLv j) (.slice none 0 0)
theorem LentLevs.below {W W' : World} {base : Nat} {v : Value} {ls : List Lev} (h : LentLevs W base v ls) (hb : Below W.heap.size W W') : LentLevs W' base v ls := by
  obtain ⟨g, rfl, h1, h2, h3, h4⟩ := h
  exact ⟨g, rfl, h1, Nat.lt_of_lt_of_le h2 hb.size, fun i hi => by
    obtain ⟨sv, a, b⟩ := h3 i hi
    exact ⟨sv, a.below hb, b.below hb h2⟩, fun j hj => (h4 j hj).below hb h2⟩
theorem LentLevs.reads {W : World} {base : Nat} {v : Value} {ls : List Lev} (h : LentLevs W base v ls) : RdLevs W v ls := by
  obtain ⟨g, rfl, h1, h2, h3, h4⟩ := h
  exact ⟨_, _, rfl, fun h0 => ⟨g, 0, rfl, h2, fun i hi => by
    obtain ⟨sv, a, b⟩ := h3 i hi
    exact ⟨sv, a.reads, by rw [Nat.zero_add]; exact b⟩⟩⟩
def mkP (j : Nat) : Lev × Value := (markLv j, .slice none 0 0)
def marksP (k : Nat) : List (Lev × Value) := (List.range k).map mkP
theorem marksP_succ (k : Nat) : marksP (k + 1) = marksP k ++ [mkP k] := by unfold marksP; rw [List.range_succ]; simp
theorem marksP_len (k : Nat) : (marksP k).length = k := by unfold marksP; simp
theorem marksP_at (n : Nat) (h : n < (marksP 12).length) : (marksP 12)[n] = mkP n := by simp [marksP]
theorem cells_newN (W : World) (n : Nat) (hn : n = W.heap.size) (cs : List Value) (T : TypeId) : ∀ j u, cs[j]? = some u → (W.alloc (.cells cs.toArray T)).cell? ((⟨n, 0, none⟩ : Addr).add j) = some u := by subst hn; exact cells_new W cs T
theorem lev_at_row {W : World} {base g n cap : Nat} {L : List (Lev × Value)} (ho : W.ownsRow base 45 5 (.slice (some ⟨g, 0, none⟩) n cap) n (L.flatMap lCell)) (hn : L.length = n) {i : Nat} (hi : i < n) : LevAt W g (i * 5) (L[i]'(by omega)).1 (L[i]'(by omega)).2 := by
  have hi' : i < L.length := by omega
  refine ⟨?_, ?_, ?_, ?_, ?_⟩
  · rw [ho.cellAt _ (by omega), show i * 5 = i * 5 + 0 from rfl, lCells_get L i 0 hi' (by omega)]; rfl
  · rw [ho.cellAt _ (by omega), lCells_get L i 1 hi' (by omega)]; rfl
  · rw [ho.cellAt _ (by omega), lCells_get L i 2 hi' (by omega)]; rfl
  · rw [ho.cellAt _ (by omega), lCells_get L i 3 hi' (by omega)]; rfl
  · rw [ho.cellAt _ (by omega), lCells_get L i 4 hi' (by omega)]; rfl
set_option maxHeartbeats 8000000 in
theorem lentLevels_any (ls : List Lev) (v : Value) (w : World) (hr : RdLevN w v ls) (hf : ∀ l ∈ ls, l.labs.length ≤ 100000) (hl : ls.length ≤ 1000) :
    Calls Try.prog 35 #[v] w fun e w' => ∃ u, e = .returned u ∧ LentLevs w' w.heap.size u ls ∧ Below w.heap.size w w' := by
  obtain ⟨a, cap, rfl, hc⟩ := hr
  obtain ⟨i0, hi⟩ := info_parts Try.infoL
  have HI := Lib.hid hi
  have HC := Lib.hid hc
  have HF := Lib.hid hf
  clear hi hc hf
  go_enter Try.func35, Try.ntmps35
  go_wp2_with (at_make; refine wpList_make_own _ rfl _ _ 25 rfl w.heap.size 45 i0 (.agg #[.string ⟨#[]⟩, .int .i64 0, .slice none 0 0, .int .i64 0, .int .i64 0]) 5 Try.underlying25 HI.out.1 HI.out.2.1 HI.out.2.2.1 _ _ _ (ls.length + 12) rfl (by first | rfl | simp) rfl (by rw [HI.out.2.2.2]; omega) (by unfold maxLen; omega) (Nat.le_refl _) ?_; intro w1 hown hgrow; have hB : Below w.heap.size w w1 := (Below.refl _ w).grown hgrow (Nat.le_refl _) (fun _ e => by cases e); clear hgrow)
  go_loopw [3, 4] (fun x i wr => ∃ (k : Nat) (L : List (Lev × Value)), k ≤ ls.length ∧ i = .int .i64 k ∧ x = .slice (some ⟨w.heap.size, 0, none⟩) k (ls.length + 12) ∧ Hid (L.map Prod.fst = ls.take k) ∧ Hid (∀ p ∈ L, LentLab wr (w.heap.size + 1) p.2 p.1.labs) ∧ Below w.heap.size w wr ∧ wr.ownsRow w.heap.size 45 5 (.slice (some ⟨w.heap.size, 0, none⟩) k (ls.length + 12)) k (L.flatMap lCell)) (fun _ i _ => ls.length - (intOf i).toNat)
  case atStart => exact ⟨0, [], Nat.zero_le _, rfl, rfl, by show _ = _; simp, (fun p hp => by cases hp), hB, hown⟩
  case round =>
    clear hB hown
    obtain ⟨k, L, hk, rfl, rfl, HL, HLB, hB, hown⟩ := hrel
    have hbw := (hown.lt w.heap.size rfl).2
    by_cases hlt : k < ls.length
    · obtain ⟨g, off, rfl, hg, hcc⟩ := HC.out (by omega)
      obtain ⟨sv, hlab, hnil, hat⟩ := hcc k hlt
      obtain ⟨t0, t1, t2, t3, t4⟩ := hat.below hB hg
      have HLV := Lib.hid (lentLevel_any ls[k] sv wr (hlab.below hB) hnil (HF.out _ (List.getElem_mem hlt)))
      have HL2 : Hid (∀ u, (L ++ [(ls[k], u)]).map Prod.fst = ls.take (k + 1)) := fun u => by rw [List.map_append, HL.out, List.take_succ_eq_append_getElem hlt]; rfl
      have hgr : g < wr.heap.size := by omega
      have hd : decide ((k : Int) < (ls.length : Int)) = true := decide_eq_true (by omega)
      unfold lvA at HLV
      generalize ls[k] = l at t0 t1 t2 t3 t4 HLV HL2
      clear hcc hlab hnil hat HC HF
      go_wp2_with (first
        | (go_at_call 49; refine HLV.out.mono ?_; rintro e w3 ⟨u, rfl, hu, hb3⟩; have HU := Lib.hid hu; obtain ⟨gu, hgu, hgb, hgl, hgc⟩ := hu; subst hgu; clear hgc; replace hown := hown.kept (grown_none hb3) (Classical.em _); replace hB := hB.trans (hb3.mono hB.size); have HB3 := Lib.hid hb3; clear hb3)
        | (at_builtin; refine wpList_append_fits _ rfl _ _ 25 rfl w.heap.size 45 i0 5 Try.underlying25 HI.out.1 HI.out.2.2.1 w.heap.size k (ls.length + 12) _ rfl ((hown.alloc _).alloc _) ⟨w3.heap.size + 1, 0, none⟩ 1 1 [.string l.name, .int .i64 l.pre, .slice (some ⟨gu, 0, none⟩) l.labs.length (l.labs.length + 12), .int .i64 l.min, .int .i64 l.cents] rfl rfl (cells_newN _ _ (by simp) _ _) (by simp [Value.oneCell']) (by omega) ?_; intro w4 hown4 hgrow4))
      have hb4 : Below w.heap.size w w4 := ((hB.alloc hB.size _).alloc (by have := hB.size; simp; omega) _).grown hgrow4 (by have := hB.size; simp; omega) (fun r e => by cases e; exact Nat.le_refl _)
      have hkeep : ∀ {x : Value} {labs : List Lab}, LentLab w3 (w.heap.size + 1) x labs → LentLab w4 (w.heap.size + 1) x labs := fun h =>
        ((h.below ((Below.refl _ w3).alloc (Nat.le_refl _) _)).below ((Below.refl _ _).alloc (Nat.le_refl _) _)).grown hgrow4 (by omega)
      have HLB4 : Hid (∀ p ∈ L ++ [(l, Value.slice (some ⟨gu, 0, none⟩) l.labs.length (l.labs.length + 12))], LentLab w4 (w.heap.size + 1) p.2 p.1.labs) := fun p hp => by
        rcases List.mem_append.1 hp with hp | hp
        · exact hkeep ((HLB.out p hp).below HB3.out)
        · obtain rfl := List.mem_singleton.1 hp
          exact hkeep (HU.out.mono (by omega))
      have HOW : Hid (w4.ownsRow w.heap.size 45 5 (.slice (some ⟨w.heap.size, 0, none⟩) (k + 1) (ls.length + 12)) (k + 1) ((L ++ [(l, Value.slice (some ⟨gu, 0, none⟩) l.labs.length (l.labs.length + 12))]).flatMap lCell)) := by
        show World.ownsRow _ _ _ _ _ _ _
        rw [List.flatMap_append]
        exact hown4
      have HL3 := Lib.hid (HL2.out (.slice (some ⟨gu, 0, none⟩) l.labs.length (l.labs.length + 12)))
      clear hgrow4 hown4 hown hB hkeep HLB HU HB3 HLV HL2
      go_roundw
      case rel => exact ⟨k + 1, _, by omega, by go_num, rfl, HL3.out, HLB4.out, hb4, HOW.out⟩
      case measure => simp [intOf]; omega
    · obtain rfl : k = ls.length := by omega
      have HLS : Hid (L.map Prod.fst = ls) := by show _ = _; rw [HL.out, List.take_of_length_le (Nat.le_refl _)]
      have HLN : Hid (L.length = ls.length) := by have := congrArg List.length HLS.out; rw [List.length_map] at this; exact this
      clear HC HF HL hlt hk
      obtain ⟨w3, rfl⟩ : ∃ w3 : World, w3 = wr := ⟨_, rfl⟩
      go_wp2_with fail
      go_loopw [3, 6] (fun x i wr => ∃ k : Nat, k ≤ 12 ∧ i = .int .i64 k ∧ x = .slice (some ⟨w.heap.size, 0, none⟩) (ls.length + k) (ls.length + 12) ∧ Hid (∀ p ∈ L, LentLab wr (w.heap.size + 1) p.2 p.1.labs) ∧ Below w.heap.size w wr ∧ wr.ownsRow w.heap.size 45 5 (.slice (some ⟨w.heap.size, 0, none⟩) (ls.length + k) (ls.length + 12)) (ls.length + k) ((L ++ marksP k).flatMap lCell)) (fun _ i _ => 12 - (intOf i).toNat)
      case atStart => exact ⟨0, Nat.zero_le _, rfl, rfl, HLB.out, hB, by simpa [marksP] using hown⟩
      case round =>
        clear hB hown hbw HLB
        obtain ⟨k, hk, rfl, rfl, HLB, hB, hown⟩ := hrel
        have hbw := (hown.lt w.heap.size rfl).2
        by_cases hlt : k < 12
        · have HSU : Hid ((L ++ marksP (k + 1)).flatMap lCell = (L ++ marksP k).flatMap lCell ++ [.string ⟨#[]⟩, .int .i64 0, .slice none 0 0, .int .i64 (8000024 + (k : Int)), .int .i64 0]) := by
            show _ = _
            rw [marksP_succ, ← List.append_assoc, List.flatMap_append]
            rfl
          have hmt := fun W => markLevel_any k hlt W
          unfold markLvV at hmt
          generalize 8000024 + (k : Int) = mk at HSU hmt
          have HMT := Lib.hid hmt
          clear hmt
          go_wp2_with (first
            | (go_at_call 50; refine (HMT.out _).mono ?_; rintro e w5 ⟨rfl, hb5⟩; replace hown := hown.kept (grown_none hb5) (Classical.em _); replace hB := hB.trans (hb5.mono hB.size); replace HLB := Lib.hid (fun p hp => (HLB.out p hp).below hb5); clear hb5)
            | (at_builtin; refine wpList_append_fits _ rfl _ _ 25 rfl w.heap.size 45 i0 5 Try.underlying25 HI.out.1 HI.out.2.2.1 w.heap.size (ls.length + k) (ls.length + 12) _ rfl (hown.alloc _) ⟨w5.heap.size, 0, none⟩ 1 1 [.string ⟨#[]⟩, .int .i64 0, .slice none 0 0, .int .i64 mk, .int .i64 0] rfl rfl (cells_new _ _ _) (by simp [Value.oneCell']) (by omega) ?_; intro w6 hown6 hgrow6))
          have hb6 : Below w.heap.size w w6 := (hB.alloc hB.size _).grown hgrow6 (by have := hB.size; simp; omega) (fun r e => by cases e; exact Nat.le_refl _)
          have HLB6 : Hid (∀ p ∈ L, LentLab w6 (w.heap.size + 1) p.2 p.1.labs) := fun p hp => ((HLB.out p hp).below ((Below.refl _ w5).alloc (Nat.le_refl _) _)).grown hgrow6 (by omega)
          clear hgrow6 HLB
          go_roundw
          case rel => exact ⟨k + 1, by omega, by go_num, by rw [Nat.add_assoc], HLB6.out, hb6, by rw [HSU.out, ← Nat.add_assoc]; exact hown6⟩
          case measure => simp [intOf]; omega
        · obtain rfl : k = 12 := by omega
          have HO := Lib.hid hown
          clear hown
          go_wp2_with fail
          go_ret
          have hm := marksP_len 12
          have hln := HLN.out
          have hlen : (L ++ marksP 12).length = ls.length + 12 := by rw [List.length_append, hm, hln]
          refine ⟨_, rfl, ⟨w.heap.size, rfl, Nat.le_refl _, hbw, fun i h => ?_, fun j hj => ?_⟩, hB⟩
          · have h' : i < L.length := by omega
            have e1 : (L[i]'h').1 = ls[i] := by
              have : (L.map Prod.fst)[i]? = ls[i]? := by rw [HLS.out]
              rw [List.getElem?_map, List.getElem?_eq_getElem h', List.getElem?_eq_getElem h] at this
              exact Option.some.inj this
            refine ⟨(L[i]'h').2, ?_, ?_⟩
            · rw [← e1]; exact (HLB.out _ (List.getElem_mem h')).mono (by omega)
            · have := lev_at_row HO.out hlen (i := i) (by omega)
              rw [List.getElem_append_left h'] at this
              rw [← e1]; exact this
          · have := lev_at_row HO.out hlen (i := ls.length + j) (by omega)
            rw [List.getElem_append_right (by omega)] at this
            have e2 : ∀ h, (marksP 12)[ls.length + j - L.length]'h = mkP j := fun h => by
              rw [marksP_at]
              congr 1; omega
            rw [e2] at this
            exact this
end Go.Proofs.Ytdahgfopighhlaa
