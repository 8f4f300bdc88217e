/-
  letterbaglaw25.Mail, codes.
-/
import Derived.Test.YtelklmdlodgdpaaGreatWP
import Derived.Deep.AppendLies
import Derived.Laws.Rows
import Derived.Test.YtelklmdlodgdpaaGreatW9
namespace Go.Proofs.YtelklmdlodgdpaaGreat
open Go.RowKit Go.Sort
set_option linter.unusedVariables false
set_option maxRecDepth 100000
theorem Tryz.infoPc : (Tryz.prog.info? 45).map (fun i => (i.zero, i.size, i.bytes)) = some (some (.agg #[.int .i64 0, .int .i64 0, .string ⟨#[]⟩, .int .i64 0, .bool false]), 5, 48) := by kernel_rfl
def pceC (p : Pce) : List Value := [.int .i64 p.id, .int .i64 p.point, .string p.code, .int .i64 p.grams, .bool p.barred]
def OwnsP (w : World) (base : Nat) (v : Value) (ps : List Pce) : Prop := w.ownsRow base 45 5 v ps.length (ps.flatMap pceC)
theorem flat_pce (ps : List Pce) : ∀ (k j : Nat) (hk : k < ps.length), j < 5 → (ps.flatMap pceC)[k * 5 + j]? = (pceC ps[k])[j]? := by
  induction ps with
  | nil => intro k j hk; simp at hk
  | cons p r ih =>
    intro k j hk hj
    have hl : (pceC p).length = 5 := rfl
    rw [List.flatMap_cons]
    cases k with
    | zero => rw [List.getElem?_append_left (by omega)]; simp
    | succ k =>
      rw [List.getElem?_append_right (by omega), hl, show (k + 1) * 5 + j - 5 = k * 5 + j by omega]
      exact ih k j (by simpa using hk) hj
theorem RdPces.of_owns {w : World} {base : Nat} {v : Value} {ps : List Pce} (h : OwnsP w base v ps) : RdPces w v ps := by
  have h' : w.ownsRow base 45 5 v ps.length (ps.flatMap pceC) := h
  rcases Joins.ownsRow_forms h' with ⟨rfl, hp⟩ | ⟨g, cap, rfl⟩
  · obtain rfl : ps = [] := List.length_eq_zero_iff.1 hp
    exact ⟨none, 0, rfl, fun h => absurd h (by simp)⟩
  · refine ⟨_, cap, rfl, fun _ => ⟨g, 0, rfl, (h'.lt g rfl).2, fun i hi => ?_⟩⟩
    have hc : ∀ j, j < 5 → w.cell? ⟨g, 0 + i * 5 + j, none⟩ = (pceC ps[i])[j]? := fun j hj => by
      rw [Nat.zero_add, h'.cellAt (i * 5 + j) (by omega), flat_pce ps i j hi hj]
    exact ⟨hc 0 (by omega), hc 1 (by omega), hc 2 (by omega), hc 3 (by omega), hc 4 (by omega)⟩
def mailP (i : Nat) (c : ByteArray) : Pce := ⟨1 + (i : Int), 0, c, 1 + (i : Int) % 20, false⟩
def mailTo (cs : List ByteArray) (k : Nat) : List Pce := (List.range k).map (fun i => mailP i (cs.getD i ⟨#[]⟩))
def mail25 (cs : List ByteArray) : Mai := ⟨1, 1, ⟨#[49, 48, 48, 48, 48]⟩, mailTo cs cs.length⟩
theorem mailTo_succ (cs : List ByteArray) {k : Nat} (h : k < cs.length) : mailTo cs (k + 1) = mailTo cs k ++ [mailP k cs[k]] := by
  unfold mailTo
  rw [List.range_succ, List.map_append, List.map_cons, List.map_nil, List.getD_eq_getElem?_getD, List.getElem?_eq_getElem h]; rfl
theorem mailTo_len (cs : List ByteArray) (k : Nat) : (mailTo cs k).length = k := by unfold mailTo; simp
theorem mail_codesM (cs : List ByteArray) : codesM (mail25 cs).ps = cs := by
  unfold codesM mail25 mailTo
  dsimp only
  rw [List.map_map]
  apply List.ext_getElem
  · simp
  · intro i h1 h2
    simp only [List.getElem_map, List.getElem_range, Function.comp, mailP]
    rw [List.getD_eq_getElem?_getD, List.getElem?_eq_getElem h2]; rfl
theorem set4 {w : World} {g : Nat} {a b c d a' b' c' d' : Value} {t : TypeId} {fr : Nat × Nat} (h : w.heap[g]? = some (.cells #[a, b, c, d] t fr)) :
    ((((w.setCell ⟨g, 0, none⟩ a').setCell ⟨g, 1, none⟩ b').setCell ⟨g, 2, none⟩ c').setCell ⟨g, 3, none⟩ d').heap[g]? = some (.cells #[a', b', c', d'] t fr) := by
  simp [World.setCell, Array.getElem?_modify, h]
theorem own_set4 {w : World} {g base n : Nat} {v : Value} {xs : List Value} (h : w.ownsRow base 45 5 v n xs) (hg : g < base) (a b c d : Value) :
    ((((w.setCell ⟨g, 0, none⟩ a).setCell ⟨g, 1, none⟩ b).setCell ⟨g, 2, none⟩ c).setCell ⟨g, 3, none⟩ d).ownsRow base 45 5 v n xs := by
  have k : ∀ (W : World) (j : Nat) (u : Value), W.ownsRow base 45 5 v n xs → (W.setCell ⟨g, j, none⟩ u).ownsRow base 45 5 v n xs := fun W j u ho => ho.kept (gb_setCell _ _ _) (by
    cases hb : v.ownBlock with
    | none => exact .inl rfl
    | some b =>
      refine .inr (fun e => ?_)
      injection e with e
      have := (ho.lt b hb).1
      have : b = g := e
      omega)
  exact k _ _ _ (k _ _ _ (k _ _ _ (k _ _ _ h)))
theorem OwnsP.mono {w : World} {base base' : Nat} {v : Value} {ps : List Pce} (h : OwnsP w base v ps) (hb : base' ≤ base) : OwnsP w base' v ps := by
  obtain ⟨h1, h2 | ⟨g, cap, cur, hv, h3, h4⟩⟩ := h
  · exact ⟨h1, .inl h2⟩
  · exact ⟨h1, .inr ⟨g, cap, cur, hv, Nat.le_trans hb h3, h4⟩⟩
set_option maxHeartbeats 8000000 in
theorem mail_any (cs : List ByteArray) (vc : Value) (w : World) (hr : ReadsT w vc cs) (hl : cs.length ≤ 100000) :
    Calls Tryz.prog 42 #[vc] w fun e w' => ∃ vp, e = .returned (maiV (mail25 cs) vp) ∧ Below w.heap.size w w' ∧ OwnsP w' w.heap.size vp (mail25 cs).ps := by
  obtain ⟨a, cap, rfl, hcc⟩ := hr
  have HCC := Lib.hid hcc
  obtain ⟨i0, hi⟩ := info_parts Tryz.infoPc
  have HI := Lib.hid hi
  clear hcc hi
  go_enter Tryz.func42, Tryz.ntmps42
  go_wp2_with fail
  go_loopw [9] (fun i wr => ∃ (k : Nat) (v : Value), k ≤ cs.length ∧ i = .int .i64 k ∧ Below w.heap.size w wr ∧ w.heap.size + 2 ≤ wr.heap.size ∧ wr.heap[w.heap.size]? = some (.cells #[.int .u8 0, .int .u8 0, .string ⟨#[]⟩, .slice none 0 0] 29 (0, 0)) ∧
    wr.heap[w.heap.size + 1]? = some (.cells #[.int .u8 1, .int .u8 1, .string ⟨#[49, 48, 48, 48, 48]⟩, v] 29 (0, 0)) ∧ wr.ownsRow (w.heap.size + 2) 45 5 v k ((mailTo cs k).flatMap pceC)) (fun i _ => cs.length - (intOf i).toNat)
  case atStart =>
    have hz : (w.alloc (.cells #[.int .u8 0, .int .u8 0, .string ⟨#[]⟩, .slice none 0 0] 29)).heap.size = w.heap.size + 1 := World.size_alloc _ _
    refine ⟨0, .slice none 0 0, Nat.zero_le _, rfl, ((Below.refl _ w).alloc (Nat.le_refl _) _).alloc (by simp) _, by simp, (Below.heap_alloc _ _ _ (by omega)).trans (alloc_new w _), ?_, World.ownsRow_nil _ _ _ _⟩
    have := alloc_new (w.alloc (.cells #[.int .u8 0, .int .u8 0, .string ⟨#[]⟩, .slice none 0 0] 29)) (.cells #[.int .u8 1, .int .u8 1, .string ⟨#[49, 48, 48, 48, 48]⟩, .slice none 0 0] 29)
    rw [hz] at this
    exact this
  case round =>
    obtain ⟨k, v, hk, rfl, hB, hz, h0, h1, hO⟩ := hrel
    have b0 := cell_of_row wr (w.heap.size + 1) 0 _ _ _ h1
    have b1 := cell_of_row wr (w.heap.size + 1) 1 _ _ _ h1
    have b2 := cell_of_row wr (w.heap.size + 1) 2 _ _ _ h1
    have b3 := cell_of_row wr (w.heap.size + 1) 3 _ _ _ h1
    have f3 : wr.frozen? ⟨w.heap.size + 1, 3, none⟩ = false := by simp [World.frozen?, h1]
    simp only [List.getElem?_toArray, List.getElem?_cons_zero, List.getElem?_cons_succ] at b0 b1 b2 b3
    have H0 := Lib.hid h0
    have H1 := Lib.hid h1
    by_cases hlt : k < cs.length
    · obtain ⟨g, off, rfl, hg, hat⟩ := HCC.out (by omega)
      have e1 : wr.cell? ⟨g, off + k, none⟩ = some (.string cs[k]) := (hB.cell (p := ⟨g, off + k, none⟩) hg).trans (hat k hlt)
      have hsu := mailTo_succ cs hlt
      obtain ⟨c, hc⟩ : ∃ c, c = cs[k] := ⟨_, rfl⟩
      rw [← hc] at e1 hsu
      have HSU := Lib.hid hsu
      have HO := Lib.hid hO
      have hlo : ∀ b, v.ownBlock = some b → w.heap.size + 2 ≤ b := fun b hb => (hO.lt b hb).1
      have hkp : ∀ (X : Obj) (w9 : World), (wr.alloc X).grownBy w9 v.ownBlock → ∀ b, b < w.heap.size + 2 → w9.heap[b]? = wr.heap[b]? := fun X w9 hg b hb =>
        (hg.block b (by rw [World.size_alloc]; omega) (fun e => by have := hlo b e.symm; omega)).trans (Below.heap_alloc _ _ _ (by omega))
      have HKP := Lib.hid hkp
      have HLO := Lib.hid hlo
      have hmod : (k : Int).tmod 20 = (k : Int) % 20 := Int.tmod_eq_emod_of_nonneg (Int.natCast_nonneg k)
      have hm2 : 0 ≤ (k : Int) % 20 ∧ (k : Int) % 20 < 20 := ⟨Int.emod_nonneg _ (by omega), Int.emod_lt_of_pos _ (by omega)⟩
      clear hat hc hsu h0 h1 hkp hlo
      rcases Joins.ownsRow_forms hO with ⟨rfl, hpn⟩ | ⟨g2, cap2, rfl⟩
      · have HPN := Lib.hid hpn
        clear hpn
        clear hO
        go_wp2_with (at_builtin; refine wpList_append_lies _ rfl _ _ 27 rfl (w.heap.size + 2) 45 i0 (.agg #[.int .i64 0, .int .i64 0, .string ⟨#[]⟩, .int .i64 0, .bool false]) 5 48 Tryz.underlying27 HI.out.1 HI.out.2.1 HI.out.2.2.1 HI.out.2.2.2 rfl (by decide) _ k _ rfl (HO.out.alloc _) ⟨wr.heap.size, 0, none⟩ 1 1 (pceC (mailP k c)) rfl rfl (cells_new wr (pceC (mailP k c)) _) (by simp [pceC, Value.oneCell']) (by decide) (by unfold maxLen; omega) (by omega) (by simp; omega) _ rfl ?_; intro g9 cap9 w9 hown9 hgrow hat9 hlt9; have hb9 := HKP.out _ w9 hgrow; have e3 : w9.cell? ⟨w.heap.size + 1, 3, none⟩ = some _ := (World.cell?_of_block (w := wr) (hb9 (w.heap.size + 1) (by omega))).trans b3; have f9 : w9.frozen? ⟨w.heap.size + 1, 3, none⟩ = false := (World.frozen?_of_block (w := wr) (hb9 (w.heap.size + 1) (by omega))).trans f3; have HB9 := Lib.hid hb9; clear hb9)
        go_roundw
        case rel =>
          have h9 : w9.heap[w.heap.size + 1]? = _ := (HB9.out _ (by omega)).trans H1.out
          refine ⟨k + 1, .slice (some ⟨g9, 0, none⟩) (k + 1) cap9, by omega, by go_num, ?_, ?_, ?_, ?_, ?_⟩
          · exact ((hB.alloc hB.size _).grown hgrow (by have := hB.size; simp; omega) (fun r e => by have := HLO.out r e; omega)).setCell (p := ⟨w.heap.size + 1, 3, none⟩) (Nat.le_succ _) _
          · have := hgrow.size
            simp [World.setCell] at this ⊢; omega
          · exact (Below.heap_setCell _ _ _ _ (by show w.heap.size ≠ w.heap.size + 1; omega)).trans ((HB9.out _ (by omega)).trans H0.out)
          · show (w9.heap.modify (w.heap.size + 1) _)[w.heap.size + 1]? = _
            rw [Array.getElem?_modify, if_pos rfl, h9]
            rfl
          · rw [HSU.out, List.flatMap_append, List.flatMap_cons, List.flatMap_nil, List.append_nil]
            exact hown9.kept (gb_setCell _ _ _) (.inr (by show some g9 ≠ some (w.heap.size + 1); have := (hown9.lt g9 rfl).1; intro e; injection e; omega))
        case measure => simp [intOf]; omega
      · clear hO
        go_wp2_with (at_builtin; refine wpList_append_lies _ rfl _ _ 27 rfl (w.heap.size + 2) 45 i0 (.agg #[.int .i64 0, .int .i64 0, .string ⟨#[]⟩, .int .i64 0, .bool false]) 5 48 Tryz.underlying27 HI.out.1 HI.out.2.1 HI.out.2.2.1 HI.out.2.2.2 rfl (by decide) _ k _ rfl (HO.out.alloc _) ⟨wr.heap.size, 0, none⟩ 1 1 (pceC (mailP k c)) rfl rfl (cells_new wr (pceC (mailP k c)) _) (by simp [pceC, Value.oneCell']) (by decide) (by unfold maxLen; omega) (by omega) (by simp; omega) _ rfl ?_; intro g9 cap9 w9 hown9 hgrow hat9 hlt9; have hb9 := HKP.out _ w9 hgrow; have e3 : w9.cell? ⟨w.heap.size + 1, 3, none⟩ = some _ := (World.cell?_of_block (w := wr) (hb9 (w.heap.size + 1) (by omega))).trans b3; have f9 : w9.frozen? ⟨w.heap.size + 1, 3, none⟩ = false := (World.frozen?_of_block (w := wr) (hb9 (w.heap.size + 1) (by omega))).trans f3; have HB9 := Lib.hid hb9; clear hb9)
        go_roundw
        case rel =>
          have h9 : w9.heap[w.heap.size + 1]? = _ := (HB9.out _ (by omega)).trans H1.out
          refine ⟨k + 1, .slice (some ⟨g9, 0, none⟩) (k + 1) cap9, by omega, by go_num, ?_, ?_, ?_, ?_, ?_⟩
          · exact ((hB.alloc hB.size _).grown hgrow (by have := hB.size; simp; omega) (fun r e => by have := HLO.out r e; omega)).setCell (p := ⟨w.heap.size + 1, 3, none⟩) (Nat.le_succ _) _
          · have := hgrow.size
            simp [World.setCell] at this ⊢; omega
          · exact (Below.heap_setCell _ _ _ _ (by show w.heap.size ≠ w.heap.size + 1; omega)).trans ((HB9.out _ (by omega)).trans H0.out)
          · show (w9.heap.modify (w.heap.size + 1) _)[w.heap.size + 1]? = _
            rw [Array.getElem?_modify, if_pos rfl, h9]
            rfl
          · rw [HSU.out, List.flatMap_append, List.flatMap_cons, List.flatMap_nil, List.append_nil]
            exact hown9.kept (gb_setCell _ _ _) (.inr (by show some g9 ≠ some (w.heap.size + 1); have := (hown9.lt g9 rfl).1; intro e; injection e; omega))
        case measure => simp [intOf]; omega
    · obtain rfl : k = cs.length := by omega
      have z0 := cell_of_row wr w.heap.size 0 _ _ _ h0
      have z1 := cell_of_row wr w.heap.size 1 _ _ _ h0
      have z2 := cell_of_row wr w.heap.size 2 _ _ _ h0
      have z3 := cell_of_row wr w.heap.size 3 _ _ _ h0
      simp only [List.getElem?_toArray, List.getElem?_cons_zero, List.getElem?_cons_succ] at z0 z1 z2 z3
      have y : ∀ j, wr.frozen? ⟨w.heap.size, j, none⟩ = false := fun j => by simp [World.frozen?, h0]
      have y0 := y 0
      have y1 := y 1
      have y2 := y 2
      have y3 := y 3
      have HO := Lib.hid hO
      have HH0 := Lib.hid h0
      clear y h0 h1
      rcases Joins.ownsRow_forms hO with ⟨rfl, hpn⟩ | ⟨g2, cap2, rfl⟩
      · have HPN := Lib.hid hpn
        clear hpn hO
        go_wp2_with fail
        refine bodyPost_ret (results_cell_row rfl _ _ w.heap.size 29 _ (0, 0) _ rfl (set4 HH0.out) Tryz.underlying29 rfl (by kernel_rfl)) rfl ?_
        refine ⟨_, rfl, (((hB.setCell (p := ⟨w.heap.size, 0, none⟩) (Nat.le_refl _) _).setCell (p := ⟨w.heap.size, 1, none⟩) (Nat.le_refl _) _).setCell (p := ⟨w.heap.size, 2, none⟩) (Nat.le_refl _) _).setCell (p := ⟨w.heap.size, 3, none⟩) (Nat.le_refl _) _, ?_⟩
        have ho : OwnsP wr (w.heap.size + 2) (.slice none 0 0) (mail25 cs).ps := by
          unfold OwnsP mail25
          dsimp only
          rw [mailTo_len]
          exact HO.out
        exact OwnsP.mono (own_set4 ho (by omega) _ _ _ _) (Nat.le_add_right _ _)
      · clear hO
        go_wp2_with fail
        refine bodyPost_ret (results_cell_row rfl _ _ w.heap.size 29 _ (0, 0) _ rfl (set4 HH0.out) Tryz.underlying29 rfl (by kernel_rfl)) rfl ?_
        refine ⟨_, rfl, (((hB.setCell (p := ⟨w.heap.size, 0, none⟩) (Nat.le_refl _) _).setCell (p := ⟨w.heap.size, 1, none⟩) (Nat.le_refl _) _).setCell (p := ⟨w.heap.size, 2, none⟩) (Nat.le_refl _) _).setCell (p := ⟨w.heap.size, 3, none⟩) (Nat.le_refl _) _, ?_⟩
        have ho : OwnsP wr (w.heap.size + 2) (.slice (some ⟨g2, 0, none⟩) cs.length cap2) (mail25 cs).ps := by
          unfold OwnsP mail25
          dsimp only
          rw [mailTo_len]
          exact HO.out
        exact OwnsP.mono (own_set4 ho (by omega) _ _ _ _) (Nat.le_add_right _ _)
end Go.Proofs.YtelklmdlodgdpaaGreat
