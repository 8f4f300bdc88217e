import Derived.Test.YtojedplbhialpaaGreatDoorGC
import Derived.Test.YtojedplbhialpaaGreatDoorGF
import Derived.Test.YtojedplbhialpaaGreatDoorGG
import Derived.Sort.OwnSortedInts
import Derived.Laws.AppendOwnNone
import Derived.Deep.DeepCutAuto
import Derived.BigQuiet
import Derived.StillTailTactics
import Derived.Test.YtojedplbhialpaaGreatDoorGE
import Derived.Test.YtojedplbhialpaaGreatDoorShelf
import Derived.Laws.CopyOwn
import Derived.Laws.OwnMore
import Derived.Deep.OwnRows
import Derived.RangeFuncNested
import Derived.RangeFuncBound
import Derived.RangeFuncCalls
import Derived.RangeFuncLeaves
import Derived.Shelf.Abstract
import Derived.Shelf.RegionOpen
import Derived.WalkKit
import Derived.OwnWalkIn
import Derived.TacticsInMore
import Derived.LoopNIn
import Derived.LoopIn
import Derived.Deep.RegionHeld3
import Derived.Deep.AppendLies
import Derived.Laws.Rows
/-! P17 -/
namespace Go.Proofs.YtojedplbhialpaaGreatDoor
open Go.RowKit
set_option linter.unusedVariables false
set_option maxRecDepth 100000
variable {ls : List Lev} {cs : List ByteArray}
theorem noShort_any (hp : ∀ l ∈ ls, ∀ c ∈ cs, l.pre ≤ c.size) : cs.any (shortB ls) = false := by
  rw [List.any_eq_false]
  intro c hc
  cases ls with
  | nil => simp [shortB]
  | cons l r =>
    have := hp l List.mem_cons_self c hc
    simp [shortB]; omega
theorem codesM_len (ps : List Pce) : (codesM ps).length = ps.length := by unfold codesM; simp
theorem validR_eq {m : Mai} (h : rightB ls = true) (hm : mailB m = true) (hp : ∀ l ∈ ls, ∀ c ∈ codesM m.ps, l.pre ≤ c.size) {zs : List Int} (hz : zs.length = m.ps.length) (hn : numsB ls.length zs = true) :
    validR ls m zs = (grpsOkB ls zs (gAll ls (codesM m.ps) ls.length), 0) := by
  unfold validR
  rw [if_pos ⟨h, hm, hz, hn⟩, noShort_any hp]
  rfl
end Go.Proofs.YtojedplbhialpaaGreatDoor

/-! X1 -/
namespace Go.Proofs.YtojedplbhialpaaGreatDoor
open Go.RowKit Go.Sort
set_option linter.unusedVariables false
set_option maxRecDepth 100000
structure HasPlan (ls : List Lev) (m : Mai) : Prop where
  right : rightB ls = true
  mail : mailB m = true
  rng : 0 ≤ m.cls ∧ m.cls ≤ 255 ∧ 0 ≤ m.ctr ∧ m.ctr ≤ 255
  org : m.origin.size ≤ maxLen
  pre : ∀ l ∈ ls, ∀ c ∈ codesM m.ps, l.pre ≤ c.size
theorem HasPlan.few {ls : List Lev} {m : Mai} (h : HasPlan ls m) : m.ps.length ≤ 2000 := (mail_parts h.mail).1
theorem HasPlan.code {ls : List Lev} {m : Mai} (h : HasPlan ls m) : ∀ c ∈ codesM m.ps, codeB c = true := (mail_codes h.mail).2
theorem cells4 {w : World} {g : Nat} {a b c d : Value} {t : TypeId} {fr : Nat × Nat} (h : w.heap[g]? = some (.cells #[a, b, c, d] t fr)) :
    w.cell? ⟨g, 0, none⟩ = some a ∧ w.cell? ⟨g, 1, none⟩ = some b ∧ w.cell? ⟨g, 2, none⟩ = some c ∧ w.cell? ⟨g, 3, none⟩ = some d :=
  ⟨cell_of_row _ _ 0 _ _ _ h, cell_of_row _ _ 1 _ _ _ h, cell_of_row _ _ 2 _ _ _ h, cell_of_row _ _ 3 _ _ _ h⟩
end Go.Proofs.YtojedplbhialpaaGreatDoor

/-! WT -/
namespace Go.Proofs.YtojedplbhialpaaGreatDoor
open Go.RowKit Go.Sort
set_option linter.unusedVariables false
set_option maxRecDepth 100000
theorem Tryz.infoPc : (Tryz.prog.info? 90).map (fun i => (i.zero, i.size, i.bytes)) = some (some (.agg #[.int .i64 0, .int .i64 0, .string ⟨#[]⟩, .int .i64 0, .bool false]), 5, 48) := by kernel_rfl
def pceC (p : Pce) : List Value := [.int .i64 p.id, .int .i64 p.point, .string p.code, .int .i64 p.grams, .bool p.barred]
def OwnsP (w : World) (base : Nat) (v : Value) (ps : List Pce) : Prop := w.ownsRow base 90 5 v ps.length (ps.flatMap pceC)
theorem flat_pce (ps : List Pce) : ∀ (k j : Nat) (hk : k < ps.length), j < 5 → (ps.flatMap pceC)[k * 5 + j]? = (pceC ps[k])[j]? := by
  induction ps with
  | nil => intro k j hk; simp at hk
  | cons p r ih =>
    intro k j hk hj
    have hl : (pceC p).length = 5 := rfl
    rw [List.flatMap_cons]
    cases k with
    | zero => rw [List.getElem?_append_left (by omega)]; simp
    | succ k =>
      rw [List.getElem?_append_right (by omega), hl, show (k + 1) * 5 + j - 5 = k * 5 + j by omega]
      exact ih k j (by simpa using hk) hj
theorem RdPces.of_owns {w : World} {base : Nat} {v : Value} {ps : List Pce} (h : OwnsP w base v ps) : RdPces w v ps := by
  have h' : w.ownsRow base 90 5 v ps.length (ps.flatMap pceC) := h
  rcases Joins.ownsRow_forms h' with ⟨rfl, hp⟩ | ⟨g, cap, rfl⟩
  · obtain rfl : ps = [] := List.length_eq_zero_iff.1 hp
    exact ⟨none, 0, rfl, fun h => absurd h (by simp)⟩
  · refine ⟨_, cap, rfl, fun _ => ⟨g, 0, rfl, (h'.lt g rfl).2, fun i hi => ?_⟩⟩
    have hc : ∀ j, j < 5 → w.cell? ⟨g, 0 + i * 5 + j, none⟩ = (pceC ps[i])[j]? := fun j hj => by
      rw [Nat.zero_add, h'.cellAt (i * 5 + j) (by omega), flat_pce ps i j hi hj]
    exact ⟨hc 0 (by omega), hc 1 (by omega), hc 2 (by omega), hc 3 (by omega), hc 4 (by omega)⟩
def mailP (i : Nat) (c : ByteArray) : Pce := ⟨1 + (i : Int), 0, c, 1 + (i : Int) % 20, false⟩
def mailTo (cs : List ByteArray) (k : Nat) : List Pce := (List.range k).map (fun i => mailP i (cs.getD i ⟨#[]⟩))
def mail25 (cs : List ByteArray) : Mai := ⟨1, 1, ⟨#[49, 48, 48, 48, 48]⟩, mailTo cs cs.length⟩
theorem mailTo_succ (cs : List ByteArray) {k : Nat} (h : k < cs.length) : mailTo cs (k + 1) = mailTo cs k ++ [mailP k cs[k]] := by
  unfold mailTo
  rw [List.range_succ, List.map_append, List.map_cons, List.map_nil, List.getD_eq_getElem?_getD, List.getElem?_eq_getElem h]; rfl
theorem mailTo_len (cs : List ByteArray) (k : Nat) : (mailTo cs k).length = k := by unfold mailTo; simp
theorem set4 {w : World} {g : Nat} {a b c d a' b' c' d' : Value} {t : TypeId} {fr : Nat × Nat} (h : w.heap[g]? = some (.cells #[a, b, c, d] t fr)) :
    ((((w.setCell ⟨g, 0, none⟩ a').setCell ⟨g, 1, none⟩ b').setCell ⟨g, 2, none⟩ c').setCell ⟨g, 3, none⟩ d').heap[g]? = some (.cells #[a', b', c', d'] t fr) := by
  simp [World.setCell, Array.getElem?_modify, h]
theorem own_set4 {w : World} {g base n : Nat} {v : Value} {xs : List Value} (h : w.ownsRow base 90 5 v n xs) (hg : g < base) (a b c d : Value) :
    ((((w.setCell ⟨g, 0, none⟩ a).setCell ⟨g, 1, none⟩ b).setCell ⟨g, 2, none⟩ c).setCell ⟨g, 3, none⟩ d).ownsRow base 90 5 v n xs := by
  have k : ∀ (W : World) (j : Nat) (u : Value), W.ownsRow base 90 5 v n xs → (W.setCell ⟨g, j, none⟩ u).ownsRow base 90 5 v n xs := fun W j u ho => ho.kept (gb_setCell _ _ _) (by
    cases hb : v.ownBlock with
    | none => exact .inl rfl
    | some b =>
      refine .inr (fun e => ?_)
      injection e with e
      have := (ho.lt b hb).1
      have : b = g := e
      omega)
  exact k _ _ _ (k _ _ _ (k _ _ _ (k _ _ _ h)))
theorem OwnsP.mono {w : World} {base base' : Nat} {v : Value} {ps : List Pce} (h : OwnsP w base v ps) (hb : base' ≤ base) : OwnsP w base' v ps := by
  obtain ⟨h1, h2 | ⟨g, cap, cur, hv, h3, h4⟩⟩ := h
  · exact ⟨h1, .inl h2⟩
  · exact ⟨h1, .inr ⟨g, cap, cur, hv, Nat.le_trans hb h3, h4⟩⟩
set_option maxHeartbeats 8000000 in
theorem mail_any (cs : List ByteArray) (vc : Value) (w : World) (hr : ReadsT w vc cs) (hl : cs.length ≤ 100000) :
    Calls Tryz.prog 37 #[vc] w fun e w' => ∃ vp, e = .returned (maiV (mail25 cs) vp) ∧ Below w.heap.size w w' ∧ OwnsP w' w.heap.size vp (mail25 cs).ps := by
  obtain ⟨a, cap, rfl, hcc⟩ := hr
  have HCC := Lib.hid hcc
  obtain ⟨i0, hi⟩ := info_parts Tryz.infoPc
  have HI := Lib.hid hi
  clear hcc hi
  go_enter Tryz.func37, Tryz.ntmps37
  go_wp2_with fail
  go_loopw [9] (fun i wr => ∃ (k : Nat) (v : Value), k ≤ cs.length ∧ i = .int .i64 k ∧ Below w.heap.size w wr ∧ w.heap.size + 2 ≤ wr.heap.size ∧ wr.heap[w.heap.size]? = some (.cells #[.int .u8 0, .int .u8 0, .string ⟨#[]⟩, .slice none 0 0] 29 (0, 0)) ∧
    wr.heap[w.heap.size + 1]? = some (.cells #[.int .u8 1, .int .u8 1, .string ⟨#[49, 48, 48, 48, 48]⟩, v] 29 (0, 0)) ∧ wr.ownsRow (w.heap.size + 2) 90 5 v k ((mailTo cs k).flatMap pceC)) (fun i _ => cs.length - (intOf i).toNat)
  case atStart =>
    have hz : (w.alloc (.cells #[.int .u8 0, .int .u8 0, .string ⟨#[]⟩, .slice none 0 0] 29)).heap.size = w.heap.size + 1 := World.size_alloc _ _
    refine ⟨0, .slice none 0 0, Nat.zero_le _, rfl, ((Below.refl _ w).alloc (Nat.le_refl _) _).alloc (by simp) _, by simp, (Below.heap_alloc _ _ _ (by omega)).trans (alloc_new w _), ?_, World.ownsRow_nil _ _ _ _⟩
    have := alloc_new (w.alloc (.cells #[.int .u8 0, .int .u8 0, .string ⟨#[]⟩, .slice none 0 0] 29)) (.cells #[.int .u8 1, .int .u8 1, .string ⟨#[49, 48, 48, 48, 48]⟩, .slice none 0 0] 29)
    rw [hz] at this
    exact this
  case round =>
    obtain ⟨k, v, hk, rfl, hB, hz, h0, h1, hO⟩ := hrel
    have b0 := cell_of_row wr (w.heap.size + 1) 0 _ _ _ h1
    have b1 := cell_of_row wr (w.heap.size + 1) 1 _ _ _ h1
    have b2 := cell_of_row wr (w.heap.size + 1) 2 _ _ _ h1
    have b3 := cell_of_row wr (w.heap.size + 1) 3 _ _ _ h1
    have f3 : wr.frozen? ⟨w.heap.size + 1, 3, none⟩ = false := by simp [World.frozen?, h1]
    simp only [List.getElem?_toArray, List.getElem?_cons_zero, List.getElem?_cons_succ] at b0 b1 b2 b3
    have H0 := Lib.hid h0
    have H1 := Lib.hid h1
    by_cases hlt : k < cs.length
    · obtain ⟨g, off, rfl, hg, hat⟩ := HCC.out (by omega)
      have e1 : wr.cell? ⟨g, off + k, none⟩ = some (.string cs[k]) := (hB.cell (p := ⟨g, off + k, none⟩) hg).trans (hat k hlt)
      have hsu := mailTo_succ cs hlt
      obtain ⟨c, hc⟩ : ∃ c, c = cs[k] := ⟨_, rfl⟩
      rw [← hc] at e1 hsu
      have HSU := Lib.hid hsu
      have HO := Lib.hid hO
      have hlo : ∀ b, v.ownBlock = some b → w.heap.size + 2 ≤ b := fun b hb => (hO.lt b hb).1
      have hkp : ∀ (X : Obj) (w9 : World), (wr.alloc X).grownBy w9 v.ownBlock → ∀ b, b < w.heap.size + 2 → w9.heap[b]? = wr.heap[b]? := fun X w9 hg b hb =>
        (hg.block b (by rw [World.size_alloc]; omega) (fun e => by have := hlo b e.symm; omega)).trans (Below.heap_alloc _ _ _ (by omega))
      have HKP := Lib.hid hkp
      have HLO := Lib.hid hlo
      have hmod : (k : Int).tmod 20 = (k : Int) % 20 := Int.tmod_eq_emod_of_nonneg (Int.natCast_nonneg k)
      have hm2 : 0 ≤ (k : Int) % 20 ∧ (k : Int) % 20 < 20 := ⟨Int.emod_nonneg _ (by omega), Int.emod_lt_of_pos _ (by omega)⟩
      clear hat hc hsu h0 h1 hkp hlo
      rcases Joins.ownsRow_forms hO with ⟨rfl, hpn⟩ | ⟨g2, cap2, rfl⟩
      · have HPN := Lib.hid hpn
        clear hpn
        clear hO
        go_wp2_with (at_builtin; refine wpList_append_lies _ rfl _ _ 27 rfl (w.heap.size + 2) 90 i0 (.agg #[.int .i64 0, .int .i64 0, .string ⟨#[]⟩, .int .i64 0, .bool false]) 5 48 Tryz.underlying27 HI.out.1 HI.out.2.1 HI.out.2.2.1 HI.out.2.2.2 rfl (by decide) _ k _ rfl (HO.out.alloc _) ⟨wr.heap.size, 0, none⟩ 1 1 (pceC (mailP k c)) rfl rfl (cells_new wr (pceC (mailP k c)) _) (by simp [pceC, Value.oneCell']) (by decide) (by unfold maxLen; omega) (by omega) (by simp; omega) _ rfl ?_; intro g9 cap9 w9 hown9 hgrow hat9 hlt9; have hb9 := HKP.out _ w9 hgrow; have e3 : w9.cell? ⟨w.heap.size + 1, 3, none⟩ = some _ := (World.cell?_of_block (w := wr) (hb9 (w.heap.size + 1) (by omega))).trans b3; have f9 : w9.frozen? ⟨w.heap.size + 1, 3, none⟩ = false := (World.frozen?_of_block (w := wr) (hb9 (w.heap.size + 1) (by omega))).trans f3; have HB9 := Lib.hid hb9; clear hb9)
        go_roundw
        case rel =>
          have h9 : w9.heap[w.heap.size + 1]? = _ := (HB9.out _ (by omega)).trans H1.out
          refine ⟨k + 1, .slice (some ⟨g9, 0, none⟩) (k + 1) cap9, by omega, by go_num, ?_, ?_, ?_, ?_, ?_⟩
          · exact ((hB.alloc hB.size _).grown hgrow (by have := hB.size; simp; omega) (fun r e => by have := HLO.out r e; omega)).setCell (p := ⟨w.heap.size + 1, 3, none⟩) (Nat.le_succ _) _
          · have := hgrow.size
            simp [World.setCell] at this ⊢; omega
          · exact (Below.heap_setCell _ _ _ _ (by show w.heap.size ≠ w.heap.size + 1; omega)).trans ((HB9.out _ (by omega)).trans H0.out)
          · show (w9.heap.modify (w.heap.size + 1) _)[w.heap.size + 1]? = _
            rw [Array.getElem?_modify, if_pos rfl, h9]
            rfl
          · rw [HSU.out, List.flatMap_append, List.flatMap_cons, List.flatMap_nil, List.append_nil]
            exact hown9.kept (gb_setCell _ _ _) (.inr (by show some g9 ≠ some (w.heap.size + 1); have := (hown9.lt g9 rfl).1; intro e; injection e; omega))
        case measure => simp [intOf]; omega
      · clear hO
        go_wp2_with (at_builtin; refine wpList_append_lies _ rfl _ _ 27 rfl (w.heap.size + 2) 90 i0 (.agg #[.int .i64 0, .int .i64 0, .string ⟨#[]⟩, .int .i64 0, .bool false]) 5 48 Tryz.underlying27 HI.out.1 HI.out.2.1 HI.out.2.2.1 HI.out.2.2.2 rfl (by decide) _ k _ rfl (HO.out.alloc _) ⟨wr.heap.size, 0, none⟩ 1 1 (pceC (mailP k c)) rfl rfl (cells_new wr (pceC (mailP k c)) _) (by simp [pceC, Value.oneCell']) (by decide) (by unfold maxLen; omega) (by omega) (by simp; omega) _ rfl ?_; intro g9 cap9 w9 hown9 hgrow hat9 hlt9; have hb9 := HKP.out _ w9 hgrow; have e3 : w9.cell? ⟨w.heap.size + 1, 3, none⟩ = some _ := (World.cell?_of_block (w := wr) (hb9 (w.heap.size + 1) (by omega))).trans b3; have f9 : w9.frozen? ⟨w.heap.size + 1, 3, none⟩ = false := (World.frozen?_of_block (w := wr) (hb9 (w.heap.size + 1) (by omega))).trans f3; have HB9 := Lib.hid hb9; clear hb9)
        go_roundw
        case rel =>
          have h9 : w9.heap[w.heap.size + 1]? = _ := (HB9.out _ (by omega)).trans H1.out
          refine ⟨k + 1, .slice (some ⟨g9, 0, none⟩) (k + 1) cap9, by omega, by go_num, ?_, ?_, ?_, ?_, ?_⟩
          · exact ((hB.alloc hB.size _).grown hgrow (by have := hB.size; simp; omega) (fun r e => by have := HLO.out r e; omega)).setCell (p := ⟨w.heap.size + 1, 3, none⟩) (Nat.le_succ _) _
          · have := hgrow.size
            simp [World.setCell] at this ⊢; omega
          · exact (Below.heap_setCell _ _ _ _ (by show w.heap.size ≠ w.heap.size + 1; omega)).trans ((HB9.out _ (by omega)).trans H0.out)
          · show (w9.heap.modify (w.heap.size + 1) _)[w.heap.size + 1]? = _
            rw [Array.getElem?_modify, if_pos rfl, h9]
            rfl
          · rw [HSU.out, List.flatMap_append, List.flatMap_cons, List.flatMap_nil, List.append_nil]
            exact hown9.kept (gb_setCell _ _ _) (.inr (by show some g9 ≠ some (w.heap.size + 1); have := (hown9.lt g9 rfl).1; intro e; injection e; omega))
        case measure => simp [intOf]; omega
    · obtain rfl : k = cs.length := by omega
      have z0 := cell_of_row wr w.heap.size 0 _ _ _ h0
      have z1 := cell_of_row wr w.heap.size 1 _ _ _ h0
      have z2 := cell_of_row wr w.heap.size 2 _ _ _ h0
      have z3 := cell_of_row wr w.heap.size 3 _ _ _ h0
      simp only [List.getElem?_toArray, List.getElem?_cons_zero, List.getElem?_cons_succ] at z0 z1 z2 z3
      have y : ∀ j, wr.frozen? ⟨w.heap.size, j, none⟩ = false := fun j => by simp [World.frozen?, h0]
      have y0 := y 0
      have y1 := y 1
      have y2 := y 2
      have y3 := y 3
      have HO := Lib.hid hO
      have HH0 := Lib.hid h0
      clear y h0 h1
      rcases Joins.ownsRow_forms hO with ⟨rfl, hpn⟩ | ⟨g2, cap2, rfl⟩
      · have HPN := Lib.hid hpn
        clear hpn hO
        go_wp2_with fail
        refine bodyPost_ret (results_cell_row rfl _ _ w.heap.size 29 _ (0, 0) _ rfl (set4 HH0.out) Tryz.underlying29 rfl (by kernel_rfl)) rfl ?_
        refine ⟨_, rfl, (((hB.setCell (p := ⟨w.heap.size, 0, none⟩) (Nat.le_refl _) _).setCell (p := ⟨w.heap.size, 1, none⟩) (Nat.le_refl _) _).setCell (p := ⟨w.heap.size, 2, none⟩) (Nat.le_refl _) _).setCell (p := ⟨w.heap.size, 3, none⟩) (Nat.le_refl _) _, ?_⟩
        have ho : OwnsP wr (w.heap.size + 2) (.slice none 0 0) (mail25 cs).ps := by
          unfold OwnsP mail25
          dsimp only
          rw [mailTo_len]
          exact HO.out
        exact OwnsP.mono (own_set4 ho (by omega) _ _ _ _) (Nat.le_add_right _ _)
      · clear hO
        go_wp2_with fail
        refine bodyPost_ret (results_cell_row rfl _ _ w.heap.size 29 _ (0, 0) _ rfl (set4 HH0.out) Tryz.underlying29 rfl (by kernel_rfl)) rfl ?_
        refine ⟨_, rfl, (((hB.setCell (p := ⟨w.heap.size, 0, none⟩) (Nat.le_refl _) _).setCell (p := ⟨w.heap.size, 1, none⟩) (Nat.le_refl _) _).setCell (p := ⟨w.heap.size, 2, none⟩) (Nat.le_refl _) _).setCell (p := ⟨w.heap.size, 3, none⟩) (Nat.le_refl _) _, ?_⟩
        have ho : OwnsP wr (w.heap.size + 2) (.slice (some ⟨g2, 0, none⟩) cs.length cap2) (mail25 cs).ps := by
          unfold OwnsP mail25
          dsimp only
          rw [mailTo_len]
          exact HO.out
        exact OwnsP.mono (own_set4 ho (by omega) _ _ _ _) (Nat.le_add_right _ _)
end Go.Proofs.YtojedplbhialpaaGreatDoor

/-! T8 -/
namespace Go.Proofs.YtojedplbhialpaaGreatDoor
open Go.RowKit
set_option linter.unusedVariables false
set_option maxRecDepth 100000
theorem gAll_own {ls : List Lev} {cs : List ByteArray} {ps : List Pce} {zs : List Int} (h : cs.length = ps.length) (hz : zs.length = ps.length) (hn : numsB ls.length zs = true) : OwnIn ps zs (gAll ls cs ls.length) := by
  refine ⟨fun i hi => ?_, fun x hx y hy hl i h1 h2 => ?_⟩
  · obtain ⟨h0, h1⟩ := nums_at hn i (by omega)
    obtain ⟨m, hm⟩ : ∃ m : Nat, zs[i]'(by omega) = (m : Int) := ⟨_, (Int.toNat_of_nonneg h0).symm⟩
    have hic : i < cs.length := by omega
    refine ⟨gAt ls cs ls.length m (grpOf (lv ls m) cs[i]), mem_gAll.2 ⟨m, _, by omega, nm_of hic, rfl⟩, ?_, ?_⟩
    · rw [List.getD_eq_getElem?_getD, List.getElem?_eq_getElem (by omega), Option.getD_some, hm]; rfl
    · exact mem_itm.2 ⟨i, hic, rfl, rfl⟩
  · obtain ⟨m, n, hm, hn, rfl⟩ := mem_gAll.1 hx
    obtain ⟨m', n', hm', hn', rfl⟩ := mem_gAll.1 hy
    have e : (m : Int) = (m' : Int) := hl
    obtain rfl : m = m' := by omega
    obtain ⟨j, hj, h3, rfl⟩ := mem_itm.1 h1
    obtain ⟨j', hj', h4, h5⟩ := mem_itm.1 h2
    obtain rfl : j = j' := by omega
    rw [← h3, ← h4]
theorem flat_ge {α : Type} : ∀ L : List (List α), (∀ l ∈ L, 1 ≤ l.length) → L.length ≤ L.flatten.length
  | [], _ => Nat.le_refl _
  | l :: r, h => by
    have := flat_ge r (fun x hx => h x (List.mem_cons_of_mem _ hx))
    have := h l List.mem_cons_self
    rw [List.length_cons, List.flatten_cons, List.length_append]
    omega
theorem take_flat {α β : Type} (f : α → List β) (L : List α) (n : Nat) : ((L.take n).flatMap f).length ≤ (L.flatMap f).length := by
  conv => rhs; rw [← List.take_append_drop n L, List.flatMap_append, List.length_append]
  omega
theorem pk_small {k : Pck} {ps : List Pce} {zs : List Int} {Gs : List Grp} (hk : 1 ≤ k.pieces) (hg0 : 0 ≤ k.grams) (hb : 1 ≤ k.bundles) (ht : 1 ≤ k.trays) (hg : ∀ p ∈ ps, p.grams ≤ k.grams) (hu : IdsUp ps) (hG : GrpsIn ps Gs) (ho : OwnIn ps zs Gs) (n : Nat) (hn : n ≤ Gs.length) :
    (pkTo k ps zs Gs n).buns.length ≤ ps.length ∧ (pkTo k ps zs Gs n).tras.length ≤ ps.length ∧ (pkTo k ps zs Gs n).cons.length ≤ ps.length ∧ (pkTo k ps zs Gs n).beg ≤ (pkTo k ps zs Gs n).tras.length := by
  have hok := pk_ok hb ht ps zs Gs n hn
  have hF := pk_full hb ht hG.order (ps := ps) (zs := zs) n hn
  have hids := buns_ids (zs := zs) hk hg0 hg hG
  have hperm := takes_perm hG ho
  have h1 : (pkTo k ps zs Gs n).buns.length ≤ ps.length := by
    rw [hok.buns]
    refine Nat.le_trans (take_flat _ _ _) ?_
    have h2 := flat_ge ((Gs.flatMap (bunsOf k ps zs)).map (fun b => b.ids)) (fun l hl => by
      obtain ⟨b, hb, rfl⟩ := List.mem_map.1 hl
      obtain ⟨x, hx, hb⟩ := List.mem_flatMap.1 hb
      exact List.length_pos_iff.2 ((bunsOf_in (zs := zs) hk hg0 hg hu hG hx).2 b hb).2.2.1)
    rw [flat_bs, hids, List.length_map, List.length_map, hperm.length_eq, (nums_once _).2.1] at h2
    exact h2
  have h2 := flat_ge ((pkTo k ps zs Gs n).tras.map (fun t => t.bs)) (fun l hl => by
    obtain ⟨t, ht, rfl⟩ := List.mem_map.1 hl
    exact (hF.tl t ht).1)
  rw [flat_bs, hok.nb, (nums_once _).2.1, List.length_map] at h2
  have h3 := flat_ge ((pkTo k ps zs Gs n).cons.map (fun t => t.ts)) (fun l hl => by
    obtain ⟨t, ht, rfl⟩ := List.mem_map.1 hl
    exact (hF.cl t ht).1)
  rw [flat_bs, hok.nt, (nums_once _).2.1, List.length_map] at h3
  have h4 := hok.beg
  exact ⟨h1, by omega, by omega, h4⟩
theorem pcs_ids : ∀ (ps : List Pce) (b : Int), pcsB b ps = true → (∀ p ∈ ps, b < p.id ∧ p.id ≤ 999999 ∧ 1 ≤ p.grams ∧ p.grams ≤ 50000) ∧ ps.Pairwise (fun p q => p.id < q.id)
  | [], _, _ => ⟨by simp, List.Pairwise.nil⟩
  | p :: r, b, h => by
    unfold pcsB at h
    rw [Bool.and_eq_true] at h
    obtain ⟨h1, h2⟩ := h
    obtain ⟨h3, h4⟩ := pcs_ids r p.id h2
    unfold pcB at h1
    simp only [Bool.and_eq_true, decide_eq_true_eq] at h1
    obtain ⟨⟨a1, a2, _⟩, _, a3, a4⟩ := h1
    refine ⟨fun q hq => ?_, List.pairwise_cons.2 ⟨fun q hq => (h3 q hq).1, h4⟩⟩
    rcases List.mem_cons.1 hq with rfl | hq
    · exact ⟨a1, a2, a3, a4⟩
    · obtain ⟨b1, b2⟩ := h3 q hq
      exact ⟨by omega, b2⟩
theorem mail_ids {m : Mai} (h : mailB m = true) : (∀ p ∈ m.ps, 0 < p.id ∧ p.id ≤ 999999 ∧ 1 ≤ p.grams ∧ p.grams ≤ 50000) ∧ IdsUp m.ps := by
  unfold mailB at h
  simp only [Bool.and_eq_true] at h
  obtain ⟨h1, h2⟩ := pcs_ids m.ps 0 h.2.2.2
  refine ⟨h1, fun i j hij hj => ?_⟩
  have e : ∀ q : Nat, (hq : q < m.ps.length) → pcAt m.ps (q : Int) = m.ps[q] := fun q hq => by
    unfold pcAt
    rw [Int.toNat_natCast, List.getD_eq_getElem?_getD, List.getElem?_eq_getElem hq]; rfl
  rw [e i (by omega), e j hj]
  exact List.pairwise_iff_getElem.1 h2 i j (by omega) hj hij
end Go.Proofs.YtojedplbhialpaaGreatDoor

/-! TQ -/
namespace Go.Proofs.YtojedplbhialpaaGreatDoor
open Go.RowKit Go.Maps Go.WideMaps
set_option linter.unusedVariables false
set_option maxRecDepth 100000
theorem keyed_int : Keyed Tryz.prog 3 := int_keyed Tryz.underlying3
def OwnsII (w : World) (B n : Nat) (f : Int → Option Int) (c : Nat) : Prop :=
  ∃ D : DataW Unit, w.ownsMap Tryz.prog 3 (plainElem Tryz.prog 3) B n D ∧ Maps.size D = c ∧ ∀ x : Int, (f x = none → Maps.has D (.int .i64 x) = false) ∧ ∀ y, f x = some y → Maps.has D (.int .i64 x) = true ∧ ∀ zd, D.atKey (.int .i64 x) zd = .lit (.int .i64 y)
theorem OwnsII.made (w : World) : OwnsII (w.alloc (.map #[] 0)) w.heap.size 0 (fun _ => none) 0 :=
  ⟨.map [], World.ownsMap_made _ _ _ _, rfl, fun s => ⟨fun _ => rfl, fun y h => by cases h⟩⟩
section
variable {w w' : World} {B n c : Nat} {f : Int → Option Int}
theorem OwnsII.kept {row : Option Nat} (h : OwnsII w B n f c) (hg : w.grownBy w' row) (hne : some B ≠ row) : OwnsII w' B n f c := by
  obtain ⟨D, hD, hc, hf⟩ := h
  exact ⟨D, hD.kept hg hne, hc, hf⟩
theorem OwnsII.below (h : OwnsII w B n f c) (hb : Below w.heap.size w w') : OwnsII w' B n f c := h.kept (grown_none hb) (by simp)
theorem OwnsII.look (h : OwnsII w B n f c) {t : TypeId} (ht : Tryz.prog.underlying t = some (.map 3 3)) {x : Int} (hx : (Lit.int .i64 x).wf = true) :
    (Instr.lookup t (.map (some B)) (.int .i64 x) true).run Tryz.prog w = .ok (.tuple #[.int .i64 ((f x).getD 0), .bool (f x).isSome]) w := by
  obtain ⟨D, hD, _, hf⟩ := h
  obtain ⟨v, ps, hrun, hv⟩ := hD.look_ok keyed_int ht (intLaw.zero w) (intLaw.lay 0 (by decide)) (keyOf_int_mk Tryz.underlying3 hx)
  rw [hrun]
  obtain ⟨h1, h2⟩ := hf x
  cases hfs : f x with
  | none =>
    rw [atKey_of_not_has (h1 hfs)] at hv
    rw [intLaw.inv _ _ _ hv, h1 hfs]; rfl
  | some y =>
    rw [(h2 y hfs).2] at hv
    rw [intLaw.inv _ _ _ hv, (h2 y hfs).1]; rfl
theorem OwnsII.update (h : OwnsII w B n f c) {t : TypeId} (ht : Tryz.prog.underlying t = some (.map 3 3)) (hn : n < maxLen) {x y : Int} (hx : (Lit.int .i64 x).wf = true) (hy : (Lit.int .i64 y).wf = true) (hnone : f x = none) :
    ∃ w', (Instr.mapUpdate t (.map (some B)) (.int .i64 x) (.int .i64 y)).run Tryz.prog w = .ok () w' ∧ OwnsII w' B (n + 1) (fun u => if u = x then some y else f u) (c + 1) ∧ w.grownBy w' (some B) := by
  obtain ⟨D, hD, hc, hf⟩ := h
  obtain ⟨w', hrun, h1, h2⟩ := hD.update keyed_int ht hn (keyOf_int_mk Tryz.underlying3 hx) (intLaw.lay y hy)
  have htd := hD.tidy keyed_int
  refine ⟨w', hrun, ⟨_, h1, ?_, fun u => ?_⟩, h2⟩
  · rw [size_put htd, (hf x).1 hnone, if_neg (by decide), hc]
  · have hm := hD.isMap
    have hk : WideAt.IsKeyLit (Lit.int .i64 x) := trivial
    dsimp only
    by_cases e : u = x
    · subst e
      rw [if_pos rfl]
      refine ⟨fun h => (by cases h), fun y' h => ?_⟩
      obtain rfl := Option.some.inj h
      exact ⟨has_put_same hm hk _, fun zd => atKey_put_same hm hk _ zd⟩
    · rw [if_neg e]
      have hne : Lit.int .i64 u ≠ Lit.int .i64 x := fun h => e (by injection h)
      exact ⟨fun h => by rw [← (hf u).1 h]; exact has_put_other hne _, fun y' hy => ⟨by rw [← ((hf u).2 y' hy).1]; exact has_put_other hne _, fun zd => by rw [← ((hf u).2 y' hy).2 zd]; exact atKey_put_other hne _ _⟩⟩
theorem OwnsII.drop (h : OwnsII w B n f (c + 1)) {t : TypeId} (ht : Tryz.prog.underlying t = some (.map 3 3)) {x y : Int} (hx : (Lit.int .i64 x).wf = true) (hsome : f x = some y) (ty : TypeId) :
    ∃ w', (Builtin.delete_ #[t, 3] ty #[.map (some B), .int .i64 x]).run Tryz.prog w = .ok (.tuple #[]) w' ∧ OwnsII w' B n (fun u => if u = x then none else f u) c ∧ w.grownBy w' (some B) := by
  obtain ⟨D, hD, hc, hf⟩ := h
  obtain ⟨w', hrun, h1, h2⟩ := hD.drop keyed_int ht (keyOf_int_mk Tryz.underlying3 hx) ty
  have htd := hD.tidy keyed_int
  refine ⟨w', hrun, ⟨_, h1, ?_, fun u => ?_⟩, h2.grown⟩
  · have := size_del htd (k := Lit.int .i64 x)
    rw [((hf x).2 y hsome).1, if_pos rfl, hc] at this
    omega
  · dsimp only
    by_cases e : u = x
    · subst e
      rw [if_pos rfl]
      exact ⟨fun _ => has_del_same, fun y' h => by cases h⟩
    · rw [if_neg e]
      have hne : Lit.int .i64 u ≠ Lit.int .i64 x := fun h => e (by injection h)
      exact ⟨fun h => by rw [← (hf u).1 h]; exact has_del_other hne, fun y' hy => ⟨by rw [← ((hf u).2 y' hy).1]; exact has_del_other hne, fun zd => by rw [← ((hf u).2 y' hy).2 zd]; exact atKey_del_other hne _⟩⟩
theorem OwnsII.len (h : OwnsII w B n f c) {t : TypeId} (ht : Tryz.prog.underlying t = some (.map 3 3)) (ty : TypeId) : (Builtin.len_ #[t] ty #[.map (some B)]).run Tryz.prog w = .ok (.int .i64 (c : Nat)) w := by
  obtain ⟨D, hD, hc, _⟩ := h
  rw [← hc]
  exact hD.len ht ty
end
theorem wpList_update_II (w : World) {ops : Array Oper} {rest : List Oper} {o : Oper} {a : Act} {Q : Exit → Act → World → Prop}
    (hg : o.guard = none) (m x v : Operand) (t : TypeId) (hop : o.op = Op.mapUpdate t m x v) (ht : Tryz.prog.underlying t = some (.map 3 3)) (B n c : Nat) (f : Int → Option Int)
    (hm : a.eval m = .map (some B)) (hown : OwnsII w B n f c) (hn : n < maxLen) (s y : Int) (hs : (Lit.int .i64 s).wf = true) (hy : (Lit.int .i64 y).wf = true) (hnone : f s = none) (hx : a.eval x = .int .i64 s) (hv : a.eval v = .int .i64 y)
    (hK : ∀ w', OwnsII w' B (n + 1) (fun u => if u = s then some y else f u) (c + 1) → w.grownBy w' (some B) → wpList Tryz.prog ops Q rest (a.put o.dst undef) w') : wpList Tryz.prog ops Q (o :: rest) a w := by
  refine wpList_plain hg fun K' hK' => ?_
  obtain ⟨w', hrun, r1, r2⟩ := hown.update ht hn hs hy hnone
  unfold Oper.wp
  simp [execOp, hop, hm, hx, hv, hrun, Result.andThen]
  exact hK' _ _ (hK w' r1 r2)
theorem wpList_drop_II (w : World) {ops : Array Oper} {rest : List Oper} {o : Oper} {a : Act} {Q : Exit → Act → World → Prop}
    (hg : o.guard = none) (m x : Operand) (t : TypeId) (hop : o.op = Op.call { callee := Callee.builtin Builtin.delete, args := #[m, x], argTypes := #[t, 3] }) (ht : Tryz.prog.underlying t = some (.map 3 3)) (B n c : Nat) (f : Int → Option Int)
    (hm : a.eval m = .map (some B)) (hown : OwnsII w B n f (c + 1)) (s y : Int) (hs : (Lit.int .i64 s).wf = true) (hsome : f s = some y) (hx : a.eval x = .int .i64 s)
    (hK : ∀ w', OwnsII w' B n (fun u => if u = s then none else f u) c → w.grownBy w' (some B) → wpList Tryz.prog ops Q rest (a.put o.dst (.tuple #[])) w') : wpList Tryz.prog ops Q (o :: rest) a w := by
  refine wpList_plain hg fun K' hK' => ?_
  obtain ⟨w', hrun, r1, r2⟩ := hown.drop ht hs hsome o.type
  unfold Oper.wp
  simp [execOp, hop, resolve, invoke, builtin, hm, hx, hrun, Result.andThen]
  exact hK' _ _ (hK w' r1 r2)
theorem wpList_look_II (w : World) {ops : Array Oper} {rest : List Oper} {o : Oper} {a : Act} {Q : Exit → Act → World → Prop}
    (hg : o.guard = none) (m x : Operand) (t : TypeId) (hop : o.op = Op.lookup t m x true) (ht : Tryz.prog.underlying t = some (.map 3 3)) (B n c : Nat) (f : Int → Option Int)
    (hm : a.eval m = .map (some B)) (hown : OwnsII w B n f c) (s : Int) (hs : (Lit.int .i64 s).wf = true) (hx : a.eval x = .int .i64 s) (y : Option Int) (hy : f s = y)
    (hK : wpList Tryz.prog ops Q rest (a.put o.dst (.tuple #[.int .i64 (y.getD 0), .bool y.isSome])) w) : wpList Tryz.prog ops Q (o :: rest) a w := by
  subst hy
  refine wpList_plain hg fun K' hK' => ?_
  have hrun := hown.look ht hs
  unfold Oper.wp
  simp [execOp, hop, hm, hx, hrun, Result.andThen]
  exact hK' _ _ hK
theorem wpList_len_II (w : World) {ops : Array Oper} {rest : List Oper} {o : Oper} {a : Act} {Q : Exit → Act → World → Prop}
    (hg : o.guard = none) (m : Operand) (t : TypeId) (hop : o.op = Op.call { callee := Callee.builtin Builtin.len, args := #[m], argTypes := #[t] }) (ht : Tryz.prog.underlying t = some (.map 3 3)) (B n c : Nat) (f : Int → Option Int)
    (hm : a.eval m = .map (some B)) (hown : OwnsII w B n f c)
    (hK : wpList Tryz.prog ops Q rest (a.put o.dst (.int .i64 (c : Nat))) w) : wpList Tryz.prog ops Q (o :: rest) a w := by
  refine wpList_plain hg fun K' hK' => ?_
  have hrun := hown.len ht o.type
  unfold Oper.wp
  simp [execOp, hop, resolve, invoke, builtin, hm, hrun, Result.andThen]
  exact hK' _ _ hK
open Classical in
/-- Where the piece with a number stands, if that is not among those met. -/
noncomputable def idxP (ps : List Pce) (n : Nat) (pre : List Int) (u : Int) : Option Int :=
  if h : ∃ j : Nat, j < n ∧ (pcAt ps (j : Int)).id = u ∧ u ∉ pre then some ((Classical.choose h : Nat) : Int) else none
theorem idxP_some {ps : List Pce} (hu : IdsUp ps) {n j : Nat} {pre : List Int} (hn : n ≤ ps.length) (hj : j < n) (h : (pcAt ps (j : Int)).id ∉ pre) : idxP ps n pre (pcAt ps (j : Int)).id = some (j : Int) := by
  have hex : ∃ j' : Nat, j' < n ∧ (pcAt ps (j' : Int)).id = (pcAt ps (j : Int)).id ∧ (pcAt ps (j : Int)).id ∉ pre := ⟨j, hj, rfl, h⟩
  unfold idxP
  rw [dif_pos hex]
  obtain ⟨h1, h2, _⟩ := Classical.choose_spec hex
  congr 1
  exact ids_inj hu (by constructor <;> omega) (by constructor <;> omega) h2
theorem idxP_none {ps : List Pce} {n : Nat} {pre : List Int} {u : Int} (h : ∀ j : Nat, j < n → (pcAt ps (j : Int)).id = u → u ∈ pre) : idxP ps n pre u = none := by
  unfold idxP
  rw [dif_neg]
  rintro ⟨j, h1, h2, h3⟩
  exact h3 (h j h1 h2)
theorem idxP_cases {ps : List Pce} (hu : IdsUp ps) {n : Nat} (hn : n ≤ ps.length) (pre : List Int) (u : Int) : idxP ps n pre u = none ∨ ∃ j : Nat, j < n ∧ (pcAt ps (j : Int)).id = u ∧ u ∉ pre ∧ idxP ps n pre u = some (j : Int) := by
  by_cases h : ∃ j : Nat, j < n ∧ (pcAt ps (j : Int)).id = u ∧ u ∉ pre
  · obtain ⟨j, h1, h2, h3⟩ := h
    refine .inr ⟨j, h1, h2, h3, ?_⟩
    subst h2
    exact idxP_some hu hn h1 h3
  · exact .inl (idxP_none (fun j hj he => Classical.byContradiction (fun hc => h ⟨j, hj, he, hc⟩)))
theorem idxP_succ {ps : List Pce} (hu : IdsUp ps) {j : Nat} (hj : j < ps.length) : (fun u => if u = (pcAt ps (j : Int)).id then some (j : Int) else idxP ps j [] u) = idxP ps (j + 1) [] := by
  funext u
  by_cases e : u = (pcAt ps (j : Int)).id
  · rw [if_pos e, e, idxP_some hu (by omega) (Nat.lt_succ_self _) (by simp)]
  · rw [if_neg e]
    rcases idxP_cases hu (show j ≤ ps.length by omega) [] u with h | ⟨i, h1, h2, _, h4⟩
    · rw [h]
      symm
      refine idxP_none (fun i hi he => ?_)
      exfalso
      by_cases hij : i = j
      · subst hij; exact e he.symm
      · have := idxP_some hu (show j ≤ ps.length by omega) (show i < j by omega) (pre := []) (by simp)
        rw [he, h] at this
        cases this
    · rw [h4, ← h2, idxP_some hu (by omega) (by omega) (by simp)]
theorem idxP_drop {ps : List Pce} (hu : IdsUp ps) {n : Nat} (hn : n ≤ ps.length) (pre : List Int) (x : Int) : (fun u => if u = x then none else idxP ps n pre u) = idxP ps n (pre ++ [x]) := by
  funext u
  by_cases e : u = x
  · rw [if_pos e, idxP_none (fun j _ _ => by rw [e]; simp)]
  · rw [if_neg e]
    rcases idxP_cases hu hn pre u with h | ⟨i, h1, h2, h3, h4⟩
    · rw [h]
      symm
      refine idxP_none (fun i hi he => ?_)
      refine List.mem_append_left _ (Classical.byContradiction (fun hc => ?_))
      subst he
      rw [idxP_some hu hn hi hc] at h
      cases h
    · rw [h4]
      subst h2
      rw [idxP_some hu hn h1 (by
        intro hc
        rcases List.mem_append.1 hc with hc | hc
        · exact h3 hc
        · exact e (List.mem_singleton.1 hc))]
end Go.Proofs.YtojedplbhialpaaGreatDoor
