/-
  Contract of lex.Tokens: the tokens.
-/
import Derived.Test.YtdcpmnkebhilpaaGreatDoorTo2
import Derived.Maps.AppendAt
namespace Go.Proofs.YtdcpmnkebhilpaaGreatDoor
open Go.RowKit Go.Shelf
attribute [local go_sem] Oper.semAt_some
set_option linter.unusedVariables false
theorem Tryz.infoT : (Tryz.prog.info? 50).map (fun i => (i.zero, i.size, i.bytes)) = some (some (.agg #[.string ⟨#[]⟩, .int .i64 0, .int .i64 0, .int .u16 0]), 4, 40) := by kernel_rfl
theorem tokensR_ok {ls : List ByteArray} (h6 : ls.length ≤ 6) (hl : ∀ j (hj : j < ls.length), ls[j].size ≤ 60) (hb : ∀ j (hj : j < ls.length), badB ls[j] = false) :
    tokensR ls = if 40 < (toksFrom 0 ls).length then ([], 5) else (toksFrom 0 ls, 0) := by
  unfold tokensR
  rw [if_neg (by omega), longB_false hl, badB_none hb]
  rfl
def TokW (w wr : World) : Prop := wr = (w.alloc (.cells #[.slice none 0 0] 42)).alloc (.cells #[.int .i64 0] 43)
def Boxed4 (W : World) (B : Nat) (x : Tok) : Prop := W.heap[B]? = some (.cells (tokV x) 50 (0, 0))
theorem Boxed4.keep {A C : World} {B : Nat} {x : Tok} {row : Option Nat} (h : Boxed4 A B x) (hg : A.grownBy C row) (hr : ∀ r, row = some r → ∃ o : Obj, A.heap[r]? = some o ∧ o.isCells = false) : Boxed4 C B x :=
  (hg.block B (Array.getElem?_eq_some_iff.1 h).1 (fun e => by obtain ⟨o, ho, hc⟩ := hr B e.symm; rw [show A.heap[B]? = _ from h] at ho; cases ho; cases hc)).trans h
theorem KpT.alloc {W : World} (h0 : 4 < W.heap.size) (o : Obj) : KpT W (W.alloc o) :=
  ⟨Below.heap_alloc _ _ _ h0, fun k cur t fz hk _ => Below.heap_alloc _ _ _ (Array.getElem?_eq_some_iff.1 hk).1⟩
theorem KpT.put {W : World} {D l : Nat} {o o' : Obj} (hl : D ≤ l) (h : W.heap[l]? = some o) (hc : o.isCells = false) (hD : 4 < D) : KpT W (W.putObj l o') :=
  ⟨World.putObj_heap_other (by omega), fun k cur t fz hk _ => World.putObj_heap_other (fun e => by subst e; rw [h] at hk; cases hk; cases hc)⟩
def TokI (b0 B8 : Nat) (w : World) (pre : List Tok) (W : World) : Prop :=
  ∃ v, Boxed W B8 42 v ∧ W.ownsRow (B8 + 2) 50 4 v pre.length (toksV pre) ∧ RBoxes b0 (.slice none 0 0) 0 W ∧ pre.length ≤ 40 ∧ Below b0 w W ∧ b0 + 2 ≤ B8 ∧ B8 + 2 ≤ W.heap.size
theorem TokI.keep {b0 B8 : Nat} {w : World} {pre : List Tok} {A B : World} {row : Option Nat} (h : TokI b0 B8 w pre A) (hg : A.grownBy B row) (hr : ∀ r, row = some r → B8 + 1 ≤ r ∧ (r < B8 + 2 ∨ ∃ o : Obj, A.heap[r]? = some o ∧ o.isCells = false)) : TokI b0 B8 w pre B := by
  obtain ⟨v, hb, ho, hrb, hl, hbel, hz, hz2⟩ := h
  refine ⟨v, hb.kept hg (fun e => by have := (hr _ e.symm).1; omega), ho.kept hg ?_, hrb.keep hg (fun r e => by have := (hr r e).1; omega), hl, hbel.trans ((Below.refl b0 A).grown hg (by omega) (fun r e => by have := (hr r e).1; omega)), hz, Nat.le_trans hz2 hg.size⟩
  rcases ho.2 with ⟨rfl, _⟩ | ⟨g, cap, cur, rfl, hge, hgb, _⟩
  · exact .inl rfl
  · refine .inr fun e => ?_
    obtain ⟨h1, h2⟩ := hr g (by simpa [Value.ownBlock] using e.symm)
    rcases h2 with h2 | ⟨o, ho', hc⟩
    · omega
    · rw [hgb] at ho'; cases ho'; cases hc
def TokX (b0 B8 : Nat) (w : World) (c : Code) (pre : List Tok) (W : World) : Prop :=
  c = .ret ∧ RBoxes b0 (.slice none 0 0) 5 W ∧ 40 < pre.length ∧ Below b0 w W ∧ b0 + 2 ≤ B8 ∧ B8 + 2 ≤ W.heap.size
theorem TokX.keep {b0 B8 : Nat} {w : World} {c : Code} {pre : List Tok} {A B : World} {row : Option Nat} (h : TokX b0 B8 w c pre A) (hg : A.grownBy B row) (hr : ∀ r, row = some r → B8 + 1 ≤ r) : TokX b0 B8 w c pre B :=
  ⟨h.1, h.2.1.keep hg (fun r e => by have := hr r e; have := h.2.2.2.2.1; omega), h.2.2.1, h.2.2.2.1.trans ((Below.refl b0 A).grown hg (by have := h.2.2.2.2; omega) (fun r e => by have := hr r e; have := h.2.2.2.2.1; omega)), h.2.2.2.2.1, Nat.le_trans h.2.2.2.2.2 hg.size⟩
theorem cells_new (W : World) (cs : List Value) (T : TypeId) : ∀ j u, cs[j]? = some u → (W.alloc (.cells cs.toArray T)).cell? ((⟨W.heap.size, 0, none⟩ : Addr).add j) = some u := fun j u h => by
  have hadd : (⟨W.heap.size, 0, none⟩ : Addr).add j = ⟨W.heap.size, j, none⟩ := by unfold Addr.add; split <;> simp_all
  rw [hadd, cell_of_row _ W.heap.size j _ _ _ (World.alloc_heap_new W _)]
  simpa using h
theorem KpT.set {W : World} {b : Nat} {t : TypeId} {v : Value} (h : Boxed W b t v) (ht : t ≠ 9 ∧ t ≠ 26) (hb : 4 < b) (u : Value) : KpT W (W.setCell ⟨b, 0, none⟩ u) :=
  ⟨Below.heap_setCell _ _ _ _ (by show 4 ≠ b; omega), fun k cur t' fz hk ht' => Below.heap_setCell _ _ _ _ (fun (e : k = b) => by
    subst e; rw [show W.heap[k]? = _ from h] at hk; cases hk; rcases ht' with rfl | rfl
    · exact ht.1 rfl
    · exact ht.2 rfl)⟩
theorem KpT.row51 {W W' : World} {base n : Nat} {v : Value} {xs : List Value} (ho : W.ownsRow base 50 4 v n xs) (hg : W.grownBy W' v.ownBlock) (hb : 4 < base) (h0 : 4 < W.heap.size) : KpT W W' :=
  ⟨hg.block 4 h0 (fun e => by have := (ho.lt _ e.symm).1; omega), fun k cur t fz hk ht => hg.block k (Array.getElem?_eq_some_iff.1 hk).1 (fun e => by
    rcases ho.2 with ⟨rfl, _⟩ | ⟨g, cap, cur', rfl, _, hgb, _⟩
    · simp [Value.ownBlock] at e
    · obtain rfl : k = g := by simpa [Value.ownBlock] using e
      rw [hgb] at hk; cases hk
      rcases ht with ht | ht <;> exact absurd ht (by decide))⟩
theorem tok_next {b0 B8 g' cap' : Nat} {w W w2 : World} {pre : List Tok} {wd : ByteArray} {n at_ D : Nat} {v : Value} {tmp : Obj} (hbel : Below b0 w W) (hz1 : b0 + 2 ≤ B8) (hz2 : B8 + 2 ≤ W.heap.size) (hrb : RBoxes b0 (.slice none 0 0) 0 W)
    (hv : Boxed W B8 42 v) (hown : W.ownsRow (B8 + 2) 50 4 v pre.length (toksV pre)) (hgrow : (W.alloc tmp).grownBy w2 v.ownBlock)
    (hown2 : w2.ownsRow (B8 + 2) 50 4 (.slice (some ⟨g', 0, none⟩) (pre.length + 1) cap') (pre.length + 1) (toksV pre ++ [.string wd, .int .i64 n, .int .i64 at_, .int .u16 (classesB wd)])) (hl : pre.length ≤ 39) (h00 : 4 < b0) :
    KeepsFrom D W (w2.setCell ⟨B8, 0, none⟩ (.slice (some ⟨g', 0, none⟩) (pre.length + 1) cap')) ∧ KpT W (w2.setCell ⟨B8, 0, none⟩ (.slice (some ⟨g', 0, none⟩) (pre.length + 1) cap')) ∧
    TokI b0 B8 w (pre ++ [(wd, n, at_)]) (w2.setCell ⟨B8, 0, none⟩ (.slice (some ⟨g', 0, none⟩) (pre.length + 1) cap')) := by
  have hro : ∀ r, v.ownBlock = some r → B8 + 2 ≤ r := fun r e => (hown.lt r e).1
  have hv2 := (hv.alloc tmp).kept hgrow (fun e => by have := hro _ e.symm; omega)
  have hge := (hown2.lt g' rfl).1
  have hbig : Below (B8 + 2) W w2 := ((Below.refl _ W).alloc hz2 tmp).grown hgrow (by simp; omega) hro
  refine ⟨((KeepsOthers.alloc W tmp).trans (KeepsOthers.of_grownBy hgrow fun j o ej hj => ?_)).trans (KeepsOthers.setCell _ _ _) |>.from _, ((KpT.alloc (by omega) tmp).trans (KpT.row51 (hown.alloc tmp) hgrow (by omega) (by simp <;> omega))).trans (KpT.set hv2 (by decide) (by omega) _), ?_⟩
  · rcases (hown.alloc tmp).2 with ⟨rfl, _⟩ | ⟨g, cap, cur, rfl, _, hgb, _⟩
    · simp [Value.ownBlock] at ej
    · obtain rfl : g = j := by simpa [Value.ownBlock] using ej
      rw [hgb] at hj; cases hj; rfl
  · refine ⟨_, hv2.set _, ?_, ?_, by simp; omega, ?_, hz1, ?_⟩
    · have := hown2.kept (grownBy_setCell' w2 B8 (.slice (some ⟨g', 0, none⟩) (pre.length + 1) cap')) (.inr (by simp [Value.ownBlock]; omega))
      simpa [toksV, tokV] using this
    · exact ((hrb.keep (World.grownBy_alloc W tmp none) (fun _ e => by cases e)).keep hgrow (fun r e => by have := hro r e; omega)).keep (grownBy_setCell' _ _ _) (fun r e => by cases e; omega)
    · exact (hbel.trans (hbig.mono (by omega))).setCell (p := ⟨B8, 0, none⟩) (by show b0 ≤ B8; omega) _
    · have := hbig.size; simp [World.setCell]; omega
theorem tok_fin {ls : List ByteArray} {T : List Tok} {b0 B8 D : Nat} {w W : World} {v : Value} (hR : tokensR ls = (T, 0)) (hbel : Below b0 w W) (hz1 : b0 + 2 ≤ B8) (hD : B8 + 2 ≤ D) (hown : W.ownsRow (B8 + 2) 50 4 v T.length (toksV T)) (hK : W.heap[D]? = some (.deferred (some [])))
    (hb0 : w.heap.size = b0) : TokPost ls w (.returned (.tuple #[v, .int .i64 0])) (((W.setCell ⟨b0, 0, none⟩ v).setCell ⟨b0 + 1, 0, none⟩ (.int .i64 0)).putObj D (.deferred none)) := by
  have ho : ∀ b, b < B8 + 2 → v.ownBlock = none ∨ v.ownBlock ≠ some b := fun b hb => by
    cases h : v.ownBlock with
    | none => exact .inl rfl
    | some g => refine .inr (fun e => ?_); cases e; have := (hown.lt b h).1; omega
  have hDs := (Array.getElem?_eq_some_iff.1 hK).1
  refine ⟨v, by rw [hR], ?_, ?_⟩
  · rw [hb0]
    exact ((hbel.setCell (p := ⟨b0, 0, none⟩) (Nat.le_refl _) _).setCell (p := ⟨b0 + 1, 0, none⟩) (by show b0 ≤ b0 + 1; omega) _).grown (grownBy_putObj' _ _ _) (by simp [World.setCell]; omega) (fun k e => by cases e; omega)
  · rw [hR, hb0]
    exact Joins.ownsRow_le (ownsRow_putObj ((hown.kept (grownBy_setCell' _ _ _) (ho _ (by omega))).kept (grownBy_setCell' _ _ _) (ho _ (by omega))) _ (set2_obj hK) rfl) (by omega)
theorem toks_start {ls : List ByteArray} {g cap base : Nat} {m : Int} {w wr W0 : World} (h0 : 4 < w.heap.size) (hm : w.cell? ⟨4, 0, none⟩ = some (.int .i64 m))
    (ho : w.ownsRow base 9 1 (.slice (some ⟨g, 0, none⟩) ls.length cap) ls.length (ls.map Value.string)) (hb : Below w.heap.size w wr) (hrb : RBoxes w.heap.size (.slice none 0 0) 0 wr) (hz : w.heap.size + 2 ≤ wr.heap.size)
    (hW : W0 = (wr.alloc (.cells #[.slice none 0 0] 42)).alloc (.cells #[.slice (some ⟨g, 0, none⟩) ls.length cap] 26)) :
    W0.heap.size = wr.heap.size + 2 ∧ TokI w.heap.size wr.heap.size w [] W0 ∧ WordsR (wr.heap.size + 1) m (.slice (some ⟨g, 0, none⟩) ls.length cap) base ls W0 := by
  have hbb : Below wr.heap.size wr W0 := by rw [hW]; exact ((Below.refl _ _).alloc (Nat.le_refl _) _).alloc (by simp) _
  have hbw : Below w.heap.size w W0 := hb.trans (hbb.mono (by omega))
  have hsz : W0.heap.size = wr.heap.size + 2 := by rw [hW]; simp
  refine ⟨hsz, ⟨.slice none 0 0, ?_, World.ownsRow_nil _ _ _ _, hrb.keep (grown_none hbb) (fun _ e => by cases e), Nat.zero_le _, hbw, hz, by omega⟩, ?_, ?_, ?_, by omega⟩
  · rw [hW]; exact (box_at rfl).alloc _
  · rw [hW]; exact box_at (by simp)
  · exact ho.kept (grown_none hbw) (Classical.em _)
  · exact (hbw.cell (p := ⟨4, 0, none⟩) h0).trans hm
set_option maxRecDepth 100000 in
set_option maxHeartbeats 4000000 in
theorem tokens_go (ls : List ByteArray) (g cap base : Nat) (m : Int) (w : World) (h6 : ls.length ≤ 6) (hl : ∀ j (hj : j < ls.length), ls[j].size ≤ 60) (hbad : ∀ j (hj : j < ls.length), badB ls[j] = false) (h0 : 4 < w.heap.size) (hm : w.cell? ⟨4, 0, none⟩ = some (.int .i64 m))
    (ho : w.ownsRow base 9 1 (.slice (some ⟨g, 0, none⟩) ls.length cap) ls.length (ls.map Value.string)) : Calls Tryz.prog 23 #[.slice (some ⟨g, 0, none⟩) ls.length cap] w (TokPost ls w) := by
  obtain ⟨i0, hi⟩ := info_parts Tryz.infoT
  have HI := Lib.hid hi
  clear hi
  have HL := Lib.hid hl
  have HB := Lib.hid hbad
  have HM := Lib.hid hm
  have hg := (ho.lt g rfl).2
  clear hl hbad hm
  refine (callsIn_wide (n := 0)).1 ?_
  refine callsIn_of_wp_marks Tryz.func23 rfl trivial ?_ rfl
  simp only [Tryz.ntmps23, List.size_toArray, List.length_cons, List.length_nil, Nat.reduceAdd, Nat.reduceSub, Array.replicate_succ, Array.replicate_zero, List.push_toArray, List.append_toArray, List.nil_append, List.cons_append]
  gi_wp2_with fail
  gi_loopw [15] (fun i wr => TokW w wr ∧ ∃ k : Nat, k ≤ ls.length ∧ i = .int .i64 k) (fun i _ => ls.length - (intOf i).toNat)
  case atStart => exact ⟨rfl, 0, Nat.zero_le _, rfl⟩
  case round =>
    obtain ⟨hwr, k, hk, rfl⟩ := hrel
    obtain rfl : wr = _ := hwr
    by_cases hlt : k < ls.length
    · have c1 := cell_2 (a := .cells #[.slice none 0 0] 42) (b := .cells #[.int .i64 0] 43) hg (row_cell ho hlt)
      have hm := HL.out k hlt
      gi_wp2_with fail
      go_roundw
      case rel => exact ⟨rfl, k + 1, by omega, by go_num⟩
      case measure => simp [intOf]; omega
    · gi_wp2_with fail
      obtain ⟨W2, hW2⟩ : ∃ W2, W2 = (w.alloc (.cells #[.slice none 0 0] 42)).alloc (.cells #[.int .i64 0] 43) := ⟨_, rfl⟩
      have hb2 : Below w.heap.size w W2 := by rw [hW2]; exact ((Below.refl _ w).alloc (Nat.le_refl _) _).alloc (by simp) _
      have hrb : RBoxes w.heap.size (.slice none 0 0) 0 W2 := by rw [hW2]; exact ⟨(box_at rfl).alloc _, box_at (by simp)⟩
      have hz2 : w.heap.size + 2 ≤ W2.heap.size := by rw [hW2]; simp
      rw [← hW2]
      clear hW2
      gi_loopw [25] (fun i wr => ∃ q : Nat, q ≤ ls.length ∧ i = .int .i64 q ∧ Below w.heap.size w wr ∧ RBoxes w.heap.size (.slice none 0 0) 0 wr ∧ w.heap.size + 2 ≤ wr.heap.size) (fun i _ => ls.length - (intOf i).toNat)
      case atStart => exact ⟨0, Nat.zero_le _, rfl, hb2, hrb, hz2⟩
      case round =>
        clear hb2 hrb hz2
        obtain ⟨q, hq, rfl, hb, hrb, hz⟩ := hrel
        by_cases hlt2 : q < ls.length
        · have c1 : wr.cell? ⟨g, q, none⟩ = some (.string ls[q]) := (hb.cell (p := ⟨g, q, none⟩) hg).trans (row_cell ho hlt2)
          have hm := HL.out q hlt2
          have hrc := fun w' => right_any ls[q] w' (by omega)
          have HRC := Lib.hid hrc
          clear hrc
          have hbd := HB.out q hlt2
          unfold badB at hbd
          simp only [Bool.or_eq_false_iff, decide_eq_false_iff_not, Bool.not_eq_false'] at hbd
          obtain ⟨n1, n2⟩ := hbd
          obtain ⟨ne1, ne2⟩ := ne_of_pos (s := ls[q]) (by omega)
          generalize hf : (foldL ls[q] == ls[q].data.toList) = fb at HRC n2
          subst n2
          clear hf
          gi_wp2_with (refine ⟨trivial, rfl, ?_⟩; gi_at_call 59; refine (callsIn_wide.2 (HRC.out _)).mono ?_; rintro e w1 ⟨rfl, hb1⟩)
          go_roundw
          case rel => exact ⟨q + 1, by omega, by go_num, hb.trans (hb1.mono hb.size), hrb.keep (grown_none hb1) (fun _ e => by cases e), Nat.le_trans hz hb1.size⟩
          case measure => simp [intOf]; omega
        · gi_wp2_with (refine ⟨trivial, rfl, ?_⟩; gi_at_call 60; refine (callsIn_wide.2 (words3_any _ _ _ _)).mono ?_; rintro e w1 ⟨rfl, rfl⟩)
          obtain ⟨W0, hW0⟩ : ∃ W0, W0 = (wr.alloc (.cells #[.slice none 0 0] 42)).alloc (.cells #[.slice (some ⟨g, 0, none⟩) ls.length cap] 26) := ⟨_, rfl⟩
          obtain ⟨hz0, hI0, hWR⟩ := toks_start h0 HM.out ho hb hrb hz hW0
          rw [← hW0]
          clear hW0
          generalize hB8 : wr.heap.size = B8 at hz hz0 hI0 hWR ⊢
          clear hB8 hrb
          generalize hb0 : w.heap.size = b0 at h0 hb hz hI0 ⊢
          have HB0 := Lib.hid hb0
          clear hb0
          have h00 : 4 < b0 := h0
          refine wpIn_rangeFunc_box (gf := 82) (lb := #[.pointer (some ⟨B8 + 1, 0, none⟩)]) rfl Tryz.call82 (Bs := B8 + 1) (by omega)
            (words_stops (B8 + 1) m _ base ls W0 (by omega) (fun s hs => by obtain ⟨j, hj, rfl⟩ := List.mem_iff_getElem.1 hs; have := HL.out j hj; omega) hWR)
            (fun h k => h.trans k) (fun W l o o' hl hW hc => KpT.put hl hW hc (by omega)) (fun _ => rfl)
            (TokI b0 B8 w) (TokX b0 B8 w)
            (fun s A B row h hg hr => h.keep hg (fun r e => by obtain ⟨h1, h2⟩ := hr r e; exact ⟨by omega, .inr h2⟩))
            (fun c s A B row h hg hr => h.keep hg (fun r e => by obtain ⟨h1, h2⟩ := hr r e; omega))
            (fun s A B row h hg hr => h.keep hg (fun r e => by have := hr r e; exact ⟨by omega, .inl (by omega)⟩))
            (fun c s A B row h hg hr => h.keep hg (fun r e => by have := hr r e; omega))
            hI0
            (fun x a' W => ∃ Bx, Boxed4 W Bx x ∧ a' = { tmps := #[.slice (some ⟨g, 0, none⟩) ls.length cap, undef, .pointer (some ⟨b0, 0, none⟩), .pointer (some ⟨b0 + 1, 0, none⟩), undef, u5, undef, u7, .pointer (some ⟨B8, 0, none⟩), .pointer (some ⟨Bx, 0, none⟩),
              .slice (some ⟨g, 0, none⟩) ls.length cap, .int .i64 ls.length, .bool (decide (6 < (ls.length : Int))), .slice (some ⟨g, 0, none⟩) ls.length cap, .int .i64 ls.length, .int .i64 k, .bool false, u17, u18, u19, u20, u21, u22,
              .slice (some ⟨g, 0, none⟩) ls.length cap, .int .i64 ls.length, .int .i64 q, .bool false, u27, u28, u29, u30, u31, u32, u33, u34, u35, u36, .slice (some ⟨g, 0, none⟩) ls.length cap,
              .func (.func 82) #[] #[.pointer (some ⟨B8 + 1, 0, none⟩)], .agg (tokV x), undef, undef, undef, undef, undef, undef, undef, undef], defers := [] })
            (fun x a' s A B row h hg hr => by obtain ⟨Bx, h1, h2⟩ := h; exact ⟨Bx, h1.keep hg (fun r e => (hr r e).2), h2⟩) ?assign ?body ?done ?stop
          case assign =>
            rintro l pre ⟨wd, n, at_⟩ W K hi hK
            have hzW : 4 < W.heap.size := by obtain ⟨_, _, _, _, _, _, _, h⟩ := hi; omega
            dsimp only [tokV]
            gi_wp2
            exact hK _ _ ((KeepsOthers.alloc _ _).from _) (KpT.alloc hzW _) (hi.keep (World.grownBy_alloc W _ none) (fun _ e => by cases e)) ⟨W.heap.size, World.alloc_heap_new W _, rfl⟩
          case body =>
            rintro l pre ⟨wd, n, at_⟩ a' W hI ⟨Bx, hBx, rfl⟩
            obtain ⟨v, hv, hown, hrb, hlen, hbel, hz1, hz2⟩ := hI
            have c1 := hv.cell
            have c2 := hv.frozen
            have d1 := hrb.1.cell
            have d2 := hrb.1.frozen
            have d3 := hrb.2.cell
            have d4 := hrb.2.frozen
            by_cases h40 : pre.length = 40
            · have HP := Lib.hid h40
              rw [h40] at hown
              obtain ⟨g3, cap3, rfl⟩ := Joins.ownsRow_form hown (by omega)
              clear h40
              gi_wp2_with fail
              exact ⟨((KeepsOthers.setCell _ _ _).trans (KeepsOthers.setCell _ _ _)).from _, rfl, hrb.store, by have := HP.out; simp; omega,
                (hbel.setCell (p := ⟨b0, 0, none⟩) (Nat.le_refl _) _).setCell (p := ⟨b0 + 1, 0, none⟩) (by show b0 ≤ b0 + 1; omega) _, hz1, by simpa [World.setCell] using hz2⟩
            · have hlt40 : pre.length ≤ 39 := by omega
              have hne40 : ((pre.length : Int) == 40) = false := by rw [beq_eq_false_iff_ne]; omega
              have e0 : W.cell? ⟨Bx, 0, none⟩ = some (.string wd) := (cell_of_row W Bx 0 _ _ _ hBx).trans rfl
              have e1 : W.cell? ⟨Bx, 1, none⟩ = some (.int .i64 n) := (cell_of_row W Bx 1 _ _ _ hBx).trans rfl
              have e2 : W.cell? ⟨Bx, 2, none⟩ = some (.int .i64 at_) := (cell_of_row W Bx 2 _ _ _ hBx).trans rfl
              have e3 : W.cell? ⟨Bx, 3, none⟩ = some (.int .u16 (classesB wd)) := (cell_of_row W Bx 3 _ _ _ hBx).trans rfl
              clear h40 d1 d2 d3 d4
              rcases Joins.ownsRow_forms hown with ⟨rfl, hp0⟩ | ⟨g3, cap3, rfl⟩
              · have HP := Lib.hid hp0
                clear hp0
                gi_wp2_with (gi_at_builtin; refine wpListIn_append_own _ rfl _ _ 42 rfl (B8 + 2) 50 i0 (.agg #[.string ⟨#[]⟩, .int .i64 0, .int .i64 0, .int .u16 0]) 4 40 Tryz.underlying42 HI.out.1 HI.out.2.1 HI.out.2.2.1 HI.out.2.2.2 rfl (by decide) _ _ _ rfl (hown.alloc _) ⟨W.heap.size, 0, none⟩ 1 1 [.string wd, .int .i64 n, .int .i64 at_, .int .u16 (classesB wd)] rfl rfl (cells_new _ _ _) (by simp [Value.oneCell']) (by unfold maxLen; omega) (by omega) (by simp; omega) ?_; intro v' w2 hown2 hgrow2 _; have hv2 := (hv.alloc _).kept hgrow2 (fun e => by have := (hown.lt _ e.symm).1; omega); have f1 := hv2.cell; have f2 := hv2.frozen; obtain ⟨g', cap', rfl⟩ := ownsRow_succ hown2; clear e0 e1 e2 e3 c1 c2)
                exact tok_next hbel hz1 hz2 hrb hv hown hgrow2 hown2 hlt40 h00
              · gi_wp2_with (gi_at_builtin; refine wpListIn_append_own _ rfl _ _ 42 rfl (B8 + 2) 50 i0 (.agg #[.string ⟨#[]⟩, .int .i64 0, .int .i64 0, .int .u16 0]) 4 40 Tryz.underlying42 HI.out.1 HI.out.2.1 HI.out.2.2.1 HI.out.2.2.2 rfl (by decide) _ _ _ rfl (hown.alloc _) ⟨W.heap.size, 0, none⟩ 1 1 [.string wd, .int .i64 n, .int .i64 at_, .int .u16 (classesB wd)] rfl rfl (cells_new _ _ _) (by simp [Value.oneCell']) (by unfold maxLen; omega) (by omega) (by simp; omega) ?_; intro v' w2 hown2 hgrow2 _; have hv2 := (hv.alloc _).kept hgrow2 (fun e => by have := (hown.lt _ e.symm).1; omega); have f1 := hv2.cell; have f2 := hv2.frozen; obtain ⟨g', cap', rfl⟩ := ownsRow_succ hown2; clear e0 e1 e2 e3 c1 c2)
                exact tok_next hbel hz1 hz2 hrb hv hown hgrow2 hown2 hlt40 h00
          case done =>
            rintro D xs W hD hS hI hK
            obtain rfl : xs = toksFrom 0 ls := hS
            obtain ⟨v, hv, hown, hrb, hlen, hbel, hz1, hz2⟩ := hI
            have hR : tokensR ls = (toksFrom 0 ls, 0) := by
              rw [tokensR_ok h6 HL.out HB.out, if_neg (by omega)]
            have HR := Lib.hid hR
            have c1 := hv.cell
            have d1 := hrb.1.cell
            have d2 := hrb.1.frozen
            have d3 := hrb.2.cell
            have d4 := hrb.2.frozen
            clear hR
            generalize toksFrom 0 ls = T at hown hlen HR
            rcases Joins.ownsRow_forms hown with ⟨rfl, hp0⟩ | ⟨g3, cap3, rfl⟩
            · clear hp0
              gi_wp2_with fail
              refine ⟨by simp, .inl ⟨_, _, rfl, run_takeDeferred (set2_obj hK), ?_⟩⟩
              exact ⟨_, tok_results ((hrb.store).keep (grownBy_putObj' _ _ _) (fun r e => by cases e; omega)) rfl rfl, tok_fin HR.out hbel hz1 (by omega) hown hK HB0.out⟩
            · gi_wp2_with fail
              refine ⟨by simp, .inl ⟨_, _, rfl, run_takeDeferred (set2_obj hK), ?_⟩⟩
              exact ⟨_, tok_results ((hrb.store).keep (grownBy_putObj' _ _ _) (fun r e => by cases e; omega)) rfl rfl, tok_fin HR.out hbel hz1 (by omega) hown hK HB0.out⟩
          case stop =>
            rintro D c pre W hD hS hX hK
            obtain ⟨rfl, hrb, h40, hbel, hz1, hz2⟩ := hX
            have hR : tokensR ls = ([], 5) := by
              have : 40 < (toksFrom 0 ls).length := Nat.lt_of_lt_of_le h40 hS.length_le
              rw [tokensR_ok h6 HL.out HB.out, if_pos this]
            have HR := Lib.hid hR
            clear hR
            gi_wp2_with fail
            refine ⟨by simp, .inl ⟨_, _, rfl, run_takeDeferred hK, ?_⟩⟩
            exact ⟨_, tok_results (hrb.keep (grownBy_putObj' _ _ _) (fun r e => by cases e; omega)) rfl rfl, tokens_err HR.out (by rw [HB0.out]; exact hbel.grown (grownBy_putObj' _ _ _) (by omega) (fun k e => by cases e; omega))⟩
end Go.Proofs.YtdcpmnkebhilpaaGreatDoor
