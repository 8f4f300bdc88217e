/-
  Contract of lex.Lines: the walk.
-/
import Derived.Test.YtdcpmnkebhilpaaGreatDoorLi
import Derived.Maps.AppendAt
namespace Go.Proofs.YtdcpmnkebhilpaaGreatDoor
open Go.RowKit Go.Shelf
attribute [local go_sem] Oper.semAt_some
set_option linter.unusedVariables false
theorem results_cell2 {fn : Func} {p q : Tmp} {tp tq : TypeId} (h : fn.results = #[.cell p tp, .cell q tq]) (tmps : Array Value) (P : Program) (w : World) :
    (results fn tmps).run P w = ((asAddr (tmps.getD p undef)).run P w).andThen fun a w₁ => ((loadVar tp a).run P w₁).andThen fun v w₂ => ((asAddr (tmps.getD q undef)).run P w₂).andThen fun b w₃ => ((loadVar tq b).run P w₃).andThen fun u w₄ => .ok (.tuple #[v, u]) w₄ := by
  simp only [results, h]
  simp [Sem.run_bind, Result.andThen]
theorem keepsFrom_below {W W' : World} (h : Below W.heap.size W W') (B : Nat) : KeepsFrom B W W' := ⟨h.size, fun k o _ hk _ => (h.block k (Array.getElem?_eq_some_iff.1 hk).1).trans hk⟩
theorem keep_row {b0 : Nat} {W w2 : World} {e : TypeId} {v : Value} {k : Nat} {xs : List Value} {tmp : Obj} (hz : b0 + 7 ≤ W.heap.size) (ho : W.ownsRow (b0 + 7) e 1 v k xs) (hg : (W.alloc tmp).grownBy w2 v.ownBlock) :
    KeepsOthers W w2 ∧ Below (b0 + 7) W w2 := by
  refine ⟨(KeepsOthers.alloc W tmp).trans (KeepsOthers.of_grownBy hg fun j o ej hj => ?_), ((Below.refl _ W).alloc hz tmp).grown hg (by simp; omega) (fun r e => (ho.lt r e).1)⟩
  rcases (ho.alloc tmp).2 with ⟨rfl, _⟩ | ⟨g, cap, cur, rfl, _, hgb, _⟩
  · simp [Value.ownBlock] at ej
  · obtain rfl : g = j := by simpa [Value.ownBlock] using ej
    rw [hgb] at hj; cases hj; rfl
theorem longB_snoc (L : List ByteArray) (F : List UInt8) : longB (L ++ [⟨F.toArray⟩]) = (longB L || decide (60 < (F.length : Int))) := by
  unfold longB
  rw [List.any_append]
  congr 1
  have : (⟨F.toArray⟩ : ByteArray).size = F.length := by show F.toArray.size = _; simp
  simp [this]; omega
theorem LBoxes.stores {b0 : Nat} {v v' : Value} {lg nl : Bool} {w2 : World} (h : LBoxes b0 v lg w2) : LBoxes b0 v' nl ((w2.setCell ⟨b0 + 1 + 1, 0, none⟩ v').setCell ⟨b0 + 1 + 1 + 1, 0, none⟩ (.bool nl)) :=
  ⟨(h.1.set v').kept (grownBy_setCell' _ _ _) (by simp), (h.2.1.kept (grownBy_setCell' _ _ _) (by simp)).set _, (h.2.2.1.kept (grownBy_setCell' _ _ _) (by simp; try omega)).kept (grownBy_setCell' _ _ _) (by simp; try omega),
   (h.2.2.2.1.kept (grownBy_setCell' _ _ _) (by simp; try omega)).kept (grownBy_setCell' _ _ _) (by simp; try omega), by have := h.2.2.2.2; simpa [World.setCell] using this⟩
theorem kp3_set {b0 : Nat} {W w1 w2 : World} {a b : Value} (hb1 : Below W.heap.size W w1) (hsz : b0 + 7 ≤ W.heap.size) (hb2 : Below (b0 + 7) w1 w2) :
    Kp3 (b0 + 1 + 1 + 1 + 1) W ((w2.setCell ⟨b0 + 1 + 1, 0, none⟩ a).setCell ⟨b0 + 1 + 1 + 1, 0, none⟩ b) := fun k h1 h2 => by
  rw [Below.heap_setCell _ _ _ _ (by show k ≠ b0 + 1 + 1 + 1; omega), Below.heap_setCell _ _ _ _ (by show k ≠ b0 + 1 + 1; omega)]
  exact (hb2.block k (by omega)).trans (hb1.block k (by omega))
theorem lines_next {b0 g' cap' : Nat} {w W w1 w2 : World} {pre : List Txt} {x : Txt} {L : List ByteArray} {F : List UInt8} {lg nl : Bool} {v : Value} (hb1 : Below W.heap.size W w1) (hbel : Below b0 w W) (hsz : b0 + 7 ≤ W.heap.size)
    (hbx : LBoxes b0 v lg w2) (hb2 : KeepsOthers w1 w2 ∧ Below (b0 + 7) w1 w2)
    (hown : w2.ownsRow (b0 + 7) 9 1 (.slice (some ⟨g', 0, none⟩) (L.length + 1) cap') (L.length + 1) (L.map Value.string ++ [.string ⟨F.toArray⟩])) (hs : linesOf (txts (pre ++ [x])) = L ++ [⟨F.toArray⟩]) (hl : L.length + 1 ≤ 6)
    (hnl : longB (L ++ [⟨F.toArray⟩]) = nl) :
    KeepsFrom (b0 + 7) W ((w2.setCell ⟨b0 + 1 + 1, 0, none⟩ (.slice (some ⟨g', 0, none⟩) (L.length + 1) cap')).setCell ⟨b0 + 1 + 1 + 1, 0, none⟩ (.bool nl)) ∧
    Kp3 (b0 + 1 + 1 + 1 + 1) W ((w2.setCell ⟨b0 + 1 + 1, 0, none⟩ (.slice (some ⟨g', 0, none⟩) (L.length + 1) cap')).setCell ⟨b0 + 1 + 1 + 1, 0, none⟩ (.bool nl)) ∧
    LinesI b0 w (pre ++ [x]) ((w2.setCell ⟨b0 + 1 + 1, 0, none⟩ (.slice (some ⟨g', 0, none⟩) (L.length + 1) cap')).setCell ⟨b0 + 1 + 1 + 1, 0, none⟩ (.bool nl)) := by
  refine ⟨(keepsFrom_below hb1 _).trans (((hb2.1.trans (KeepsOthers.setCell _ _ _)).trans (KeepsOthers.setCell _ _ _)).from _), kp3_set hb1 hsz hb2.2, ?_⟩
  have hge := (hown.lt g' rfl).1
  refine ⟨.slice (some ⟨g', 0, none⟩) (L.length + 1) cap', by rw [hs, hnl]; exact hbx.stores, ?_, by rw [hs]; simpa using hl, ?_⟩
  · rw [hs]
    have := (hown.kept (grownBy_setCell' w2 (b0 + 1 + 1) (.slice (some ⟨g', 0, none⟩) (L.length + 1) cap')) (.inr (by simp [Value.ownBlock]; omega))).kept (grownBy_setCell' _ (b0 + 1 + 1 + 1) (.bool nl)) (.inr (by simp [Value.ownBlock]; omega))
    simpa using this
  · exact (((hbel.trans (hb1.mono (by omega))).trans (hb2.2.mono (by omega))).setCell (p := ⟨b0 + 1 + 1, 0, none⟩) (by show b0 ≤ b0 + 1 + 1; omega) _).setCell (p := ⟨b0 + 1 + 1 + 1, 0, none⟩) (by show b0 ≤ b0 + 1 + 1 + 1; omega) _
theorem lines_over {b0 : Nat} {w W w1 w2 : World} {pre : List Txt} {x : Txt} {L : List ByteArray} {F : List UInt8} {lg nl : Bool} {v v' : Value} (hb1 : Below W.heap.size W w1) (hbel : Below b0 w W) (hsz : b0 + 7 ≤ W.heap.size)
    (hbx : LBoxes b0 v lg w2) (hb2 : KeepsOthers w1 w2 ∧ Below (b0 + 7) w1 w2) (hs : linesOf (txts (pre ++ [x])) = L ++ [⟨F.toArray⟩]) (hl : 6 < L.length + 1) :
    KeepsFrom (b0 + 7) W ((((w2.setCell ⟨b0 + 1 + 1, 0, none⟩ v').setCell ⟨b0 + 1 + 1 + 1, 0, none⟩ (.bool nl)).setCell ⟨b0, 0, none⟩ (.slice none 0 0)).setCell ⟨b0 + 1, 0, none⟩ (.int .i64 5)) ∧
    LinesX b0 w .ret (pre ++ [x]) ((((w2.setCell ⟨b0 + 1 + 1, 0, none⟩ v').setCell ⟨b0 + 1 + 1 + 1, 0, none⟩ (.bool nl)).setCell ⟨b0, 0, none⟩ (.slice none 0 0)).setCell ⟨b0 + 1, 0, none⟩ (.int .i64 5)) := by
  have hst := hbx.stores (v' := v') (nl := nl)
  refine ⟨(keepsFrom_below hb1 _).trans (((((hb2.1.trans (KeepsOthers.setCell _ _ _)).trans (KeepsOthers.setCell _ _ _)).trans (KeepsOthers.setCell _ _ _)).trans (KeepsOthers.setCell _ _ _)).from _), rfl, ?_, ?_, by rw [hs]; simpa using hl, ?_, ?_⟩
  · exact (hst.2.2.1.set _).kept (grownBy_setCell' _ _ _) (by simp)
  · exact (hst.2.2.2.1.kept (grownBy_setCell' _ _ _) (by simp)).set _
  · exact (((((hbel.trans (hb1.mono (by omega))).trans (hb2.2.mono (by omega))).setCell (p := ⟨b0 + 1 + 1, 0, none⟩) (by show b0 ≤ b0 + 1 + 1; omega) _).setCell (p := ⟨b0 + 1 + 1 + 1, 0, none⟩) (by show b0 ≤ b0 + 1 + 1 + 1; omega) _).setCell (p := ⟨b0, 0, none⟩) (Nat.le_refl _) _).setCell (p := ⟨b0 + 1, 0, none⟩) (by show b0 ≤ b0 + 1; omega) _
  · have := hst.2.2.2.2; simpa [World.setCell] using this
theorem set2_obj {W : World} {a b : Addr} {u v : Value} {D : Nat} {o : Obj} (h : W.heap[D]? = some o) (ho : o.isCells = false := by rfl) : ((W.setCell a u).setCell b v).heap[D]? = some o :=
  ((KeepsOthers.setCell W a u).trans (KeepsOthers.setCell _ b v)).same D _ h ho
theorem lines_end {b0 : Nat} {s : ByteArray} {w W : World} {v : Value} {n : Int} {r : List ByteArray} {tmps : Array Value} (h1 : Boxed W b0 26 v) (h2 : Boxed W (b0 + 1) 43 (.int .i64 n)) (hr : linesR s = (r, n)) (hbel : Below b0 w W)
    (hown : W.ownsRow b0 9 1 v r.length (r.map Value.string)) (hb0 : w.heap.size = b0) (t2 : tmps.getD 2 undef = .pointer (some ⟨b0, 0, none⟩) := by rfl) (t3 : tmps.getD 3 undef = .pointer (some ⟨b0 + 1, 0, none⟩) := by rfl) :
    ∃ x, (results Tryz.f25 tmps).run Tryz.prog W = .ok x W ∧ ∃ v, Ending.returned x = .returned (.tuple #[v, .int .i64 (linesR s).2]) ∧ Below w.heap.size w W ∧ W.ownsRow w.heap.size 9 1 v (linesR s).1.length ((linesR s).1.map Value.string) := by
  subst hb0
  have c1 := h1.cell
  have c2 := h2.cell
  refine ⟨.tuple #[v, .int .i64 n], ?_, v, by rw [hr], hbel, by rw [hr]; exact hown⟩
  rw [results_cell2 Tryz.results25, t2, t3]
  simp [asAddr, go_sem, c1, c2]
theorem lines_fin {b0 D : Nat} {s : ByteArray} {w W : World} {v v' : Value} {lg : Bool} {n : Int} {r : List ByteArray} {tmps : Array Value} (hbx : LBoxes b0 v lg W) (hK : W.heap[D]? = some (.deferred (some []))) (hD : b0 + 7 ≤ D) (hr : linesR s = (r, n)) (hbel : Below b0 w W)
    (hown : W.ownsRow (b0 + 7) 9 1 v' r.length (r.map Value.string)) (hb0 : w.heap.size = b0) (t2 : tmps.getD 2 undef = .pointer (some ⟨b0, 0, none⟩) := by rfl) (t3 : tmps.getD 3 undef = .pointer (some ⟨b0 + 1, 0, none⟩) := by rfl) :
    ∃ x, (results Tryz.f25 tmps).run Tryz.prog (((W.setCell ⟨b0, 0, none⟩ v').setCell ⟨b0 + 1, 0, none⟩ (.int .i64 n)).putObj D (.deferred none)) = .ok x (((W.setCell ⟨b0, 0, none⟩ v').setCell ⟨b0 + 1, 0, none⟩ (.int .i64 n)).putObj D (.deferred none)) ∧
      ∃ v, Ending.returned x = .returned (.tuple #[v, .int .i64 (linesR s).2]) ∧ Below w.heap.size w (((W.setCell ⟨b0, 0, none⟩ v').setCell ⟨b0 + 1, 0, none⟩ (.int .i64 n)).putObj D (.deferred none)) ∧
      (((W.setCell ⟨b0, 0, none⟩ v').setCell ⟨b0 + 1, 0, none⟩ (.int .i64 n)).putObj D (.deferred none)).ownsRow w.heap.size 9 1 v (linesR s).1.length ((linesR s).1.map Value.string) := by
  have hz := hbx.2.2.2.2
  have ho : ∀ b, b < b0 + 7 → v'.ownBlock = none ∨ v'.ownBlock ≠ some b := fun b hb => by
    cases h : v'.ownBlock with
    | none => exact .inl rfl
    | some g => refine .inr (fun e => ?_); cases e; have := (hown.lt b h).1; omega
  refine lines_end (v := v') ?_ ?_ hr ?_ ?_ hb0 t2 t3
  · exact ((hbx.2.2.1.set v').kept (grownBy_setCell' _ _ _) (by simp)).kept (grownBy_putObj' _ _ _) (by simp; omega)
  · exact ((hbx.2.2.2.1.kept (grownBy_setCell' _ _ _) (by simp)).set _).kept (grownBy_putObj' _ _ _) (by simp; omega)
  · exact ((hbel.setCell (p := ⟨b0, 0, none⟩) (Nat.le_refl _) _).setCell (p := ⟨b0 + 1, 0, none⟩) (by show b0 ≤ b0 + 1; omega) _).grown (grownBy_putObj' _ _ _) (by simp [World.setCell]; omega) (fun k e => by cases e; omega)
  · exact Joins.ownsRow_le (ownsRow_putObj ((hown.kept (grownBy_setCell' _ _ _) (ho _ (by omega))).kept (grownBy_setCell' _ _ _) (ho _ (by omega))) _ (set2_obj hK) rfl) (by omega)
set_option maxHeartbeats 2000000 in
theorem lines_any (s : ByteArray) (w : World) (hs : s.size ≤ 60000) :
    Calls Tryz.prog 25 #[.string s] w fun e w' => ∃ v, e = .returned (.tuple #[v, .int .i64 (linesR s).2]) ∧ Below w.heap.size w w' ∧ w'.ownsRow w.heap.size 9 1 v (linesR s).1.length ((linesR s).1.map Value.string) := by
  obtain ⟨i0, hi⟩ := info_parts Tryz.infoS
  have HI := Lib.hid hi
  clear hi
  refine (callsIn_wide (n := 0)).1 ?_
  refine callsIn_of_wp_marks Tryz.func25 rfl trivial ?_ rfl
  simp only [Tryz.ntmps25, List.size_toArray, List.length_cons, List.length_nil, Nat.reduceAdd, Nat.reduceSub, Array.replicate_succ, Array.replicate_zero, List.push_toArray, List.append_toArray, List.nil_append, List.cons_append]
  gi_wp2_with (refine ⟨trivial, rfl, ?_⟩; gi_at_call 62; refine (callsIn_wide.2 (splitSeq_any _ _)).mono ?_; rintro e w' ⟨rfl, rfl⟩)
  obtain ⟨hz, hI0, q1, q2, q3⟩ := linesW0_facts s w
  change Code.wpIn _ _ _ _ _ _ (linesW0 s w)
  generalize linesW0 s w = W0 at hz hI0 q1 q2 q3 ⊢
  generalize hb0 : w.heap.size = b0 at hz hI0 q1 q2 q3 ⊢
  have HB0 := Lib.hid hb0
  clear hb0
  refine wpIn_rangeFunc_box (gf := 106) (lb := #[.pointer (some ⟨b0 + 1 + 1 + 1 + 1 + 1, 0, none⟩), .pointer (some ⟨b0 + 1 + 1 + 1 + 1, 0, none⟩), .pointer (some ⟨b0 + 1 + 1 + 1 + 1 + 1 + 1, 0, none⟩)]) rfl Tryz.call106 (Bs := b0 + 1 + 1 + 1 + 1) (by omega)
    (splitSeq_stops (b0 + 1 + 1 + 1 + 1) s W0 hs (by omega) q1 q2 q3)
    (fun h k i a b => (k i a b).trans (h i a b)) (fun W l o o' hl _ _ i a b => World.putObj_heap_other (by omega)) (fun _ => rfl)
    (LinesI b0 w) (LinesX b0 w)
    (fun s A B row h hg hr => h.keep hg (fun r e => by obtain ⟨h1, h2⟩ := hr r e; exact ⟨by omega, .inr h2⟩))
    (fun c s A B row h hg hr => h.keep hg (fun r e => by obtain ⟨h1, h2⟩ := hr r e; omega))
    (fun s A B row h hg hr => h.keep hg (fun r e => by have := hr r e; exact ⟨by omega, .inl (by omega)⟩))
    (fun c s A B row h hg hr => h.keep hg (fun r e => by have := hr r e; omega))
    hI0
    (fun x a' W => a' = { tmps := #[.string s, undef, .pointer (some ⟨b0, 0, none⟩), .pointer (some ⟨b0 + 1, 0, none⟩), .pointer (some ⟨b0 + 1 + 1, 0, none⟩), .pointer (some ⟨b0 + 1 + 1 + 1, 0, none⟩), .string x.1, undef, .string s,
      .func (.func 106) #[] #[.pointer (some ⟨b0 + 1 + 1 + 1 + 1 + 1, 0, none⟩), .pointer (some ⟨b0 + 1 + 1 + 1 + 1, 0, none⟩), .pointer (some ⟨b0 + 1 + 1 + 1 + 1 + 1 + 1, 0, none⟩)], .string x.1,
      undef, undef, undef, undef, undef, undef, undef, undef, undef, undef, undef, undef, undef, undef, undef, undef, undef, undef, undef], defers := [] })
    (fun x a' s A B row h _ _ => h) ?assign ?body ?done ?stop
  case assign =>
    intro l pre x W K hi hK
    gi_wp2
    exact hK _ _ (KeepsFrom.refl _ _) (fun _ _ _ => rfl) hi rfl
  case body =>
    rintro l pre x a' W hI rfl
    have hI' := hI
    obtain ⟨v, hbx, hown, hlen, hbel⟩ := hI'
    have hsn := linesOf_snoc pre x
    have hszW := hbx.2.2.2.2
    by_cases hF : foldL x.1 = []
    · have hsn2 : linesOf (txts (pre ++ [x])) = linesOf (txts pre) := by rw [hsn, hF]; simp
      have HF := Lib.hid hF
      have HS := Lib.hid hsn2
      clear hF hsn hsn2 hbx hown hlen hbel
      have HII := Lib.hid hI
      clear hI
      gi_wp2_with (refine ⟨trivial, rfl, ?_⟩; gi_at_call 63; refine (CallsIn.inRound l (callsIn_wide.2 (fold_any _ _ x.2))).mono ?_; rintro e w1 ⟨rfl, hb1⟩; rw [HF.out])
      exact ⟨keepsFrom_below hb1 _, fun k _ h => hb1.block k (by omega), by
        have := HII.out.keep (grown_of_below hb1) (fun _ e => by cases e)
        unfold LinesI at this ⊢
        rw [HS.out]
        exact this⟩
    · have hpos : 0 < (foldL x.1).length := List.length_pos_iff.2 hF
      rw [if_pos hpos] at hsn
      have hne : (foldL x.1).isEmpty = false := by cases h : foldL x.1 <;> simp_all
      have hfc := fun (w : World) => fold_any x.1 w x.2
      generalize foldL x.1 = F at hF hpos hsn hne hfc
      have HC := Lib.hid hfc
      have HS := Lib.hid hsn
      clear hfc hsn hI
      generalize hL : linesOf (txts pre) = L at *
      generalize hlg : longB L = lg at *
      have HLG := Lib.hid hlg
      clear hlg hL
      cases lg
      all_goals
        gi_wp2_with (first
          | (refine ⟨trivial, rfl, ?_⟩; gi_at_call 63; refine (CallsIn.inRound l (callsIn_wide.2 (HC.out _))).mono ?_; rintro e w1 ⟨rfl, hb1⟩; have hbx1 := hbx.keep (grown_of_below hb1) (fun _ e => by cases e); have hown1 := hown.kept (grown_of_below hb1) (Classical.em _); have hsz1 := hbx1.2.2.2.2; have c1 := hbx1.1.cell; have c2 := hbx1.1.frozen; clear hbx hown)
          | (gi_at_builtin; refine wpListIn_append_own _ rfl _ _ 26 rfl (b0 + 7) 9 i0 (.string ⟨#[]⟩) 1 16 Tryz.underlying26 HI.out.1 HI.out.2.1 HI.out.2.2.1 HI.out.2.2.2 rfl (by decide) _ _ _ rfl (hown1.alloc _) ⟨w1.heap.size, 0, none⟩ 1 1 [.string ⟨F.toArray⟩] rfl rfl (cell_one_new _ _ _) (by simp [Value.oneCell']) (by unfold maxLen; omega) (by omega) (by simp; omega) ?_; intro v' w2 hown2 hgrow2 _; have hbx2 := (hbx1.keep (World.grownBy_alloc w1 _ none) (fun _ e => by cases e)).keep hgrow2 (fun r e => by have := (hown1.lt r e).1; omega); have hb2 := keep_row hbx1.2.2.2.2 hown1 hgrow2; obtain ⟨g', cap', rfl⟩ := ownsRow_succ hown2; have d1 := hbx2.1.cell; have d2 := hbx2.1.frozen; have d3 := hbx2.2.1.cell; have d4 := hbx2.2.1.frozen; have d5 := hbx2.2.2.1.cell; have d6 := hbx2.2.2.1.frozen; have d7 := hbx2.2.2.2.1.cell; have d8 := hbx2.2.2.2.1.frozen; clear c1 c2 hgrow2 hown1))
        all_goals rw [hz]
        · exact lines_over hb1 hbel hszW hbx2 hb2 HS.out (by omega)
        · exact lines_next hb1 hbel hszW hbx2 hb2 hown2 HS.out (by omega) (by rw [longB_snoc, HLG.out]; simp)
  case done =>
    rintro D xs W hD hS ⟨v, hbx, hown, hlen, hbel⟩ hK
    have e1 : linesOf (txts xs) = linesB s := by unfold linesB; rw [← hS]; rfl
    rw [e1] at hbx hown hlen
    clear e1 hS hI0 q1 q2 q3 HI
    have hrr : linesR s = if longB (linesB s) then ([], 3) else (linesB s, 0) := by unfold linesR; rw [if_neg (by omega)]
    generalize linesB s = L at hbx hown hlen hrr
    generalize hlg : longB L = lg at hbx hrr
    have HR := Lib.hid hrr
    clear hrr hlg
    have d1 := hbx.1.cell
    have d3 := hbx.2.1.cell
    have d5 := hbx.2.2.1.cell
    have d6 := hbx.2.2.1.frozen
    have d7 := hbx.2.2.2.1.cell
    have d8 := hbx.2.2.2.1.frozen
    cases lg
    · rcases Joins.ownsRow_forms hown with ⟨rfl, h0⟩ | ⟨g, cap, rfl⟩
      · gi_wp2_with fail
        refine ⟨by simp, .inl ⟨_, _, rfl, run_takeDeferred (set2_obj hK), ?_⟩⟩
        have hR : linesR s = (L, 0) := by simpa using HR.out
        refine lines_fin hbx hK (by omega) hR hbel hown HB0.out ?_ ?_ <;> rfl
      · gi_wp2_with fail
        refine ⟨by simp, .inl ⟨_, _, rfl, run_takeDeferred (set2_obj hK), ?_⟩⟩
        have hR : linesR s = (L, 0) := by simpa using HR.out
        refine lines_fin hbx hK (by omega) hR hbel hown HB0.out ?_ ?_ <;> rfl
    · gi_wp2_with fail
      refine ⟨by simp, .inl ⟨_, _, rfl, run_takeDeferred (set2_obj hK), ?_⟩⟩
      have hR : linesR s = ([], 3) := by simpa using HR.out
      refine lines_fin hbx hK (by omega) hR hbel (World.ownsRow_nil _ _ _ _) HB0.out ?_ ?_ <;> rfl
  case stop =>
    rintro D c pre W hD hS ⟨rfl, b1, b2, hl, hbel, hsz⟩ hK
    have hR : linesR s = ([], 5) := by
      have : 6 < (linesB s).length := by
        obtain ⟨t, ht⟩ := hS
        unfold linesB
        rw [← ht]
        have e : linesOf (List.map (fun x : Txt => x.1.data.toList) pre ++ t) = linesOf (txts pre) ++ linesOf t := by unfold linesOf txts; simp
        rw [e]; simp; omega
      unfold linesR
      rw [if_pos this]
    have HR := Lib.hid hR
    clear hR
    gi_wp2_with fail
    refine ⟨by simp, .inl ⟨_, _, rfl, run_takeDeferred hK, ?_⟩⟩
    exact lines_end (hb0 := HB0.out) (b1.kept (grownBy_putObj' _ _ _) (by simp; omega)) (b2.kept (grownBy_putObj' _ _ _) (by simp; omega)) HR.out (hbel.grown (grownBy_putObj' _ _ _) (by omega) (fun k e => by cases e; omega)) (World.ownsRow_nil _ _ _ _)
end Go.Proofs.YtdcpmnkebhilpaaGreatDoor
