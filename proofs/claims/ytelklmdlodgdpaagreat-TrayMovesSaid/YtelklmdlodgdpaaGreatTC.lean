/-
  Rows of bundles of the call's own; the function that makes a fresh filling; the state of tray.bundlesOf in plain words.
-/
import Derived.Test.YtelklmdlodgdpaaGreatTB
namespace Go.Proofs.YtelklmdlodgdpaaGreat
open Go.RowKit Go.Sort
set_option linter.unusedVariables false
set_option maxRecDepth 100000
theorem Tryz.infoB4 : (Tryz.prog.info? 47).map (fun i => (i.zero, i.size, i.bytes)) = some (some (.agg #[.int .i64 0, .string ⟨#[]⟩, .slice none 0 0, .int .i64 0]), 4, 56) := by kernel_rfl
def bunCell (p : Bun × Value) : List Value := [.int .i64 p.1.lvl, .string p.1.grp, p.2, .int .i64 p.1.grams]
/-- A row of bundles of the call's own, each with a row of numbers of the call's own. -/
def OwnsB (w : World) (base : Nat) (v : Value) (bs : List Bun) : Prop :=
  ∃ L : List (Bun × Value), L.map Prod.fst = bs ∧ (∀ p ∈ L, RowJ w base p.2 p.1.ids) ∧ w.ownsRow base 47 4 v L.length (L.flatMap bunCell)
theorem OwnsB.nil (w : World) (base : Nat) : OwnsB w base (.slice none 0 0) [] := ⟨[], rfl, by simp, World.ownsRow_nil _ _ _ _⟩
theorem OwnsB.below {w w' : World} {base : Nat} {v : Value} {bs : List Bun} (h : OwnsB w base v bs) (hb : Below w.heap.size w w') : OwnsB w' base v bs := by
  obtain ⟨L, hL, h1, h2⟩ := h
  exact ⟨L, hL, fun p hp => (h1 p hp).below hb, row_belowT h2 hb⟩
theorem OwnsB.mono {w : World} {base base' : Nat} {v : Value} {bs : List Bun} (h : OwnsB w base v bs) (hb : base' ≤ base) : OwnsB w base' v bs := by
  obtain ⟨L, hL, h1, h2⟩ := h
  exact ⟨L, hL, fun p hp => (h1 p hp).mono hb, own_mono h2 hb⟩
theorem OwnsB.form {w : World} {base : Nat} {v : Value} {bs : List Bun} (h : OwnsB w base v bs) : ∃ a cap, v = .slice a bs.length cap := by
  obtain ⟨L, rfl, _, ho⟩ := h
  rw [List.length_map]
  exact own_form ho
theorem OwnsB.add {W3 w2 : World} {base : Nat} {v v' u : Value} {b : Bun} {L : List (Bun × Value)} (hr : ∀ p ∈ L, RowJ W3 base p.2 p.1.ids) (hu : RowJ W3 base u b.ids) (hO : W3.ownsRow base 47 4 v L.length (L.flatMap bunCell)) (hg : W3.grownBy w2 v.ownBlock)
    (ho : w2.ownsRow base 47 4 v' (L.length + 1) (L.flatMap bunCell ++ bunCell (b, u))) : OwnsB w2 base v' (L.map Prod.fst ++ [b]) := by
  have nA := own_not hO (T := 3) (by decide)
  refine ⟨L ++ [(b, u)], by rw [List.map_append]; rfl, fun p hp => ?_, ?_⟩
  · rcases List.mem_append.1 hp with hp | hp
    · exact (hr p hp).kept hg (fun g e => .inr (nA g e))
    · rw [List.mem_singleton.1 hp]; exact hu.kept hg (fun g e => .inr (nA g e))
  · rw [List.flatMap_append, List.length_append, List.flatMap_singleton]
    simpa using ho
set_option maxHeartbeats 8000000 in
theorem fresh_any (lvl : Int) (nm : ByteArray) (k : Pck) (X Y : Nat) (w : World) (h0 : w.cell? ⟨X, 0, none⟩ = some (.int .i64 lvl)) (h1 : w.cell? ⟨X, 1, none⟩ = some (.string nm)) (y0 : w.cell? ⟨Y, 0, none⟩ = some (.int .i64 k.pieces)) (y1 : w.cell? ⟨Y, 1, none⟩ = some (.int .i64 k.grams)) (y2 : w.cell? ⟨Y, 2, none⟩ = some (.int .i64 k.bundles)) (y3 : w.cell? ⟨Y, 3, none⟩ = some (.int .i64 k.trays)) :
    Calls Tryz.prog 55 #[.pointer (some ⟨X, 0, none⟩), .pointer (some ⟨Y, 0, none⟩)] w fun e w' => e = .returned (.pointer (some ⟨w.heap.size, 0, none⟩)) ∧ w' = w.alloc (filC lvl nm (.slice none 0 0) 0 k) := by
  go_enter Tryz.func55, Tryz.ntmps55
  go_wp2_with fail
  go_ret
  exact ⟨rfl, rfl⟩
/-- The state of tray.bundlesOf after so many items. -/
def stq (k : Pck) (ps : List Pce) (zs : List Int) (x : Grp) (q : Nat) : List (List Int) × List Int := cutTo k ps ((x.items.take q).filter (fun i => decide (zs.getD i.toNat (-1) = x.lvl)))
theorem stq_zero (k : Pck) (ps : List Pce) (zs : List Int) (x : Grp) : stq k ps zs x 0 = ([], []) := rfl
theorem stq_end (k : Pck) (ps : List Pce) (zs : List Int) (x : Grp) : stq k ps zs x x.items.length = cutTo k ps (takesOf zs x) := by unfold stq takesOf; rw [List.take_length]
theorem stq_skip {k : Pck} {ps : List Pce} {zs : List Int} {x : Grp} {q : Nat} (h : q < x.items.length) (hne : zs.getD (x.items[q]).toNat (-1) ≠ x.lvl) : stq k ps zs x (q + 1) = stq k ps zs x q := by
  unfold stq
  rw [List.take_succ_eq_append_getElem h, List.filter_append, List.filter_cons, if_neg (by simpa using hne), List.filter_nil, List.append_nil]
theorem stq_take {k : Pck} {ps : List Pce} {zs : List Int} {x : Grp} {q : Nat} (h : q < x.items.length) (he : zs.getD (x.items[q]).toNat (-1) = x.lvl) : stq k ps zs x (q + 1) = cutStep k ps (stq k ps zs x q) x.items[q] := by
  unfold stq
  rw [List.take_succ_eq_append_getElem h, List.filter_append, List.filter_cons, if_pos (by simpa using he), List.filter_nil, cutTo_snoc]
theorem stq_len (k : Pck) (ps : List Pce) (zs : List Int) (x : Grp) : ∀ q, q ≤ x.items.length → (stq k ps zs x q).1.length ≤ q
  | 0, _ => Nat.le_refl _
  | q + 1, hq => by
    have ih := stq_len k ps zs x q (by omega)
    by_cases he : zs.getD (x.items[q]'(by omega)).toNat (-1) = x.lvl
    · rw [stq_take (by omega) he]
      unfold cutStep
      split
      · show (stq k ps zs x q).1.length ≤ q + 1
        omega
      · show ((stq k ps zs x q).1 ++ _).length ≤ q + 1
        rw [List.length_append]; simp; omega
    · rw [stq_skip (by omega) he]; omega
theorem grams_pos {ps : List Pce} {l : List Int} (h : ∀ i ∈ l, 0 ≤ (pcAt ps i).grams) : 0 ≤ gramsOf ps l := by
  unfold gramsOf
  induction l with
  | nil => simp
  | cons i r ih =>
    simp only [List.map_cons, List.sum_cons]
    have := h i List.mem_cons_self
    have := ih (fun j hj => h j (List.mem_cons_of_mem _ hj))
    omega
theorem stq_ok {k : Pck} {ps : List Pce} {zs : List Int} {x : Grp} (hk : 1 ≤ k.pieces) (hg0 : 0 ≤ k.grams) (hg : ∀ i ∈ x.items, 0 ≤ (pcAt ps i).grams ∧ (pcAt ps i).grams ≤ k.grams) {q : Nat} (hq : q ≤ x.items.length) :
    ((stq k ps zs x q).2.length : Int) ≤ k.pieces ∧ 0 ≤ gramsOf ps (stq k ps zs x q).2 ∧ gramsOf ps (stq k ps zs x q).2 ≤ k.grams := by
  have hm : ∀ i ∈ (x.items.take q).filter (fun i => decide (zs.getD i.toNat (-1) = x.lvl)), i ∈ x.items := fun i hi => List.mem_of_mem_take (List.mem_filter.1 hi).1
  have h := cut_ok hk hg0 _ (fun i hi => (hg i (hm i hi)).2)
  refine ⟨h.last.1, ?_, h.last.2⟩
  have hmem : ∀ i ∈ (stq k ps zs x q).2, 0 ≤ (pcAt ps i).grams := fun i hi => (hg i (hm i (by rw [← h.all]; exact List.mem_append_right _ hi))).1
  exact grams_pos hmem
/-- What is known of the state: the world Wc ahead of the filling, the bundles made there, the filling. -/
structure FilI (W3 : World) (base : Nat) (k : Pck) (ps : List Pce) (x : Grp) (st : List (List Int) × List Int) (wx Wc : World) (v : Value) (F : Nat) (u : Value) : Prop where
  b1 : Below W3.heap.size W3 Wc
  own : OwnsB Wc base v (st.1.map (bunOf ps x))
  b2 : Below Wc.heap.size Wc wx
  hF : Wc.heap.size ≤ F
  fil : wx.heap[F]? = some (filC x.lvl x.name u (gramsOf ps st.2) k)
  row : wx.ownsRow Wc.heap.size 3 1 u st.2.length ((st.2.map (fun i => (pcAt ps i).id)).map (Value.int .i64))
theorem FilI.all {W3 : World} {base : Nat} {k : Pck} {ps : List Pce} {x : Grp} {st : List (List Int) × List Int} {wx Wc : World} {v : Value} {F : Nat} {u : Value} (h : FilI W3 base k ps x st wx Wc v F u) : Below W3.heap.size W3 wx := h.b1.trans (h.b2.mono h.b1.size)
theorem FilI.below {W3 : World} {base : Nat} {k : Pck} {ps : List Pce} {x : Grp} {st : List (List Int) × List Int} {wx wy Wc : World} {v : Value} {F : Nat} {u : Value} (h : FilI W3 base k ps x st wx Wc v F u) (hb : Below wx.heap.size wx wy) : FilI W3 base k ps x st wy Wc v F u :=
  ⟨h.b1, h.own, h.b2.trans (hb.mono h.b2.size), h.hF, (hb.block F (Array.getElem?_eq_some_iff.1 h.fil).1).trans h.fil, row_belowT h.row hb⟩
theorem FilI.put {W3 : World} {base : Nat} {k : Pck} {ps : List Pce} {x : Grp} {st : List (List Int) × List Int} {wx wy Wc : World} {v : Value} {F : Nat} {u u' : Value} (h : FilI W3 base k ps x st wx Wc v F u) {i : Int} {g' : Int} (hg : g' = gramsOf ps st.2 + (pcAt ps i).grams)
    (hb : Below Wc.heap.size wx wy) (hf : wy.heap[F]? = some (filC x.lvl x.name u' g' k)) (hr : wy.ownsRow Wc.heap.size 3 1 u' (st.2.length + 1) ((st.2.map (fun i => (pcAt ps i).id) ++ [(pcAt ps i).id]).map (Value.int .i64))) :
    FilI W3 base k ps x (st.1, st.2 ++ [i]) wy Wc v F u' := by
  refine ⟨h.b1, h.own, h.b2.trans hb, h.hF, ?_, ?_⟩
  · rw [gramsOf_snoc, ← hg]; exact hf
  · show wy.ownsRow _ _ _ _ (st.2 ++ [i]).length _
    rw [List.length_append, List.map_append]
    exact hr
theorem FilI.fresh {W3 : World} {base : Nat} {k : Pck} {ps : List Pce} {x : Grp} {bs : List (List Int)} {W : World} {v : Value} (hb : Below W3.heap.size W3 W) (ho : OwnsB W base v (bs.map (bunOf ps x))) :
    FilI W3 base k ps x (bs, []) (W.alloc (filC x.lvl x.name (.slice none 0 0) 0 k)) W v W.heap.size (.slice none 0 0) :=
  ⟨hb, ho, (Below.refl _ _).alloc (Nat.le_refl _) _, Nat.le_refl _, alloc_new W _, World.ownsRow_nil _ _ _ _⟩
/-- The filling as one more bundle. -/
theorem FilI.done {W3 : World} {base : Nat} {k : Pck} {ps : List Pce} {x : Grp} {st : List (List Int) × List Int} {wx Wc w5 : World} {v v' : Value} {F : Nat} {u : Value} {o : Obj} (h : FilI W3 base k ps x st wx Wc v F u) (hbase : base ≤ Wc.heap.size) (L : List (Bun × Value)) (hL : L.map Prod.fst = st.1.map (bunOf ps x)) (hLr : ∀ p ∈ L, RowJ Wc base p.2 p.1.ids) (hLo : Wc.ownsRow base 47 4 v L.length (L.flatMap bunCell))
    (hg : (wx.alloc o).grownBy w5 v.ownBlock)
    (ho : w5.ownsRow base 47 4 v' (L.length + 1) (L.flatMap bunCell ++ [.int .i64 x.lvl, .string x.name, u, .int .i64 (gramsOf ps st.2)])) : OwnsB w5 base v' ((st.1 ++ [st.2]).map (bunOf ps x)) := by
  rw [List.map_append, List.map_cons, List.map_nil, ← hL]
  have hb : Below Wc.heap.size Wc (wx.alloc o) := h.b2.alloc h.b2.size _
  refine OwnsB.add (W3 := wx.alloc o) (fun p hp => (hLr p hp).below hb) ?_ (row_belowT hLo hb) hg ho
  refine RowJ.mono (base := Wc.heap.size) ?_ hbase
  refine rowJ_own ?_
  show (wx.alloc o).ownsRow _ _ _ _ (st.2.map (fun i => (pcAt ps i).id)).length _
  rw [List.length_map]
  exact h.row.alloc _
end Go.Proofs.YtelklmdlodgdpaaGreat
