import Derived.Test.YtelklmdlodgdpaaGreatGP
import Derived.Deep.Upon
import Derived.Lib.QuietBelow
/-! T32 -/
namespace Go.Proofs.YtelklmdlodgdpaaGreat
open Go.RowKit
set_option linter.unusedVariables false
set_option maxRecDepth 100000
/-- The numbers of a tray, when bundles are turned round. -/
def backI (n : Nat) (x : Int) : Int := ((n : Int) - 1) - x
def backT (n : Nat) (t : Tra) : Tra := ⟨t.lvl, t.grp, t.bs.map (backI n)⟩
def backL (l : Lod) : Lod := ⟨l.buns.reverse, l.tras.map (backT l.buns.length), l.cons⟩
theorem map_inj_nodup {α β : Type} {f : α → β} {l : List α} (hf : ∀ a ∈ l, ∀ b ∈ l, f a = f b → a = b) (h : l.Nodup) : (l.map f).Nodup := by
  unfold List.Nodup at *
  rw [List.pairwise_map]
  exact List.Pairwise.imp_of_mem (fun ha hb hab he => hab (hf _ ha _ hb he)) h
theorem back_ok {k : Pck} {ps : List Pce} {zs : List Int} {ns : List ByteArray} {l : Lod} (h : LodOk k ps zs ns l) : LodOk k ps zs ns (backL l) := by
  have hfl : ((backL l).tras.map (fun t => t.bs)).flatten = ((l.tras.map (fun t => t.bs)).flatten).map (backI l.buns.length) := by
    show ((l.tras.map (backT l.buns.length)).map (fun t => t.bs)).flatten = _
    rw [List.map_map, List.map_flatten, List.map_map]
    rfl
  have hpm : ((backL l).buns.flatMap (fun b => b.ids)).Perm (l.buns.flatMap (fun b => b.ids)) := by
    show (l.buns.reverse.flatMap (fun b => b.ids)).Perm _
    exact (List.reverse_perm _).flatMap_right _
  have hbl : (backL l).buns.length = l.buns.length := List.length_reverse
  have htl : (backL l).tras.length = l.tras.length := List.length_map _
  refine ⟨⟨fun b hb => h.buns.good b (List.mem_reverse.1 hb), (hpm.nodup_iff).2 h.buns.once, by rw [hpm.length_eq]; exact h.buns.all⟩, ⟨⟨?_, ?_, ?_, ?_⟩, ?_⟩, ⟨?_, ?_⟩⟩
  · intro x hx
    obtain ⟨t, ht, rfl⟩ := List.mem_map.1 hx
    obtain ⟨t0, ht0, rfl⟩ := List.mem_map.1 (show t ∈ l.tras.map (backT l.buns.length) from ht)
    have := h.tras.once.lens _ (List.mem_map.2 ⟨t0, ht0, rfl⟩)
    show 1 ≤ (t0.bs.map _).length ∧ ((t0.bs.map _).length : Int) ≤ _
    rw [List.length_map]
    exact this
  · rw [hfl, hbl]
    intro i hi
    obtain ⟨x, hx, rfl⟩ := List.mem_map.1 hi
    have := h.tras.once.ins x hx
    unfold backI
    omega
  · rw [hfl]
    refine map_inj_nodup (fun a _ b _ e => ?_) h.tras.once.once
    unfold backI at e
    omega
  · rw [hfl, hbl, List.length_map]
    exact h.tras.once.all
  · intro t ht i hi
    obtain ⟨t0, ht0, rfl⟩ := List.mem_map.1 (show t ∈ l.tras.map (backT l.buns.length) from ht)
    obtain ⟨x, hx, rfl⟩ := List.mem_map.1 (show i ∈ t0.bs.map (backI l.buns.length) from hi)
    obtain ⟨b, hb, h1, h2⟩ := h.tras.grp t0 ht0 x hx
    have hin := h.tras.once.ins x (List.mem_flatten.2 ⟨_, List.mem_map.2 ⟨t0, ht0, rfl⟩, hx⟩)
    refine ⟨b, ?_, h1, h2⟩
    show l.buns.reverse[(backI l.buns.length x).toNat]? = _
    have e : (backI l.buns.length x).toNat = l.buns.length - 1 - x.toNat := by unfold backI; omega
    rw [e, List.getElem?_reverse (by omega)]
    rw [show l.buns.length - 1 - (l.buns.length - 1 - x.toNat) = x.toNat by omega]
    exact hb
  · rw [htl]
    exact h.cons.once
  · intro c hc i hi
    obtain ⟨t, ht, h1⟩ := h.cons.grp c hc i hi
    refine ⟨backT l.buns.length t, ?_, h1⟩
    show (l.tras.map (backT l.buns.length))[i.toNat]? = _
    rw [List.getElem?_map, ht]
    rfl
theorem swap_bad2 {k : Pck} {ps : List Pce} {zs : List Int} {ns : List ByteArray} {L' : Lod} (hu : IdsUp ps) {j : Nat} {lc ld : Int} {gc gd : ByteArray} (hj : j < ps.length)
    (hlv : ld = zs.getD j (-1)) (hgr : gd = ns.getD j noB) (hne : lc ≠ ld ∨ gc ≠ gd) {b' : Bun} (hb' : b' ∈ L'.buns) (e1 : b'.lvl = lc) (e2 : b'.grp = gc) (hx : ps[j].id ∈ b'.ids) :
    ¬ LodOk k ps zs ns L' := by
  intro h
  obtain ⟨I, hI, hid, _⟩ := h.buns.good _ hb'
  rw [hid] at hx
  obtain ⟨i, hi, he⟩ := List.mem_map.1 hx
  obtain ⟨h0, h1, h2, h3⟩ := hI i hi
  have := id_at hu hj ⟨h0, h1⟩ he
  subst this
  rw [Int.toNat_natCast] at h2 h3
  rcases hne with e | e
  · exact e (e1.symm.trans (h2.symm.trans hlv.symm))
  · exact e (e2.symm.trans (h3.symm.trans hgr.symm))
/-- Numbers in different places are different. -/
theorem flat_apart {α : Type} {f : α → List Int} {L : List α} (h : (L.flatMap f).Nodup) {a b p q : Nat} (ha : a < L.length) (hb : b < L.length) (hp : p < (f L[a]).length) (hq : q < (f L[b]).length) (e : (f L[a])[p] = (f L[b])[q]) : a = b ∧ p = q := by
  unfold List.Nodup at h
  rw [List.pairwise_flatMap] at h
  have h2 := List.pairwise_iff_getElem.1 h.2
  rcases Nat.lt_trichotomy a b with hab | rfl | hab
  · exact absurd e (h2 a b ha hb hab _ (List.getElem_mem hp) _ (List.getElem_mem hq))
  · refine ⟨rfl, ?_⟩
    have h1 := List.pairwise_iff_getElem.1 (h.1 _ (List.getElem_mem ha))
    rcases Nat.lt_trichotomy p q with hpq | rfl | hpq
    · exact absurd e (h1 p q hp hq hpq)
    · rfl
    · exact absurd e.symm (h1 q p hq hp hpq)
  · exact absurd e.symm (h2 b a hb ha hab _ (List.getElem_mem hq) _ (List.getElem_mem hp))
theorem flat_bs2 {l : Lod} {n : Nat} {len : Int} (h : OnceOk (l.tras.map (fun t => t.bs)) n len) : (l.tras.flatMap (fun t => t.bs)).Nodup := by
  have := h.once
  rwa [flat_bs] at this
end Go.Proofs.YtelklmdlodgdpaaGreat

/-! T33 -/
namespace Go.Proofs.YtelklmdlodgdpaaGreat
open Go.RowKit Go.Sort
set_option linter.unusedVariables false
set_option linter.unusedSimpArgs false
set_option maxRecDepth 100000
theorem RowJ.of_row {w : World} {base n : Nat} {v : Value} {zs : List Int} (h : w.ownsRow base 3 1 v n (zs.map (Value.int .i64))) : RowJ w base v zs := by
  obtain ⟨h1, h2 | ⟨g, cap, cur, hv, hb, hg, _, _, _, ht⟩⟩ := h
  · obtain ⟨rfl, rfl⟩ := h2
    obtain rfl : zs = [] := List.length_eq_zero_iff.1 (by simpa using h1)
    exact RowJ.nil _ _ _ _
  · obtain rfl : n = zs.length := by simpa using h1.symm
    refine ⟨_, cap, hv, fun _ => ⟨g, 0, cur, rfl, hb, hg, fun i hi => ?_⟩⟩
    rw [Nat.mul_one] at ht
    have : (cur.toList.take zs.length)[i]? = (zs.map (Value.int .i64))[i]? := by rw [ht]
    rw [List.getElem?_take_of_lt hi, List.getElem?_map, List.getElem?_eq_getElem hi, Array.getElem?_toList] at this
    rw [Nat.zero_add]; exact this
theorem append_nil_nothing {P : Program} (w : World) {ops : Array Oper} {rest : List Oper} {o : Oper} {a : Act} {Q : Exit → Act → World → Prop} (hgd : o.guard = none) (s x : Operand) (t tx : TypeId)
    (ho : o.op = .call { callee := .builtin .append, args := #[s, x], argTypes := #[t, tx] }) (e e' : TypeId) (i : TypeInfo) (ht : P.underlying t = some (.slice e)) (hi : P.info? e = some i) (hk : P.underlying tx = some (.slice e'))
    (hv : a.eval s = .slice none 0 0) (b : Option Addr) (c : Nat) (hx : a.eval x = .slice b 0 c)
    (hK : wpList P ops Q rest (a.put o.dst (.slice none 0 0)) w) : wpList P ops Q (o :: rest) a w := by
  refine wpList_plain hgd fun K hK' => ?_
  have hs : Src P i.size tx (.slice b 0 c) 0 [] w := by
    cases b with
    | none => exact Src.ofNil w hk c
    | some ad => exact Src.ofSlice w hk ad 0 c [] (by simp) (by intro j u h; simp at h) (by simp)
  have hrun := run_append_nothing (P := P) w t tx o.type e i ht hi none 0 0 (Nat.le_refl _) (.slice b 0 c) hs
  unfold Oper.wp
  simp [execOp, ho, resolve, invoke, builtin, hv, hx, hrun, Result.andThen]
  exact hK' _ _ hK
theorem add_at (g off j : Nat) : (⟨g, off, none⟩ : Addr).add j = ⟨g, off + j, none⟩ := by unfold Addr.add; split <;> simp_all
set_option maxHeartbeats 4000000 in
theorem copyInts_any {xs : List Int} {v : Value} {w : World} (h : RdInts w v xs) (hl : xs.length ≤ 100000) :
    Calls Tryz.prog 84 #[v] w fun e w' => ∃ a' c', e = .returned (.slice a' xs.length c') ∧ Below w.heap.size w w' ∧ RowJ w' w.heap.size (.slice a' xs.length c') xs := by
  obtain ⟨a, cap, rfl, hc⟩ := h
  obtain ⟨j0, hj⟩ := info_parts Tryz.infoI
  have HJ := Lib.hid hj
  clear hj
  by_cases h0 : 0 < xs.length
  · obtain ⟨g, off, rfl, hg, hcc⟩ := hc h0
    have HNW : Hid (∀ j u, (xs.map (Value.int .i64))[j]? = some u → w.cell? ((⟨g, off, none⟩ : Addr).add j) = some u) := fun j u hu => by
      rw [add_at]
      rw [List.getElem?_map] at hu
      obtain ⟨x, hx, rfl⟩ := Option.map_eq_some_iff.1 hu
      obtain ⟨hj, rfl⟩ := List.getElem?_eq_some_iff.1 hx
      exact hcc j hj
    have HLN : Hid ((xs.map (Value.int .i64)).length = xs.length * 1) := by show _ = _; simp
    have HON : Hid (∀ u ∈ xs.map (Value.int .i64), u.oneCell' = true) := fun u hu => by
      obtain ⟨x, _, rfl⟩ := List.mem_map.1 hu
      rfl
    clear hc hcc
    go_enter Tryz.func84, Tryz.ntmps84
    go_wp2_with (at_builtin; refine wpList_append_own _ rfl _ _ 30 rfl w.heap.size 3 j0 (.int .i64 0) 1 8 Tryz.underlying30 HJ.out.1 HJ.out.2.1 HJ.out.2.2.1 HJ.out.2.2.2 rfl (by decide) _ _ _ rfl (World.ownsRow_nil _ _ _ _) ⟨g, off, none⟩ xs.length cap (xs.map (Value.int .i64)) rfl HLN.out HNW.out HON.out (by unfold maxLen; omega) (by omega) (Nat.le_refl _) ?_; intro v' w5 hown' hgrow _)
    rw [Nat.zero_add, List.nil_append] at hown'
    go_ret
    obtain ⟨a', c', rfl⟩ := own_form hown'
    exact ⟨a', c', rfl, (Below.refl _ w).grown hgrow (Nat.le_refl _) (fun _ e => by cases e), RowJ.of_row hown'⟩
  · obtain rfl : xs = [] := List.length_eq_zero_iff.1 (by omega)
    clear hc
    go_enter Tryz.func84, Tryz.ntmps84
    go_wp2_with (at_builtin; refine append_nil_nothing _ rfl _ _ 30 30 rfl 3 3 j0 Tryz.underlying30 HJ.out.1 Tryz.underlying30 rfl a cap rfl ?_)
    go_ret
    exact ⟨none, 0, rfl, Below.refl _ w, RowJ.nil _ _ _ _⟩
theorem twoBoxes {w w1 : World} {A B : Obj} (h : Below ((w.alloc A).alloc B).heap.size ((w.alloc A).alloc B) w1) : w1.heap[w.heap.size]? = some A ∧ w1.heap[w.heap.size + 1]? = some B ∧ w.heap.size + 2 ≤ w1.heap.size := by
  have hz : ((w.alloc A).alloc B).heap.size = w.heap.size + 2 := by simp
  have h1 := alloc_new (w.alloc A) B
  rw [World.size_alloc] at h1
  refine ⟨(h.block _ (by omega)).trans ((Below.heap_alloc _ _ _ (by simp)).trans (alloc_new w A)), (h.block _ (by omega)).trans h1, by have := h.size; omega⟩
theorem RowJ.past {w : World} {base g j : Nat} {v u : Value} {zs : List Int} (h : RowJ w base v zs) (hg : g < base) : RowJ (w.setCell ⟨g, j, none⟩ u) base v zs := h.kept (set_grown _ _ _) (fun k e => by obtain rfl := Option.some.inj e; exact .inl hg)
theorem cells_at6 (W : World) (n : Nat) (hn : n = W.heap.size) (cs : List Value) (T : TypeId) : ∀ j u, cs[j]? = some u → (W.alloc (.cells cs.toArray T)).cell? ((⟨n, 0, none⟩ : Addr).add j) = some u := by subst hn; exact cells_new W cs T
theorem cellsOfBundle {w : World} {g : Nat} {a b c d : Value} {t : TypeId} {fr : Nat × Nat} (h : w.heap[g]? = some (.cells #[a, b, c, d] t fr)) :
    w.cell? ⟨g, 0, none⟩ = some a ∧ w.cell? ⟨g, 1, none⟩ = some b ∧ w.cell? ⟨g, 2, none⟩ = some c ∧ w.cell? ⟨g, 3, none⟩ = some d :=
  ⟨cell_of_row _ _ 0 _ _ _ h, cell_of_row _ _ 1 _ _ _ h, cell_of_row _ _ 2 _ _ _ h, cell_of_row _ _ 3 _ _ _ h⟩
theorem setsOfBundle {w : World} {g : Nat} {a b c d a' b' c' d' : Value} {t : TypeId} {fr : Nat × Nat} (h : w.heap[g]? = some (.cells #[a, b, c, d] t fr)) :
    ((((w.setCell ⟨g, 0, none⟩ a').setCell ⟨g, 1, none⟩ b').setCell ⟨g, 2, none⟩ c').setCell ⟨g, 3, none⟩ d').heap[g]? = some (.cells #[a', b', c', d'] t fr) := by
  simp [World.setCell, Array.getElem?_modify, h]
theorem setInBundle {w : World} {g : Nat} {a b c d u : Value} {t : TypeId} {fr : Nat × Nat} (h : w.heap[g]? = some (.cells #[a, b, c, d] t fr)) : (w.setCell ⟨g, 2, none⟩ u).heap[g]? = some (.cells #[a, b, u, d] t fr) := by
  simp [World.setCell, Array.getElem?_modify, h]
set_option maxHeartbeats 4000000 in
theorem copyBundle_any {b : Bun} {v : Value} {w : World} (h : RdInts w v b.ids) (hl : b.ids.length ≤ 100000) :
    Calls Tryz.prog 58 #[.agg #[.int .i64 b.lvl, .string b.grp, v, .int .i64 b.grams]] w fun e w' => ∃ a' c', e = .returned (.agg #[.int .i64 b.lvl, .string b.grp, .slice a' b.ids.length c', .int .i64 b.grams]) ∧ Below w.heap.size w w' ∧ RowJ w' w.heap.size (.slice a' b.ids.length c') b.ids := by
  have HC := Lib.hid (fun W (hW : Below w.heap.size w W) => copyInts_any (h.below hW) hl)
  obtain ⟨a, cap, rfl, _⟩ := h
  go_enter Tryz.func58, Tryz.ntmps58
  go_wp2_with (first
    | (go_at_call 84; refine (HC.out _ (((Below.refl _ w).alloc (Nat.le_refl _) _).alloc (by simp) _)).mono ?_; rintro e w1 ⟨a', c', rfl, hb1, ho1⟩; obtain ⟨k0, k1, hz⟩ := twoBoxes hb1; (have k0' := setInBundle (u := .slice a' b.ids.length c') k0); (have k1' := (Below.heap_setCell w1 ⟨w.heap.size, 2, none⟩ (.slice a' b.ids.length c') (w.heap.size + 1) (by show w.heap.size + 1 ≠ w.heap.size; omega)).trans k1); (have c2 := cell_of_row _ _ 2 _ _ _ k0); (have y2 := row_free (i := 2) k0); obtain ⟨q0, q1, q2, q3⟩ := cellsOfBundle k0'; obtain ⟨z0, z1, z2, z3⟩ := cellsOfBundle k1'; (have y := fun i => row_free (i := i) k1'); (have f0 := y 0); (have f1 := y 1); (have f2 := y 2); (have f3 := y 3); (have HK1 := Lib.hid k1'); (have HO := Lib.hid ho1); (have HB := Lib.hid hb1); (have HZ := Lib.hid hz); clear k0 k1 k0' k1' y ho1 hb1 hz))
  refine bodyPost_ret (results_cell_row rfl _ _ (w.heap.size + 1) 47 _ (0, 0) _ rfl (setsOfBundle HK1.out) Tryz.underlying47 rfl (by kernel_rfl)) rfl ?_
  refine ⟨_, _, rfl, ?_, ?_⟩
  · have hb : Below w.heap.size w w1 := (((Below.refl _ w).alloc (Nat.le_refl _) _).alloc (by simp) _).trans (HB.out.mono (by rw [World.size_alloc, World.size_alloc]; omega))
    exact ((((hb.setCell (p := ⟨w.heap.size, 2, none⟩) (Nat.le_refl _) _).setCell (p := ⟨w.heap.size + 1, 0, none⟩) (Nat.le_succ _) _).setCell (p := ⟨w.heap.size + 1, 1, none⟩) (Nat.le_succ _) _).setCell (p := ⟨w.heap.size + 1, 2, none⟩) (Nat.le_succ _) _).setCell (p := ⟨w.heap.size + 1, 3, none⟩) (Nat.le_succ _) _
  · have ho := HO.out
    simp only [World.size_alloc] at ho
    exact RowJ.mono (RowJ.past (j := 3) (g := w.heap.size + 1) (RowJ.past (j := 2) (g := w.heap.size + 1) (RowJ.past (j := 1) (g := w.heap.size + 1) (RowJ.past (j := 0) (g := w.heap.size + 1) (RowJ.past (j := 2) (g := w.heap.size) (ho) (by omega)) (by omega)) (by omega)) (by omega)) (by omega)) (by omega)
set_option maxHeartbeats 8000000 in
theorem copyBundles_any {xs : List Bun} {v : Value} {w : World} (h : RdX 4 bunCell (fun b : Bun => b.ids) w v xs) (hl : xs.length ≤ 100000) (hi : ∀ x ∈ xs, x.ids.length ≤ 100000) :
    Calls Tryz.prog 26 #[v] w fun e w' => ∃ a' c', e = .returned (.slice a' xs.length c') ∧ Below w.heap.size w w' ∧ OwnsX 47 4 bunCell (fun b : Bun => b.ids) w' w.heap.size (.slice a' xs.length c') xs := by
  obtain ⟨i0, hi0⟩ := info_parts Tryz.infoB4
  have HI := Lib.hid hi0
  have HX := Lib.hid h
  obtain ⟨a, cap, rfl, _⟩ := h
  have HL := Lib.hid hi
  clear hi hi0
  go_enter Tryz.func26, Tryz.ntmps26
  go_wp2_with fail
  go_loopw [3, 4] (fun v i wx => ∃ k : Nat, k ≤ xs.length ∧ i = .int .i64 k ∧ Below w.heap.size w wx ∧ OwnsX 47 4 bunCell (fun b : Bun => b.ids) wx w.heap.size v (xs.take k)) (fun _ i _ => xs.length - (intOf i).toNat)
  case atStart => exact ⟨0, Nat.zero_le _, rfl, Below.refl _ w, by simpa using OwnsX.nil _ _⟩
  case round =>
    obtain ⟨k, hk, rfl, hB, hO⟩ := hrel
    by_cases hlt : k < xs.length
    · obtain ⟨g, off, rfl, hg, hcg⟩ := HX.out.at (by omega)
      obtain ⟨sb, scb, hri, hcell⟩ := hcg k hlt
      have e0 := (hB.cell (p := ⟨g, off + k * 4 + 0, none⟩) hg).trans (hcell 0 _ rfl)
      have e1 := (hB.cell (p := ⟨g, off + k * 4 + 1, none⟩) hg).trans (hcell 1 _ rfl)
      have e2 := (hB.cell (p := ⟨g, off + k * 4 + 2, none⟩) hg).trans (hcell 2 _ rfl)
      have e3 := (hB.cell (p := ⟨g, off + k * 4 + 3, none⟩) hg).trans (hcell 3 _ rfl)
      rw [Nat.add_zero] at e0
      have HCX := Lib.hid (copyBundle_any (hri.below hB) (HL.out _ (List.getElem_mem hlt)))
      have htk : Hid (xs.take (k + 1) = xs.take k ++ [xs[k]]) := List.take_succ_eq_append_getElem hlt
      obtain ⟨b, hbe⟩ : ∃ b, b = xs[k] := ⟨_, rfl⟩
      rw [← hbe] at HCX e0 e1 e2 e3 htk
      obtain ⟨L, hL, hLr, hLo⟩ := hO
      have hLl : L.length = k := by
        have := congrArg List.length hL
        rw [List.length_map, List.length_take] at this
        omega
      have HLo := Lib.hid hLo
      have HLr := Lib.hid hLr
      have HLm := Lib.hid hL
      have HLl := Lib.hid hLl
      dsimp only at e0 e1 e2 e3
      clear hcg hcell hri hbe hLo hLr hL hLl
      go_wp2_with (first
        | (go_at_call 58; refine HCX.out.mono ?_; rintro e w1 ⟨a', c', rfl, hb1, hs1⟩; obtain ⟨q0, q1, q2, q3⟩ := cellsOfBundle (alloc_new w1 (.cells #[.int .i64 b.lvl, .string b.grp, .slice a' b.ids.length c', .int .i64 b.grams] 47)))
        | (at_builtin; refine wpList_append_own _ rfl _ _ 35 rfl w.heap.size 47 i0 (.agg #[.int .i64 0, .string ⟨#[]⟩, .slice none 0 0, .int .i64 0]) 4 56 Tryz.underlying35 HI.out.1 HI.out.2.1 HI.out.2.2.1 HI.out.2.2.2 rfl (by decide) _ L.length _ rfl (((row_belowT HLo.out hb1).alloc _).alloc _) ⟨w1.heap.size + 1, 0, none⟩ 1 1 (bunCell (b, .slice a' b.ids.length c')) rfl rfl (cells_at6 _ _ (by simp) _ _) (by simp [Value.oneCell', bunCell]) (by have := HLl.out; unfold maxLen; omega) (by have := HLl.out; omega) (by have := hB.size; have := hb1.size; simp; omega) ?_; intro v' w2 hown' hgrow _))
      go_roundw
      case rel =>
        refine ⟨k + 1, by omega, by go_num, ?_, ?_⟩
        · exact ((below_c hB hB.size hb1).alloc (Nat.le_trans hB.size hb1.size) _).alloc (by have := hB.size; have := hb1.size; simp; omega) _ |>.grown hgrow (by have := hB.size; have := hb1.size; simp; omega) (fun r e => (HLo.out.lt r e).1)
        · rw [htk.out]
          have hz1 : Below w1.heap.size w1 (w1.alloc (.cells #[.int .i64 b.lvl, .string b.grp, .slice a' b.ids.length c', .int .i64 b.grams] 47)) := (Below.refl _ _).alloc (Nat.le_refl _) _
          have hz2 := hz1.alloc (by simp) (.cells #[.int .i64 b.lvl, .string b.grp, .slice a' b.ids.length c', .int .i64 b.grams] 47)
          exact OwnsX.add HLm.out (by decide) (fun p hp => ((HLr.out p hp).below hb1).below hz2) ((hs1.mono hB.size).below hz2) (((row_belowT HLo.out hb1).alloc _).alloc _) hgrow hown'
      case measure => simp [intOf]; omega
    · obtain rfl : k = xs.length := by omega
      obtain ⟨a', c', hv⟩ := hO.form
      rw [List.length_take, Nat.min_self] at hv
      have HO := Lib.hid hO
      clear hO
      subst hv
      go_wp2_with fail
      go_ret
      refine ⟨_, _, rfl, hB, ?_⟩
      have := HO.out
      rwa [List.take_length] at this
theorem cellsOfTray {w : World} {g : Nat} {a b c : Value} {t : TypeId} {fr : Nat × Nat} (h : w.heap[g]? = some (.cells #[a, b, c] t fr)) :
    w.cell? ⟨g, 0, none⟩ = some a ∧ w.cell? ⟨g, 1, none⟩ = some b ∧ w.cell? ⟨g, 2, none⟩ = some c :=
  ⟨cell_of_row _ _ 0 _ _ _ h, cell_of_row _ _ 1 _ _ _ h, cell_of_row _ _ 2 _ _ _ h⟩
theorem setsOfTray {w : World} {g : Nat} {a b c a' b' c' : Value} {t : TypeId} {fr : Nat × Nat} (h : w.heap[g]? = some (.cells #[a, b, c] t fr)) :
    (((w.setCell ⟨g, 0, none⟩ a').setCell ⟨g, 1, none⟩ b').setCell ⟨g, 2, none⟩ c').heap[g]? = some (.cells #[a', b', c'] t fr) := by
  simp [World.setCell, Array.getElem?_modify, h]
theorem setInTray {w : World} {g : Nat} {a b c u : Value} {t : TypeId} {fr : Nat × Nat} (h : w.heap[g]? = some (.cells #[a, b, c] t fr)) : (w.setCell ⟨g, 2, none⟩ u).heap[g]? = some (.cells #[a, b, u] t fr) := by
  simp [World.setCell, Array.getElem?_modify, h]
set_option maxHeartbeats 4000000 in
theorem copyTray_any {b : Tra} {v : Value} {w : World} (h : RdInts w v b.bs) (hl : b.bs.length ≤ 100000) :
    Calls Tryz.prog 59 #[.agg #[.int .i64 b.lvl, .string b.grp, v]] w fun e w' => ∃ a' c', e = .returned (.agg #[.int .i64 b.lvl, .string b.grp, .slice a' b.bs.length c']) ∧ Below w.heap.size w w' ∧ RowJ w' w.heap.size (.slice a' b.bs.length c') b.bs := by
  have HC := Lib.hid (fun W (hW : Below w.heap.size w W) => copyInts_any (h.below hW) hl)
  obtain ⟨a, cap, rfl, _⟩ := h
  go_enter Tryz.func59, Tryz.ntmps59
  go_wp2_with (first
    | (go_at_call 84; refine (HC.out _ (((Below.refl _ w).alloc (Nat.le_refl _) _).alloc (by simp) _)).mono ?_; rintro e w1 ⟨a', c', rfl, hb1, ho1⟩; obtain ⟨k0, k1, hz⟩ := twoBoxes hb1; (have k0' := setInTray (u := .slice a' b.bs.length c') k0); (have k1' := (Below.heap_setCell w1 ⟨w.heap.size, 2, none⟩ (.slice a' b.bs.length c') (w.heap.size + 1) (by show w.heap.size + 1 ≠ w.heap.size; omega)).trans k1); (have c2 := cell_of_row _ _ 2 _ _ _ k0); (have y2 := row_free (i := 2) k0); obtain ⟨q0, q1, q2⟩ := cellsOfTray k0'; obtain ⟨z0, z1, z2⟩ := cellsOfTray k1'; (have y := fun i => row_free (i := i) k1'); (have f0 := y 0); (have f1 := y 1); (have f2 := y 2); (have HK1 := Lib.hid k1'); (have HO := Lib.hid ho1); (have HB := Lib.hid hb1); (have HZ := Lib.hid hz); clear k0 k1 k0' k1' y ho1 hb1 hz))
  refine bodyPost_ret (results_cell_row rfl _ _ (w.heap.size + 1) 49 _ (0, 0) _ rfl (setsOfTray HK1.out) Tryz.underlying49 rfl (by kernel_rfl)) rfl ?_
  refine ⟨_, _, rfl, ?_, ?_⟩
  · have hb : Below w.heap.size w w1 := (((Below.refl _ w).alloc (Nat.le_refl _) _).alloc (by simp) _).trans (HB.out.mono (by rw [World.size_alloc, World.size_alloc]; omega))
    exact (((hb.setCell (p := ⟨w.heap.size, 2, none⟩) (Nat.le_refl _) _).setCell (p := ⟨w.heap.size + 1, 0, none⟩) (Nat.le_succ _) _).setCell (p := ⟨w.heap.size + 1, 1, none⟩) (Nat.le_succ _) _).setCell (p := ⟨w.heap.size + 1, 2, none⟩) (Nat.le_succ _) _
  · have ho := HO.out
    simp only [World.size_alloc] at ho
    exact RowJ.mono (RowJ.past (j := 2) (g := w.heap.size + 1) (RowJ.past (j := 1) (g := w.heap.size + 1) (RowJ.past (j := 0) (g := w.heap.size + 1) (RowJ.past (j := 2) (g := w.heap.size) (ho) (by omega)) (by omega)) (by omega)) (by omega)) (by omega)
set_option maxHeartbeats 8000000 in
theorem copyTrays_any {xs : List Tra} {v : Value} {w : World} (h : RdX 3 traCell (fun b : Tra => b.bs) w v xs) (hl : xs.length ≤ 100000) (hi : ∀ x ∈ xs, x.bs.length ≤ 100000) :
    Calls Tryz.prog 27 #[v] w fun e w' => ∃ a' c', e = .returned (.slice a' xs.length c') ∧ Below w.heap.size w w' ∧ OwnsX 49 3 traCell (fun b : Tra => b.bs) w' w.heap.size (.slice a' xs.length c') xs := by
  obtain ⟨i0, hi0⟩ := info_parts Tryz.infoTr
  have HI := Lib.hid hi0
  have HX := Lib.hid h
  obtain ⟨a, cap, rfl, _⟩ := h
  have HL := Lib.hid hi
  clear hi hi0
  go_enter Tryz.func27, Tryz.ntmps27
  go_wp2_with fail
  go_loopw [3, 4] (fun v i wx => ∃ k : Nat, k ≤ xs.length ∧ i = .int .i64 k ∧ Below w.heap.size w wx ∧ OwnsX 49 3 traCell (fun b : Tra => b.bs) wx w.heap.size v (xs.take k)) (fun _ i _ => xs.length - (intOf i).toNat)
  case atStart => exact ⟨0, Nat.zero_le _, rfl, Below.refl _ w, by simpa using OwnsX.nil _ _⟩
  case round =>
    obtain ⟨k, hk, rfl, hB, hO⟩ := hrel
    by_cases hlt : k < xs.length
    · obtain ⟨g, off, rfl, hg, hcg⟩ := HX.out.at (by omega)
      obtain ⟨sb, scb, hri, hcell⟩ := hcg k hlt
      have e0 := (hB.cell (p := ⟨g, off + k * 3 + 0, none⟩) hg).trans (hcell 0 _ rfl)
      have e1 := (hB.cell (p := ⟨g, off + k * 3 + 1, none⟩) hg).trans (hcell 1 _ rfl)
      have e2 := (hB.cell (p := ⟨g, off + k * 3 + 2, none⟩) hg).trans (hcell 2 _ rfl)
      rw [Nat.add_zero] at e0
      have HCX := Lib.hid (copyTray_any (hri.below hB) (HL.out _ (List.getElem_mem hlt)))
      have htk : Hid (xs.take (k + 1) = xs.take k ++ [xs[k]]) := List.take_succ_eq_append_getElem hlt
      obtain ⟨b, hbe⟩ : ∃ b, b = xs[k] := ⟨_, rfl⟩
      rw [← hbe] at HCX e0 e1 e2 htk
      obtain ⟨L, hL, hLr, hLo⟩ := hO
      have hLl : L.length = k := by
        have := congrArg List.length hL
        rw [List.length_map, List.length_take] at this
        omega
      have HLo := Lib.hid hLo
      have HLr := Lib.hid hLr
      have HLm := Lib.hid hL
      have HLl := Lib.hid hLl
      dsimp only at e0 e1 e2
      clear hcg hcell hri hbe hLo hLr hL hLl
      go_wp2_with (first
        | (go_at_call 59; refine HCX.out.mono ?_; rintro e w1 ⟨a', c', rfl, hb1, hs1⟩; obtain ⟨q0, q1, q2⟩ := cellsOfTray (alloc_new w1 (.cells #[.int .i64 b.lvl, .string b.grp, .slice a' b.bs.length c'] 49)))
        | (at_builtin; refine wpList_append_own _ rfl _ _ 36 rfl w.heap.size 49 i0 (.agg #[.int .i64 0, .string ⟨#[]⟩, .slice none 0 0]) 3 48 Tryz.underlying36 HI.out.1 HI.out.2.1 HI.out.2.2.1 HI.out.2.2.2 rfl (by decide) _ L.length _ rfl (((row_belowT HLo.out hb1).alloc _).alloc _) ⟨w1.heap.size + 1, 0, none⟩ 1 1 (traCell (b, .slice a' b.bs.length c')) rfl rfl (cells_at6 _ _ (by simp) _ _) (by simp [Value.oneCell', traCell]) (by have := HLl.out; unfold maxLen; omega) (by have := HLl.out; omega) (by have := hB.size; have := hb1.size; simp; omega) ?_; intro v' w2 hown' hgrow _))
      go_roundw
      case rel =>
        refine ⟨k + 1, by omega, by go_num, ?_, ?_⟩
        · exact ((below_c hB hB.size hb1).alloc (Nat.le_trans hB.size hb1.size) _).alloc (by have := hB.size; have := hb1.size; simp; omega) _ |>.grown hgrow (by have := hB.size; have := hb1.size; simp; omega) (fun r e => (HLo.out.lt r e).1)
        · rw [htk.out]
          have hz1 : Below w1.heap.size w1 (w1.alloc (.cells #[.int .i64 b.lvl, .string b.grp, .slice a' b.bs.length c'] 49)) := (Below.refl _ _).alloc (Nat.le_refl _) _
          have hz2 := hz1.alloc (by simp) (.cells #[.int .i64 b.lvl, .string b.grp, .slice a' b.bs.length c'] 49)
          exact OwnsX.add HLm.out (by decide) (fun p hp => ((HLr.out p hp).below hb1).below hz2) ((hs1.mono hB.size).below hz2) (((row_belowT HLo.out hb1).alloc _).alloc _) hgrow hown'
      case measure => simp [intOf]; omega
    · obtain rfl : k = xs.length := by omega
      obtain ⟨a', c', hv⟩ := hO.form
      rw [List.length_take, Nat.min_self] at hv
      have HO := Lib.hid hO
      clear hO
      subst hv
      go_wp2_with fail
      go_ret
      refine ⟨_, _, rfl, hB, ?_⟩
      have := HO.out
      rwa [List.take_length] at this
theorem cellsOfContainer {w : World} {g : Nat} {a b : Value} {t : TypeId} {fr : Nat × Nat} (h : w.heap[g]? = some (.cells #[a, b] t fr)) :
    w.cell? ⟨g, 0, none⟩ = some a ∧ w.cell? ⟨g, 1, none⟩ = some b :=
  ⟨cell_of_row _ _ 0 _ _ _ h, cell_of_row _ _ 1 _ _ _ h⟩
theorem setsOfContainer {w : World} {g : Nat} {a b a' b' : Value} {t : TypeId} {fr : Nat × Nat} (h : w.heap[g]? = some (.cells #[a, b] t fr)) :
    ((w.setCell ⟨g, 0, none⟩ a').setCell ⟨g, 1, none⟩ b').heap[g]? = some (.cells #[a', b'] t fr) := by
  simp [World.setCell, Array.getElem?_modify, h]
theorem setInContainer {w : World} {g : Nat} {a b u : Value} {t : TypeId} {fr : Nat × Nat} (h : w.heap[g]? = some (.cells #[a, b] t fr)) : (w.setCell ⟨g, 1, none⟩ u).heap[g]? = some (.cells #[a, u] t fr) := by
  simp [World.setCell, Array.getElem?_modify, h]
set_option maxHeartbeats 4000000 in
theorem copyContainer_any {b : Con} {v : Value} {w : World} (h : RdInts w v b.ts) (hl : b.ts.length ≤ 100000) :
    Calls Tryz.prog 60 #[.agg #[.int .i64 b.lvl, v]] w fun e w' => ∃ a' c', e = .returned (.agg #[.int .i64 b.lvl, .slice a' b.ts.length c']) ∧ Below w.heap.size w w' ∧ RowJ w' w.heap.size (.slice a' b.ts.length c') b.ts := by
  have HC := Lib.hid (fun W (hW : Below w.heap.size w W) => copyInts_any (h.below hW) hl)
  obtain ⟨a, cap, rfl, _⟩ := h
  go_enter Tryz.func60, Tryz.ntmps60
  go_wp2_with (first
    | (go_at_call 84; refine (HC.out _ (((Below.refl _ w).alloc (Nat.le_refl _) _).alloc (by simp) _)).mono ?_; rintro e w1 ⟨a', c', rfl, hb1, ho1⟩; obtain ⟨k0, k1, hz⟩ := twoBoxes hb1; (have k0' := setInContainer (u := .slice a' b.ts.length c') k0); (have k1' := (Below.heap_setCell w1 ⟨w.heap.size, 1, none⟩ (.slice a' b.ts.length c') (w.heap.size + 1) (by show w.heap.size + 1 ≠ w.heap.size; omega)).trans k1); (have c2 := cell_of_row _ _ 1 _ _ _ k0); (have y2 := row_free (i := 1) k0); obtain ⟨q0, q1⟩ := cellsOfContainer k0'; obtain ⟨z0, z1⟩ := cellsOfContainer k1'; (have y := fun i => row_free (i := i) k1'); (have f0 := y 0); (have f1 := y 1); (have HK1 := Lib.hid k1'); (have HO := Lib.hid ho1); (have HB := Lib.hid hb1); (have HZ := Lib.hid hz); clear k0 k1 k0' k1' y ho1 hb1 hz))
  refine bodyPost_ret (results_cell_row rfl _ _ (w.heap.size + 1) 51 _ (0, 0) _ rfl (setsOfContainer HK1.out) Tryz.underlying51 rfl (by kernel_rfl)) rfl ?_
  refine ⟨_, _, rfl, ?_, ?_⟩
  · have hb : Below w.heap.size w w1 := (((Below.refl _ w).alloc (Nat.le_refl _) _).alloc (by simp) _).trans (HB.out.mono (by rw [World.size_alloc, World.size_alloc]; omega))
    exact ((hb.setCell (p := ⟨w.heap.size, 1, none⟩) (Nat.le_refl _) _).setCell (p := ⟨w.heap.size + 1, 0, none⟩) (Nat.le_succ _) _).setCell (p := ⟨w.heap.size + 1, 1, none⟩) (Nat.le_succ _) _
  · have ho := HO.out
    simp only [World.size_alloc] at ho
    exact RowJ.mono (RowJ.past (j := 1) (g := w.heap.size + 1) (RowJ.past (j := 0) (g := w.heap.size + 1) (RowJ.past (j := 1) (g := w.heap.size) (ho) (by omega)) (by omega)) (by omega)) (by omega)
set_option maxHeartbeats 8000000 in
theorem copyContainers_any {xs : List Con} {v : Value} {w : World} (h : RdX 2 conCell (fun b : Con => b.ts) w v xs) (hl : xs.length ≤ 100000) (hi : ∀ x ∈ xs, x.ts.length ≤ 100000) :
    Calls Tryz.prog 28 #[v] w fun e w' => ∃ a' c', e = .returned (.slice a' xs.length c') ∧ Below w.heap.size w w' ∧ OwnsX 51 2 conCell (fun b : Con => b.ts) w' w.heap.size (.slice a' xs.length c') xs := by
  obtain ⟨i0, hi0⟩ := info_parts Tryz.infoCo
  have HI := Lib.hid hi0
  have HX := Lib.hid h
  obtain ⟨a, cap, rfl, _⟩ := h
  have HL := Lib.hid hi
  clear hi hi0
  go_enter Tryz.func28, Tryz.ntmps28
  go_wp2_with fail
  go_loopw [3, 4] (fun v i wx => ∃ k : Nat, k ≤ xs.length ∧ i = .int .i64 k ∧ Below w.heap.size w wx ∧ OwnsX 51 2 conCell (fun b : Con => b.ts) wx w.heap.size v (xs.take k)) (fun _ i _ => xs.length - (intOf i).toNat)
  case atStart => exact ⟨0, Nat.zero_le _, rfl, Below.refl _ w, by simpa using OwnsX.nil _ _⟩
  case round =>
    obtain ⟨k, hk, rfl, hB, hO⟩ := hrel
    by_cases hlt : k < xs.length
    · obtain ⟨g, off, rfl, hg, hcg⟩ := HX.out.at (by omega)
      obtain ⟨sb, scb, hri, hcell⟩ := hcg k hlt
      have e0 := (hB.cell (p := ⟨g, off + k * 2 + 0, none⟩) hg).trans (hcell 0 _ rfl)
      have e1 := (hB.cell (p := ⟨g, off + k * 2 + 1, none⟩) hg).trans (hcell 1 _ rfl)
      rw [Nat.add_zero] at e0
      have HCX := Lib.hid (copyContainer_any (hri.below hB) (HL.out _ (List.getElem_mem hlt)))
      have htk : Hid (xs.take (k + 1) = xs.take k ++ [xs[k]]) := List.take_succ_eq_append_getElem hlt
      obtain ⟨b, hbe⟩ : ∃ b, b = xs[k] := ⟨_, rfl⟩
      rw [← hbe] at HCX e0 e1 htk
      obtain ⟨L, hL, hLr, hLo⟩ := hO
      have hLl : L.length = k := by
        have := congrArg List.length hL
        rw [List.length_map, List.length_take] at this
        omega
      have HLo := Lib.hid hLo
      have HLr := Lib.hid hLr
      have HLm := Lib.hid hL
      have HLl := Lib.hid hLl
      dsimp only at e0 e1
      clear hcg hcell hri hbe hLo hLr hL hLl
      go_wp2_with (first
        | (go_at_call 60; refine HCX.out.mono ?_; rintro e w1 ⟨a', c', rfl, hb1, hs1⟩; obtain ⟨q0, q1⟩ := cellsOfContainer (alloc_new w1 (.cells #[.int .i64 b.lvl, .slice a' b.ts.length c'] 51)))
        | (at_builtin; refine wpList_append_own _ rfl _ _ 37 rfl w.heap.size 51 i0 (.agg #[.int .i64 0, .slice none 0 0]) 2 32 Tryz.underlying37 HI.out.1 HI.out.2.1 HI.out.2.2.1 HI.out.2.2.2 rfl (by decide) _ L.length _ rfl (((row_belowT HLo.out hb1).alloc _).alloc _) ⟨w1.heap.size + 1, 0, none⟩ 1 1 (conCell (b, .slice a' b.ts.length c')) rfl rfl (cells_at6 _ _ (by simp) _ _) (by simp [Value.oneCell', conCell]) (by have := HLl.out; unfold maxLen; omega) (by have := HLl.out; omega) (by have := hB.size; have := hb1.size; simp; omega) ?_; intro v' w2 hown' hgrow _))
      go_roundw
      case rel =>
        refine ⟨k + 1, by omega, by go_num, ?_, ?_⟩
        · exact ((below_c hB hB.size hb1).alloc (Nat.le_trans hB.size hb1.size) _).alloc (by have := hB.size; have := hb1.size; simp; omega) _ |>.grown hgrow (by have := hB.size; have := hb1.size; simp; omega) (fun r e => (HLo.out.lt r e).1)
        · rw [htk.out]
          have hz1 : Below w1.heap.size w1 (w1.alloc (.cells #[.int .i64 b.lvl, .slice a' b.ts.length c'] 51)) := (Below.refl _ _).alloc (Nat.le_refl _) _
          have hz2 := hz1.alloc (by simp) (.cells #[.int .i64 b.lvl, .slice a' b.ts.length c'] 51)
          exact OwnsX.add HLm.out (by decide) (fun p hp => ((HLr.out p hp).below hb1).below hz2) ((hs1.mono hB.size).below hz2) (((row_belowT HLo.out hb1).alloc _).alloc _) hgrow hown'
      case measure => simp [intOf]; omega
    · obtain rfl : k = xs.length := by omega
      obtain ⟨a', c', hv⟩ := hO.form
      rw [List.length_take, Nat.min_self] at hv
      have HO := Lib.hid hO
      clear hO
      subst hv
      go_wp2_with fail
      go_ret
      refine ⟨_, _, rfl, hB, ?_⟩
      have := HO.out
      rwa [List.take_length] at this
theorem OwnsX.past {α : Type} {T : TypeId} {n : Nat} {cf : α × Value → List Value} {ids : α → List Int} {w : World} {base : Nat} {v : Value} {xs : List α} (h : OwnsX T n cf ids w base v xs) {g : Nat} (hg : g < base) (j : Nat) (u : Value) : OwnsX T n cf ids (w.setCell ⟨g, j, none⟩ u) base v xs := by
  obtain ⟨L, hL, h1, h2⟩ := h
  refine ⟨L, hL, fun p hp => (h1 p hp).past hg, h2.kept (set_grown _ _ _) ?_⟩
  cases hb : v.ownBlock with
  | none => exact .inl rfl
  | some b =>
    refine .inr (fun e => ?_)
    have := (h2.lt b hb).1
    have e2 : b = g := Option.some.inj e
    omega
theorem past_at {w : World} {g j k : Nat} {u : Value} (h : k ≠ g) : (w.setCell ⟨g, j, none⟩ u).heap[k]? = w.heap[k]? := by
  simp [World.setCell, Array.getElem?_modify, Ne.symm h]
theorem past_size (w : World) (a : Addr) (u : Value) : (w.setCell a u).heap.size = w.heap.size := by simp [World.setCell]
set_option maxHeartbeats 8000000 in
theorem copyLoad_any {l : Lod} {vb vt vc : Value} {w : World} (h : RdLod w vb vt vc l) (hs : SmallL l) :
    Calls Tryz.prog 12 #[.agg #[vb, vt, vc]] w fun e w' => ∃ ab cb at' ct ac cc W2 B1, e = .returned (.agg #[.slice ab l.buns.length cb, .slice at' l.tras.length ct, .slice ac l.cons.length cc]) ∧ Below w.heap.size w w' ∧
      OwnsX 47 4 bunCell (fun b : Bun => b.ids) w' w.heap.size (.slice ab l.buns.length cb) l.buns ∧ w.heap.size ≤ B1 ∧ OwnsX 49 3 traCell (fun t : Tra => t.bs) W2 B1 (.slice at' l.tras.length ct) l.tras ∧ (∀ k, B1 ≤ k → k < W2.heap.size → w'.heap[k]? = W2.heap[k]?) ∧
      OwnsX 51 2 conCell (fun c : Con => c.ts) w' W2.heap.size (.slice ac l.cons.length cc) l.cons ∧ W2.heap.size ≤ w'.heap.size := by
  have HB := Lib.hid (fun W (hW : Below w.heap.size w W) => copyBundles_any (h.b.below hW) hs.b (fun x hx => part_le hs.bi x hx))
  have HT := Lib.hid (fun W (hW : Below w.heap.size w W) => copyTrays_any (h.t.below hW) hs.t (fun x hx => part_le hs.ti x hx))
  have HC := Lib.hid (fun W (hW : Below w.heap.size w W) => copyContainers_any (h.c.below hW) hs.c (fun x hx => part_le hs.ci x hx))
  obtain ⟨a1, c1, rfl, _⟩ := h.b
  obtain ⟨a2, c2, rfl, _⟩ := h.t
  obtain ⟨a3, c3, rfl, _⟩ := h.c
  obtain ⟨nb, hnb⟩ : ∃ n, n = l.buns.length := ⟨_, rfl⟩
  obtain ⟨nt, hnt⟩ : ∃ n, n = l.tras.length := ⟨_, rfl⟩
  obtain ⟨nc, hnc⟩ : ∃ n, n = l.cons.length := ⟨_, rfl⟩
  rw [← hnb, ← hnt, ← hnc]
  rw [← hnb] at HB
  rw [← hnt] at HT
  rw [← hnc] at HC
  clear h hs hnb hnt hnc
  obtain ⟨w2, hw2⟩ : ∃ w2, w2 = (w.alloc (.cells #[.slice a1 nb c1, .slice a2 nt c2, .slice a3 nc c3] 39)).alloc (.cells #[.slice none 0 0, .slice none 0 0, .slice none 0 0] 39) := ⟨_, rfl⟩
  obtain ⟨g1, g2, z2, bb2⟩ := boxes2 hw2
  obtain ⟨x0, x1, x2⟩ := cells3 g1
  go_enter Tryz.func12, Tryz.ntmps12
  go_upto_region 1 with fail
  rw [← hw2]
  clear hw2
  have hbA : Below w.heap.size w w2 := bb2
  have HB2 := Lib.hid bb2
  clear bb2
  go_upto_region 2 with (go_at_call 26; refine (HB.out _ HB2.out).mono ?_; rintro e w3 ⟨ab, cb, rfl, hb3, ho3⟩; (have k1 := (hb3.block w.heap.size (by omega)).trans g1); (have y0 := row_free (i := 0) k1); obtain ⟨q0, q1, q2⟩ := cells3 k1)
  obtain ⟨w4, hw4⟩ : ∃ w4, w4 = w3.setCell ⟨w.heap.size, 0, none⟩ (.slice ab nb cb) := ⟨_, rfl⟩
  rw [← hw4]
  have hs3 := hb3.size
  have hz4 : w4.heap.size = w3.heap.size := by rw [hw4]; exact past_size _ _ _
  have hb4 : Below w.heap.size w w4 := by rw [hw4]; exact (hbA.trans (hb3.mono (by omega))).setCell (Nat.le_refl _) _
  have k4 : w4.heap[w.heap.size]? = some (.cells #[.slice ab nb cb, .slice a2 nt c2, .slice a3 nc c3] 39 (0, 0)) := by rw [hw4]; exact (set3 k1).1
  have l4 : w4.heap[w.heap.size + 1]? = some (.cells #[.slice none 0 0, .slice none 0 0, .slice none 0 0] 39 (0, 0)) := by rw [hw4, past_at (by omega)]; exact (hb3.block _ (by omega)).trans g2
  have o4 : OwnsX 47 4 bunCell (fun b : Bun => b.ids) w4 (w.heap.size + 1 + 1) (.slice ab nb cb) l.buns := by
    rw [hw4]
    rw [z2] at ho3
    exact ho3.past (by omega) _ _
  clear hw4 ho3 k1 y0 q0 q1 q2 x0 x1 x2 g1 g2 hb3
  obtain ⟨x0, x1, x2⟩ := cells3 k4
  have HB4 : Hid (Below w.heap.size w w4) := hb4
  go_upto_region 3 with (go_at_call 27; refine (HT.out _ HB4.out).mono ?_; rintro e w5 ⟨at', ct, rfl, hb5, ho5⟩; (have k1 := (hb5.block w.heap.size (by omega)).trans k4); (have y1 := row_free (i := 1) k1); obtain ⟨q0, q1, q2⟩ := cells3 k1)
  obtain ⟨w6, hw6⟩ : ∃ w6, w6 = w5.setCell ⟨w.heap.size, 1, none⟩ (.slice at' nt ct) := ⟨_, rfl⟩
  rw [← hw6]
  have hs5 := hb5.size
  have hz6 : w6.heap.size = w5.heap.size := by rw [hw6]; exact past_size _ _ _
  have hb6 : Below w.heap.size w w6 := by rw [hw6]; exact (hb4.trans (hb5.mono (by omega))).setCell (Nat.le_refl _) _
  have k6 : w6.heap[w.heap.size]? = some (.cells #[.slice ab nb cb, .slice at' nt ct, .slice a3 nc c3] 39 (0, 0)) := by rw [hw6]; exact (set3 k1).2.1
  have l6 : w6.heap[w.heap.size + 1]? = some (.cells #[.slice none 0 0, .slice none 0 0, .slice none 0 0] 39 (0, 0)) := by rw [hw6, past_at (by omega)]; exact (hb5.block _ (by omega)).trans l4
  have o6 : OwnsX 47 4 bunCell (fun b : Bun => b.ids) w6 (w.heap.size + 1 + 1) (.slice ab nb cb) l.buns := by
    rw [hw6]
    exact (o4.below hb5).past (by omega) _ _
  have e6 : ∀ k, w.heap.size + 1 + 1 ≤ k → w6.heap[k]? = w5.heap[k]? := fun k hk => by rw [hw6, past_at (by omega)]
  clear hw6 k1 y1 q0 q1 q2 x0 x1 x2 k4 l4 hb5 hb4 HB4 o4
  obtain ⟨x0, x1, x2⟩ := cells3 k6
  have HB6 : Hid (Below w.heap.size w w6) := hb6
  go_upto_region 4 with (go_at_call 28; refine (HC.out _ HB6.out).mono ?_; rintro e w7 ⟨ac, cc, rfl, hb7, ho7⟩; (have k1 := (hb7.block w.heap.size (by omega)).trans k6); (have y2 := row_free (i := 2) k1); obtain ⟨q0, q1, q2⟩ := cells3 k1)
  obtain ⟨w8, hw8⟩ : ∃ w8, w8 = w7.setCell ⟨w.heap.size, 2, none⟩ (.slice ac nc cc) := ⟨_, rfl⟩
  rw [← hw8]
  have hs7 := hb7.size
  have hz8 : w8.heap.size = w7.heap.size := by rw [hw8]; exact past_size _ _ _
  have hb8 : Below w.heap.size w w8 := by rw [hw8]; exact (hb6.trans (hb7.mono (by omega))).setCell (Nat.le_refl _) _
  have k8 : w8.heap[w.heap.size]? = some (.cells #[.slice ab nb cb, .slice at' nt ct, .slice ac nc cc] 39 (0, 0)) := by rw [hw8]; exact (set3 k1).2.2
  have l8 : w8.heap[w.heap.size + 1]? = some (.cells #[.slice none 0 0, .slice none 0 0, .slice none 0 0] 39 (0, 0)) := by rw [hw8, past_at (by omega)]; exact (hb7.block _ (by omega)).trans l6
  have o8 : OwnsX 47 4 bunCell (fun b : Bun => b.ids) w8 (w.heap.size + 1 + 1) (.slice ab nb cb) l.buns := by
    rw [hw8]
    exact (o6.below hb7).past (by omega) _ _
  have p8 : OwnsX 51 2 conCell (fun c : Con => c.ts) w8 w5.heap.size (.slice ac nc cc) l.cons := by
    rw [hw8]
    rw [hz6] at ho7
    exact ho7.past (by omega) _ _
  have e8 : ∀ k, w.heap.size + 1 + 1 ≤ k → k < w5.heap.size → w8.heap[k]? = w5.heap[k]? := fun k hk hk2 => by rw [hw8, past_at (by omega)]; exact (hb7.block _ (by omega)).trans (e6 k hk)
  clear hw8 k1 y2 q0 q1 q2 x0 x1 x2 k6 l6 hb7 hb6 HB6 o6 e6 ho7
  obtain ⟨x0, x1, x2⟩ := cells3 k8
  obtain ⟨y0, y1, y2⟩ := cells3 l8
  have f0 := row_free (i := 0) l8
  have f1 := row_free (i := 1) l8
  have f2 := row_free (i := 2) l8
  go_wp2_with fail
  refine bodyPost_ret (results_cell_row rfl _ _ (w.heap.size + 1) 39 _ (0, 0) _ rfl (set3all l8) Tryz.underlying39 rfl (by kernel_rfl)) rfl ?_
  refine ⟨_, _, _, _, _, _, w5, w4.heap.size, rfl, ((hb8.setCell (p := ⟨w.heap.size + 1, 0, none⟩) (Nat.le_succ _) _).setCell (p := ⟨w.heap.size + 1, 1, none⟩) (Nat.le_succ _) _).setCell (p := ⟨w.heap.size + 1, 2, none⟩) (Nat.le_succ _) _, ?_, by omega, ho5, ?_, ?_, ?_⟩
  · exact (((o8.past (g := w.heap.size + 1) (by omega) 0 _).past (g := w.heap.size + 1) (by omega) 1 _).past (g := w.heap.size + 1) (by omega) 2 _).mono (by omega)
  · intro k h1 h2
    rw [past_at (by omega), past_at (by omega), past_at (by omega)]
    exact e8 k (by omega) h2
  · exact ((p8.past (g := w.heap.size + 1) (by omega) 0 _).past (g := w.heap.size + 1) (by omega) 1 _).past (g := w.heap.size + 1) (by omega) 2 _
  · rw [past_size, past_size, past_size]; omega
end Go.Proofs.YtelklmdlodgdpaaGreat

/-! T34 -/
namespace Go.Proofs.YtelklmdlodgdpaaGreat
open Go.RowKit Go.Sort
set_option linter.unusedVariables false
set_option linter.unusedSimpArgs false
set_option maxRecDepth 100000
theorem list_of {α : Type} {n : Nat} {P : Nat → α → Prop} (h : ∀ i, i < n → ∃ y, P i y) : ∃ ys : List α, ys.length = n ∧ ∀ i (hi : i < ys.length), P i ys[i] := by
  induction n with
  | zero => exact ⟨[], rfl, fun i hi => absurd hi (Nat.not_lt_zero _)⟩
  | succ n ih =>
    obtain ⟨ys, hl, hp⟩ := ih (fun i hi => h i (Nat.lt_succ_of_lt hi))
    obtain ⟨y, hy⟩ := h n (Nat.lt_succ_self n)
    refine ⟨ys ++ [y], by rw [List.length_append, hl]; rfl, fun i hi => ?_⟩
    by_cases e : i < ys.length
    · rw [List.getElem_append_left e]; exact hp i e
    · obtain rfl : i = n := by rw [List.length_append, List.length_singleton] at hi; omega
      rw [List.getElem_append_right (by omega)]
      simpa using hy
/-- A row of the call's own, opened. -/
theorem OwnsX.open {α : Type} {T : TypeId} {n : Nat} {cf : α × Value → List Value} {ids : α → List Int} {w : World} {base m cap : Nat} {a : Option Addr} {xs : List α} (hf : ∀ p, (cf p).length = n) (h : OwnsX T n cf ids w base (.slice a m cap) xs) (h0 : 0 < xs.length) :
    ∃ (g : Nat) (s : Nat → Value) (cur : Array Value), a = some ⟨g, 0, none⟩ ∧ base ≤ g ∧ w.heap[g]? = some (.cells cur T (0, 0)) ∧ xs.length * n ≤ cur.size ∧ (∀ i (hi : i < xs.length) j u, (cf (xs[i], s i))[j]? = some u → cur[i * n + j]? = some u) ∧ ∀ i (hi : i < xs.length), RowJ w base (s i) (ids xs[i]) := by
  obtain ⟨L, rfl, h1, h2⟩ := h
  rw [List.length_map] at h0
  obtain ⟨h3, ⟨_, h4⟩ | ⟨g, cap', cur, hv, hb, hg, hc1, hc2, hc3, hc4⟩⟩ := h2
  · omega
  injection hv with e1 e2 e3
  have hsz : L.length * n ≤ cur.size := by rw [hc3]; exact Nat.mul_le_mul_right _ hc1
  refine ⟨g, fun i => (L.getD i (L[0]'h0)).2, cur, e1, hb, hg, by rw [List.length_map]; exact hsz, fun i hi j u hj => ?_, fun i hi => ?_⟩
  · rw [List.length_map] at hi
    have hd : L.getD i (L[0]'h0) = L[i] := by rw [List.getD_eq_getElem?_getD, List.getElem?_eq_getElem hi]; rfl
    replace hj : (cf ((L.map Prod.fst)[i]'(by rw [List.length_map]; exact hi), L[i].2))[j]? = some u := by rw [← hd]; exact hj
    rw [List.getElem_map] at hj
    have hjn : j < n := by rw [← hf (L[i].1, L[i].2)]; exact (List.getElem?_eq_some_iff.1 hj).1
    have h5 := flat_at hf L i j hi hjn
    rw [show (L[i].1, L[i].2) = L[i] from rfl] at hj
    rw [hj, ← hc4] at h5
    have hlt : i * n + j < L.length * n := by
      have : (i + 1) * n ≤ L.length * n := Nat.mul_le_mul_right _ hi
      rw [Nat.add_mul] at this
      omega
    rw [List.getElem?_take_of_lt hlt, Array.getElem?_toList] at h5
    exact h5
  · rw [List.length_map] at hi
    have hd : L.getD i (L[0]'h0) = L[i] := by rw [List.getD_eq_getElem?_getD, List.getElem?_eq_getElem hi]; rfl
    show RowJ w base (L.getD i (L[0]'h0)).2 _
    rw [hd, List.getElem_map]
    exact h1 _ (List.getElem_mem hi)
/-- A row that is not empty, opened. -/
theorem RowJ.open {w : World} {base : Nat} {v : Value} {zs : List Int} (h : RowJ w base v zs) (h0 : 0 < zs.length) : ∃ g off cap cur, v = .slice (some ⟨g, off, none⟩) zs.length cap ∧ base ≤ g ∧ w.heap[g]? = some (.cells cur 3 (0, 0)) ∧ ∀ i (h : i < zs.length), cur[off + i]? = some (.int .i64 zs[i]) := by
  obtain ⟨a, cap, hv, hc⟩ := h
  obtain ⟨g, off, cur, rfl, h1, h2, h3⟩ := hc h0
  exact ⟨g, off, cap, cur, hv, h1, h2, h3⟩
theorem cell_set_ne {w : World} {g o g' o' : Nat} {u : Value} (h : ¬ (g' = g ∧ o' = o)) : (w.setCell ⟨g, o, none⟩ u).cell? ⟨g', o', none⟩ = w.cell? ⟨g', o', none⟩ := by
  by_cases e : g' = g
  · subst e
    have e2 : o ≠ o' := fun e => h ⟨rfl, e.symm⟩
    cases hg : w.heap[g']? with
    | none => simp [World.cell?, World.setCell, Array.getElem?_modify, hg]
    | some b => cases b <;> simp [World.cell?, World.setCell, Array.getElem?_modify, hg, Array.getElem?_setIfInBounds_ne e2]
  · have : (w.setCell ⟨g, o, none⟩ u).heap[g']? = w.heap[g']? := by simp [World.setCell, Array.getElem?_modify, Ne.symm e]
    exact World.cell?_of_block (a := ⟨g', o', none⟩) this
theorem set_row {w : World} {g o : Nat} {cur : Array Value} {T : TypeId} (h : w.heap[g]? = some (.cells cur T (0, 0))) (a : Value) : (w.setCell ⟨g, o, none⟩ a).heap[g]? = some (.cells (cur.setIfInBounds o a) T (0, 0)) := by
  simp [World.setCell, Array.getElem?_modify, h]
theorem cell_in {w : World} {g o : Nat} {cur : Array Value} {T : TypeId} {fr : Nat × Nat} (h : w.heap[g]? = some (.cells cur T fr)) (ho : o < cur.size) : w.cell? ⟨g, o, none⟩ = some cur[o] := by
  rw [cell_of_row w g o _ _ _ h, Array.getElem?_eq_getElem ho]
theorem cell_ex {w : World} {g o : Nat} {cur : Array Value} {T : TypeId} {fr : Nat × Nat} (h : w.heap[g]? = some (.cells cur T fr)) (ho : o < cur.size) : ∃ u, w.cell? ⟨g, o, none⟩ = some u := ⟨_, cell_in h ho⟩
/-- Bundles in the other order: the first i places of a row hold the last ones of another. -/
structure Rev (w0 wr : World) (g n i : Nat) (f : Nat → List Value) : Prop where
  os : wr.os = w0.os
  tape : wr.tape = w0.tape
  output : wr.output = w0.output
  size : w0.heap.size = wr.heap.size
  other : ∀ k, k ≠ g → wr.heap[k]? = w0.heap[k]?
  row : ∃ cur, wr.heap[g]? = some (.cells cur 47 (0, 0)) ∧ n * 4 ≤ cur.size ∧ ∀ q, q < i → ∀ j u, (f (n - 1 - q))[j]? = some u → cur[q * 4 + j]? = some u
theorem set4_at (cur : Array Value) (o : Nat) (a b c d : Value) (h : o + 4 ≤ cur.size) :
    ((((cur.setIfInBounds o a).setIfInBounds (o + 1) b).setIfInBounds (o + 2) c).setIfInBounds (o + 3) d).size = cur.size ∧ (∀ p, (p < o ∨ o + 4 ≤ p) → ((((cur.setIfInBounds o a).setIfInBounds (o + 1) b).setIfInBounds (o + 2) c).setIfInBounds (o + 3) d)[p]? = cur[p]?) ∧
    (∀ j u, [a, b, c, d][j]? = some u → ((((cur.setIfInBounds o a).setIfInBounds (o + 1) b).setIfInBounds (o + 2) c).setIfInBounds (o + 3) d)[o + j]? = some u) := by
  refine ⟨by simp, fun p hp => ?_, fun j u hj => ?_⟩
  · rw [Array.getElem?_setIfInBounds_ne (by omega), Array.getElem?_setIfInBounds_ne (by omega), Array.getElem?_setIfInBounds_ne (by omega), Array.getElem?_setIfInBounds_ne (by omega)]
  · match j, hj with
    | 0, hj => rw [Array.getElem?_setIfInBounds_ne (by omega), Array.getElem?_setIfInBounds_ne (by omega), Array.getElem?_setIfInBounds_ne (by omega), Nat.add_zero, Array.getElem?_setIfInBounds_self_of_lt (by omega)]; simpa using hj
    | 1, hj => rw [Array.getElem?_setIfInBounds_ne (by omega), Array.getElem?_setIfInBounds_ne (by omega), Array.getElem?_setIfInBounds_self_of_lt (by simp; omega)]; simpa using hj
    | 2, hj => rw [Array.getElem?_setIfInBounds_ne (by omega), Array.getElem?_setIfInBounds_self_of_lt (by simp; omega)]; simpa using hj
    | 3, hj => rw [Array.getElem?_setIfInBounds_self_of_lt (by simp; omega)]; simpa using hj
    | j + 4, hj => simp at hj
theorem Rev.step {w0 wr : World} {g n i : Nat} {f : Nat → List Value} (h : Rev w0 wr g n i f) (hl4 : ∀ q, (f q).length = 4) (hi : i < n) {a b c d : Value} (hf : f (n - 1 - i) = [a, b, c, d]) :
    Rev w0 ((((wr.setCell ⟨g, i * 4, none⟩ a).setCell ⟨g, i * 4 + 1, none⟩ b).setCell ⟨g, i * 4 + 2, none⟩ c).setCell ⟨g, i * 4 + 3, none⟩ d) g n (i + 1) f := by
  obtain ⟨cur, h1, h2, h3⟩ := h.row
  have h4 := set_row (set_row (set_row (set_row h1 (o := i * 4) a) (o := i * 4 + 1) b) (o := i * 4 + 2) c) (o := i * 4 + 3) d
  obtain ⟨s1, s2, s3⟩ := set4_at cur (i * 4) a b c d (by omega)
  refine ⟨h.os, h.tape, h.output, by rw [h.size]; simp [World.setCell], fun k hk => ?_, _, h4, by rw [s1]; exact h2, fun q hq j u hj => ?_⟩
  · rw [set_other hk, set_other hk, set_other hk, set_other hk]
    exact h.other k hk
  · by_cases e : q = i
    · subst e
      rw [hf] at hj
      exact s3 j u hj
    · have hl := h3 q (by omega) j u hj
      have hj4 := (List.getElem?_eq_some_iff.1 hj).1
      rw [hl4] at hj4
      rw [s2 _ (by omega)]; exact hl
theorem Rev.drew {w0 wr : World} {g n i : Nat} {f : Nat → List Value} (h : Rev w0 wr g n i f) : Rev w0 wr.drew g n i f := ⟨h.os, h.tape, h.output, h.size, h.other, h.row⟩
/-- Rows of numbers, changed one number at a time. -/
structure Tur (w0 wr : World) (nt : Nat) (ad : Nat → Nat × Nat) (len : Nat → Nat) (val : Nat → Nat → Int) : Prop where
  os : wr.os = w0.os
  tape : wr.tape = w0.tape
  output : wr.output = w0.output
  size : w0.heap.size = wr.heap.size
  other : ∀ k, (∀ i, i < nt → k ≠ (ad i).1) → wr.heap[k]? = w0.heap[k]?
  rows : ∀ i, i < nt → ∃ cur, wr.heap[(ad i).1]? = some (.cells cur 3 (0, 0)) ∧ ∀ p, p < len i → cur[(ad i).2 + p]? = some (.int .i64 (val i p))
theorem Tur.cell {w0 wr : World} {nt : Nat} {ad : Nat → Nat × Nat} {len : Nat → Nat} {val : Nat → Nat → Int} (h : Tur w0 wr nt ad len val) {i p : Nat} (hi : i < nt) (hp : p < len i) :
    wr.cell? ⟨(ad i).1, (ad i).2 + p, none⟩ = some (.int .i64 (val i p)) ∧ wr.frozen? ⟨(ad i).1, (ad i).2 + p, none⟩ = false ∧ (ad i).1 < wr.heap.size := by
  obtain ⟨cur, h1, h2⟩ := h.rows i hi
  exact ⟨(cell_of_row _ _ _ _ _ _ h1).trans (h2 p hp), row_free h1, (Array.getElem?_eq_some_iff.1 h1).1⟩
theorem Tur.step {w0 wr : World} {nt : Nat} {ad : Nat → Nat × Nat} {len : Nat → Nat} {val val' : Nat → Nat → Int} (h : Tur w0 wr nt ad len val) (hap : ∀ i p i' p', i < nt → p < len i → i' < nt → p' < len i' → (ad i).1 = (ad i').1 → (ad i).2 + p = (ad i').2 + p' → i = i' ∧ p = p')
    {i p : Nat} (hi : i < nt) (hp : p < len i) {x : Int} (hx : val' i p = x) (hs : ∀ i' p', ¬ (i' = i ∧ p' = p) → val' i' p' = val i' p') :
    Tur w0 (wr.setCell ⟨(ad i).1, (ad i).2 + p, none⟩ (.int .i64 x)) nt ad len val' := by
  obtain ⟨cur0, k1, k2⟩ := h.rows i hi
  have hps : (ad i).2 + p < cur0.size := (Array.getElem?_eq_some_iff.1 (k2 p hp)).1
  refine ⟨h.os, h.tape, h.output, by rw [h.size]; simp [World.setCell], fun k hk => ?_, fun i' hi' => ?_⟩
  · rw [set_other (hk i hi)]
    exact h.other k hk
  · obtain ⟨cur, h1, h2⟩ := h.rows i' hi'
    by_cases e : (ad i').1 = (ad i).1
    · rw [e] at h1
      refine ⟨cur.setIfInBounds ((ad i).2 + p) (.int .i64 x), by rw [e]; exact set_row h1 _, fun p' hp' => ?_⟩
      have hcc : cur0 = cur := by
        rw [k1] at h1
        injection h1 with h1
        injection h1
      by_cases e2 : (ad i').2 + p' = (ad i).2 + p
      · obtain ⟨rfl, rfl⟩ := hap i' p' i p hi' hp' hi hp e e2
        rw [Array.getElem?_setIfInBounds_self_of_lt (by rw [← hcc]; exact hps), hx]
      · rw [Array.getElem?_setIfInBounds_ne (fun h => e2 h.symm), h2 p' hp', hs i' p' (fun ⟨a, b⟩ => e2 (by rw [a, b]))]
    · refine ⟨cur, by rw [set_other e]; exact h1, fun p' hp' => ?_⟩
      rw [h2 p' hp', hs i' p' (fun ⟨a, b⟩ => e (by rw [a]))]
theorem Tur.drew {w0 wr : World} {nt : Nat} {ad : Nat → Nat × Nat} {len : Nat → Nat} {val : Nat → Nat → Int} (h : Tur w0 wr nt ad len val) : Tur w0 wr.drew nt ad len val := ⟨h.os, h.tape, h.output, h.size, h.other, h.rows⟩
theorem Tur.rebase {w0 w1 : World} {nt : Nat} {ad : Nat → Nat × Nat} {len : Nat → Nat} {val : Nat → Nat → Int} (h : Tur w0 w0 nt ad len val) (he : ∀ i, i < nt → w1.heap[(ad i).1]? = w0.heap[(ad i).1]?) : Tur w1 w1 nt ad len val :=
  ⟨rfl, rfl, rfl, rfl, fun _ _ => rfl, fun i hi => by
    obtain ⟨cur, h1, h2⟩ := h.rows i hi
    exact ⟨cur, (he i hi).trans h1, h2⟩⟩
/-- What stands in the rows while they are turned. -/
def turV (n i0 p0 : Nat) (ts : List Tra) (i p : Nat) : Int :=
  if i < i0 ∨ i = i0 ∧ p < p0 then backI n ((ts.getD i ⟨0, noB, []⟩).bs.getD p 0) else (ts.getD i ⟨0, noB, []⟩).bs.getD p 0
theorem turV_succ {n i0 p0 : Nat} {ts : List Tra} : turV n i0 (p0 + 1) ts i0 p0 = backI n ((ts.getD i0 ⟨0, noB, []⟩).bs.getD p0 0) ∧ turV n i0 p0 ts i0 p0 = (ts.getD i0 ⟨0, noB, []⟩).bs.getD p0 0 ∧ ∀ i' p', ¬ (i' = i0 ∧ p' = p0) → turV n i0 (p0 + 1) ts i' p' = turV n i0 p0 ts i' p' := by
  refine ⟨by unfold turV; rw [if_pos (by omega)], by unfold turV; rw [if_neg (by omega)], fun i' p' h => ?_⟩
  unfold turV
  by_cases e : i' < i0 ∨ i' = i0 ∧ p' < p0
  · rw [if_pos e, if_pos (by omega)]
  · rw [if_neg e, if_neg (by omega)]
theorem Tur.congr {w0 wr : World} {nt : Nat} {ad : Nat → Nat × Nat} {len : Nat → Nat} {val val' : Nat → Nat → Int} (h : Tur w0 wr nt ad len val) (hv : ∀ i p, i < nt → p < len i → val' i p = val i p) : Tur w0 wr nt ad len val' :=
  ⟨h.os, h.tape, h.output, h.size, h.other, fun i hi => by
    obtain ⟨cur, h1, h2⟩ := h.rows i hi
    exact ⟨cur, h1, fun p hp => by rw [h2 p hp, hv i p hi hp]⟩⟩
theorem turV_next {n i0 : Nat} {ts : List Tra} {i p : Nat} (hi : i < ts.length) (hp : p < (ts.getD i ⟨0, noB, []⟩).bs.length) : turV n (i0 + 1) 0 ts i p = turV n i0 ((ts.getD i0 ⟨0, noB, []⟩).bs.length) ts i p := by
  unfold turV
  by_cases e : i < i0 ∨ i = i0 ∧ p < (ts.getD i0 ⟨0, noB, []⟩).bs.length
  · rw [if_pos e, if_pos (by omega)]
  · rw [if_neg e, if_neg (fun h => e (by
      rcases h with h | h
      · rcases Nat.lt_or_eq_of_le (Nat.le_of_lt_succ h) with h | h
        · exact .inl h
        · subst h; exact .inr ⟨rfl, hp⟩
      · omega))]
/-- Rows of numbers in which some numbers became y or z. -/
def IntsTo (w w' : World) (y z : Int) : Prop :=
  ∀ (g : Nat) (cur : Array Value), w.heap[g]? = some (.cells cur 3 (0, 0)) → ∃ cur' : Array Value, w'.heap[g]? = some (.cells cur' 3 (0, 0)) ∧ ∀ (p : Nat) (x : Int), cur[p]? = some (.int .i64 x) → ∃ x' : Int, cur'[p]? = some (.int .i64 x') ∧ (x' = x ∨ x' = y ∨ x' = z)
theorem IntsTo.refl (w : World) (y z : Int) : IntsTo w w y z := fun g cur h => ⟨cur, h, fun p x hx => ⟨x, hx, .inl rfl⟩⟩
theorem IntsTo.set {w w' : World} {y z u : Int} (h : IntsTo w w' y z) (hu : u = y ∨ u = z) (g o : Nat) : IntsTo w (w'.setCell ⟨g, o, none⟩ (.int .i64 u)) y z := fun k cur hk => by
  obtain ⟨cur', h1, h2⟩ := h k cur hk
  by_cases e : k = g
  · subst e
    refine ⟨_, set_row h1 _, fun p x hx => ?_⟩
    obtain ⟨x', h3, h4⟩ := h2 p x hx
    by_cases e2 : o = p
    · subst e2
      exact ⟨u, by rw [Array.getElem?_setIfInBounds_self_of_lt (Array.getElem?_eq_some_iff.1 h3).1], .inr hu⟩
    · exact ⟨x', by rw [Array.getElem?_setIfInBounds_ne e2]; exact h3, h4⟩
  · exact ⟨cur', by rw [set_other e]; exact h1, h2⟩
theorem IntsTo.other {w w' : World} {y z : Int} (h : IntsTo w w' y z) {g o : Nat} (hg : ∀ cur, w.heap[g]? ≠ some (.cells cur 3 (0, 0))) (u : Value) : IntsTo w (w'.setCell ⟨g, o, none⟩ u) y z := fun k cur hk => by
  obtain ⟨cur', h1, h2⟩ := h k cur hk
  exact ⟨cur', by rw [set_other (fun e => hg cur (by rw [← e]; exact hk))]; exact h1, h2⟩
theorem IntsTo.row {w w' : World} {y z : Int} (h : IntsTo w w' y z) {base : Nat} {v : Value} {zs : List Int} (hr : RowJ w base v zs) : ∃ zs', RdInts w' v zs' ∧ zs'.length = zs.length ∧ (∀ x ∈ zs', x ∈ zs ∨ x = y ∨ x = z) ∧ ∀ g off n cap, v = .slice (some ⟨g, off, none⟩) n cap → ∀ f (hf : f < zs'.length), w'.cell? ⟨g, off + f, none⟩ = some (.int .i64 zs'[f]) := by
  by_cases h0 : 0 < zs.length
  · obtain ⟨g, off, cap, cur, rfl, _, h1, h2⟩ := hr.open h0
    obtain ⟨cur', h3, h4⟩ := h g cur h1
    obtain ⟨zs', hl, hp⟩ := list_of (n := zs.length) (P := fun i x' => cur'[off + i]? = some (.int .i64 x') ∧ (x' = zs.getD i 0 ∨ x' = y ∨ x' = z)) (fun i hi => by
      obtain ⟨x', a, b⟩ := h4 (off + i) _ (h2 i hi)
      refine ⟨x', a, ?_⟩
      rw [List.getD_eq_getElem?_getD, List.getElem?_eq_getElem hi]
      exact b)
    refine ⟨zs', ⟨_, cap, by rw [hl], fun _ => ⟨g, off, rfl, (Array.getElem?_eq_some_iff.1 h3).1, fun i hi => by rw [cell_of_row _ _ _ _ _ _ h3]; exact (hp i hi).1⟩⟩, hl, fun x hx => ?_, fun g' off' n cap e f hf => ?_⟩
    · obtain ⟨i, hi, rfl⟩ := List.getElem_of_mem hx
      rcases (hp i hi).2 with e | e
      · left
        rw [e, List.getD_eq_getElem?_getD, List.getElem?_eq_getElem (by omega)]
        exact List.getElem_mem _
      · exact .inr e
    · injection e with e _ _
      injection e with e
      injection e with e1 e2 _
      subst e1; subst e2
      rw [cell_of_row _ _ _ _ _ _ h3]; exact (hp f hf).1
  · obtain rfl : zs = [] := List.length_eq_zero_iff.1 (by omega)
    obtain ⟨a, cap, rfl, _⟩ := hr
    exact ⟨[], ⟨a, cap, rfl, fun h => absurd h (Nat.not_lt_zero _)⟩, rfl, (fun x hx => by cases hx), fun _ _ _ _ _ f hf => absurd hf (Nat.not_lt_zero _)⟩
theorem fun_of {α : Type} [Inhabited α] {n : Nat} {P : Nat → α → Prop} (h : ∀ i, i < n → ∃ y, P i y) : ∃ f : Nat → α, ∀ i, i < n → P i (f i) :=
  ⟨fun i => if hi : i < n then Classical.choose (h i hi) else default, fun i hi => by
    have h1 : (fun i => if hi : i < n then Classical.choose (h i hi) else default) i = Classical.choose (h i hi) := dif_pos hi
    rw [h1]
    exact Classical.choose_spec (h i hi)⟩
theorem RowJ.from {w w' : World} {base : Nat} {v : Value} {zs : List Int} (h : RowJ w base v zs) (he : ∀ k, base ≤ k → k < w.heap.size → w'.heap[k]? = w.heap[k]?) : RowJ w' base v zs := by
  obtain ⟨a, cap, hv, hc⟩ := h
  refine ⟨a, cap, hv, fun h0 => ?_⟩
  obtain ⟨g, off, cur, ha, hb, hh, hcc⟩ := hc h0
  exact ⟨g, off, cur, ha, hb, (he g hb (Array.getElem?_eq_some_iff.1 hh).1).trans hh, hcc⟩
theorem OwnsX.from {α : Type} {T : TypeId} {n : Nat} {cf : α × Value → List Value} {ids : α → List Int} {w w' : World} {base : Nat} {v : Value} {xs : List α} (h : OwnsX T n cf ids w base v xs) (he : ∀ k, base ≤ k → k < w.heap.size → w'.heap[k]? = w.heap[k]?) : OwnsX T n cf ids w' base v xs := by
  obtain ⟨L, hL, h1, h2, h3⟩ := h
  refine ⟨L, hL, fun p hp => (h1 p hp).from he, h2, ?_⟩
  rcases h3 with h3 | ⟨g, cap, cur, hv, hb, hg, hr⟩
  · exact .inl h3
  · exact .inr ⟨g, cap, cur, hv, hb, (he g hb (Array.getElem?_eq_some_iff.1 hg).1).trans hg, hr⟩
/-- Trays as they lie, the rows' addresses under names. -/
structure TraySt (w : World) (gT : Nat) (ad : Nat → Nat × Nat) (cp : Nat → Nat) (ts : List Tra) : Prop where
  type : ∃ cur, w.heap[gT]? = some (.cells cur 49 (0, 0))
  cells : ∀ i (hi : i < ts.length), w.cell? ⟨gT, i * 3, none⟩ = some (.int .i64 ts[i].lvl) ∧ w.cell? ⟨gT, i * 3 + 1, none⟩ = some (.string ts[i].grp) ∧ w.cell? ⟨gT, i * 3 + 2, none⟩ = some (.slice (some ⟨(ad i).1, (ad i).2, none⟩) ts[i].bs.length (cp i))
theorem TraySt.kept {w w' : World} {gT : Nat} {ad : Nat → Nat × Nat} {cp : Nat → Nat} {ts : List Tra} (h : TraySt w gT ad cp ts) (he : w'.heap[gT]? = w.heap[gT]?) : TraySt w' gT ad cp ts := by
  obtain ⟨⟨cur, h1⟩, h2⟩ := h
  refine ⟨⟨cur, he.trans h1⟩, fun i hi => ?_⟩
  have e : ∀ o, w'.cell? ⟨gT, o, none⟩ = w.cell? ⟨gT, o, none⟩ := fun o => World.cell?_of_block (a := ⟨gT, o, none⟩) he
  rw [e, e, e]
  exact h2 i hi
theorem type_ne {w : World} {g k : Nat} {c c' : Array Value} {t t' : TypeId} {fr fr' : Nat × Nat} (h : w.heap[g]? = some (.cells c t fr)) (h' : w.heap[k]? = some (.cells c' t' fr')) (ht : t ≠ t') : g ≠ k := fun e => by
  subst e
  rw [h] at h'
  injection h' with h'
  injection h' with _ h' _
  exact ht h'
def traLen (ts : List Tra) (i : Nat) : Nat := (ts.getD i ⟨0, noB, []⟩).bs.length
theorem tra_get {ts : List Tra} {i : Nat} (hi : i < ts.length) : ts.getD i ⟨0, noB, []⟩ = ts[i] := by rw [List.getD_eq_getElem?_getD, List.getElem?_eq_getElem hi]; rfl
theorem tur_start {w w7 : World} {B1 m c : Nat} {a : Option Addr} {ts : List Tra} (h : OwnsX 49 3 traCell (fun t : Tra => t.bs) w B1 (.slice a m c) ts) (h0 : 0 < ts.length) (hne : ∀ t ∈ ts, 1 ≤ t.bs.length) (hnd : (ts.flatMap (fun t => t.bs)).Nodup)
    (he : ∀ k, B1 ≤ k → k < w.heap.size → w7.heap[k]? = w.heap[k]?) (hz : w.heap.size ≤ w7.heap.size) (n : Nat) :
    ∃ gT ad cp, a = some ⟨gT, 0, none⟩ ∧ B1 ≤ gT ∧ gT < w.heap.size ∧ TraySt w7 gT ad cp ts ∧ (∀ i, i < ts.length → B1 ≤ (ad i).1 ∧ (ad i).1 < w.heap.size) ∧ Tur w7 w7 ts.length ad (traLen ts) (turV n 0 0 ts) ∧
      (∀ i p i' p', i < ts.length → p < traLen ts i → i' < ts.length → p' < traLen ts i' → (ad i).1 = (ad i').1 → (ad i).2 + p = (ad i').2 + p' → i = i' ∧ p = p') := by
  obtain ⟨g, s, cur, ha, hb, hg, _, hc, hr⟩ := OwnsX.open (n := 3) (cf := traCell) (fun _ => rfl) h h0
  have hgl := (Array.getElem?_eq_some_iff.1 hg).1
  obtain ⟨f, hf⟩ := fun_of (α := (Nat × Nat) × Nat) (n := ts.length) (P := fun i y => ∃ cur', s i = .slice (some ⟨y.1.1, y.1.2, none⟩) (traLen ts i) y.2 ∧ B1 ≤ y.1.1 ∧ w.heap[y.1.1]? = some (.cells cur' 3 (0, 0)) ∧ ∀ p, p < traLen ts i → cur'[y.1.2 + p]? = some (.int .i64 ((ts.getD i ⟨0, noB, []⟩).bs.getD p 0))) (fun i hi => by
    obtain ⟨g', off, cap, cur', h1, h2, h3, h4⟩ := (hr i hi).open (hne _ (List.getElem_mem hi))
    refine ⟨((g', off), cap), cur', ?_, h2, h3, fun p hp => ?_⟩
    · unfold traLen; rw [tra_get hi]; exact h1
    · unfold traLen at hp
      rw [tra_get hi] at hp ⊢
      rw [h4 p hp, List.getD_eq_getElem?_getD, List.getElem?_eq_getElem hp]; rfl)
  have hg7 := (he g hb hgl).trans hg
  refine ⟨g, fun i => (f i).1, fun i => (f i).2, ha, hb, hgl, ⟨⟨cur, hg7⟩, fun i hi => ?_⟩, fun i hi => ?_, ⟨rfl, rfl, rfl, rfl, fun _ _ => rfl, fun i hi => ?_⟩, fun i p i' p' hi hp hi' hp' e1 e2 => ?_⟩
  · obtain ⟨cur', h1, _⟩ := hf i hi
    have hcc := hc i hi
    rw [h1] at hcc
    refine ⟨?_, ?_, ?_⟩
    · rw [cell_of_row _ _ _ _ _ _ hg7]; exact hcc 0 _ rfl
    · rw [cell_of_row _ _ _ _ _ _ hg7]; exact hcc 1 _ rfl
    · rw [cell_of_row _ _ _ _ _ _ hg7, hcc 2 _ rfl]; unfold traLen; rw [tra_get hi]
  · obtain ⟨cur', _, h2, h3, _⟩ := hf i hi
    exact ⟨h2, (Array.getElem?_eq_some_iff.1 h3).1⟩
  · obtain ⟨cur', _, h2, h3, h4⟩ := hf i hi
    refine ⟨cur', (he _ h2 (Array.getElem?_eq_some_iff.1 h3).1).trans h3, fun p hp => ?_⟩
    rw [h4 p hp]
    unfold turV
    rw [if_neg (by omega)]
  · obtain ⟨c1, _, _, h3, h4⟩ := hf i hi
    obtain ⟨c2, _, _, k3, k4⟩ := hf i' hi'
    rw [show (f i).1.1 = (f i').1.1 from e1, k3] at h3
    injection h3 with h3
    injection h3 with h3
    have v1 := h4 p hp
    have v2 := k4 p' hp'
    rw [show (f i).1.2 + p = (f i').1.2 + p' from e2, ← h3, v2] at v1
    injection v1 with v1
    injection v1 with _ v1
    unfold traLen at hp hp'
    rw [tra_get hi] at v1 hp
    rw [tra_get hi'] at v1 hp'
    rw [List.getD_eq_getElem?_getD, List.getD_eq_getElem?_getD, List.getElem?_eq_getElem hp, List.getElem?_eq_getElem hp'] at v1
    exact flat_apart hnd hi hi' hp hp' v1.symm
/-- The turned trays, read. -/
theorem tur_end {w0 w : World} {gT n m c : Nat} {ad : Nat → Nat × Nat} {cp : Nat → Nat} {ts : List Tra} (hs : TraySt w gT ad cp ts) (ht : Tur w0 w ts.length ad (traLen ts) (turV n ts.length 0 ts)) (hm : m = ts.length) :
    RdX 3 traCell (fun t : Tra => t.bs) w (.slice (some ⟨gT, 0, none⟩) m c) (ts.map (backT n)) := by
  obtain ⟨⟨cur, h1⟩, h2⟩ := hs
  refine ⟨_, c, by rw [List.length_map, hm], fun _ => ⟨gT, 0, rfl, (Array.getElem?_eq_some_iff.1 h1).1, fun i hi => ?_⟩⟩
  rw [List.length_map] at hi
  obtain ⟨c0, c1, c2⟩ := h2 i hi
  have hm' : (ts.map (backT n))[i]'(by rw [List.length_map]; exact hi) = backT n ts[i] := List.getElem_map _
  rw [hm']
  refine ⟨.slice (some ⟨(ad i).1, (ad i).2, none⟩) ts[i].bs.length (cp i), ⟨_, cp i, by show _ = Value.slice _ (ts[i].bs.map _).length _; rw [List.length_map], fun _ => ⟨(ad i).1, (ad i).2, rfl, ?_, fun p hp => ?_⟩⟩, fun j u hj => ?_⟩
  · obtain ⟨cur', k1, _⟩ := ht.rows i hi
    exact (Array.getElem?_eq_some_iff.1 k1).1
  · have hp' : p < ts[i].bs.length := by
      have : p < (ts[i].bs.map (backI n)).length := hp
      rwa [List.length_map] at this
    have hpl : p < traLen ts i := by unfold traLen; rw [tra_get hi]; exact hp'
    rw [(ht.cell hi hpl).1]
    refine congrArg (fun z => some (Value.int .i64 z)) ?_
    refine Eq.trans ?_ (List.getElem_map (h := hp) (backI n)).symm
    unfold turV
    rw [if_pos (.inl hi), tra_get hi, List.getD_eq_getElem?_getD, List.getElem?_eq_getElem hp']; rfl
  · rw [Nat.zero_add]
    match j, hj with
    | 0, hj => rw [Nat.add_zero]; simp [traCell, backT] at hj; rw [← hj]; exact c0
    | 1, hj => simp [traCell, backT] at hj; rw [← hj]; exact c1
    | 2, hj => simp [traCell, backT] at hj; rw [← hj]; exact c2
    | j + 3, hj => simp [traCell] at hj
/-- The turned bundles, read. -/
theorem rev_end {w0 w wx : World} {g n m c : Nat} {s : Nat → Value} {bs : List Bun} (h : Rev w0 w g n n (fun q => bunCell (bs.getD q ⟨0, noB, [], 0⟩, s q))) (hn : n = bs.length) (hm : m = n) (he : wx.heap[g]? = w.heap[g]?) (hr : ∀ q (hq : q < bs.length), RdInts wx (s q) bs[q].ids) :
    RdX 4 bunCell (fun b : Bun => b.ids) wx (.slice (some ⟨g, 0, none⟩) m c) bs.reverse := by
  obtain ⟨cur, h1, h2, h3⟩ := h.row
  refine ⟨_, c, by rw [List.length_reverse, hm, hn], fun _ => ⟨g, 0, rfl, ?_, fun i hi => ?_⟩⟩
  · exact (Array.getElem?_eq_some_iff.1 (he.trans h1)).1
  · rw [List.length_reverse] at hi
    have e : (bs.reverse)[i]'(by rw [List.length_reverse]; exact hi) = bs[bs.length - 1 - i]'(by omega) := List.getElem_reverse _
    rw [e]
    refine ⟨s (bs.length - 1 - i), hr _ (by omega), fun j u hj => ?_⟩
    rw [Nat.zero_add, cell_of_row _ _ _ _ _ _ (he.trans h1)]
    have := h3 i (by omega) j u
    rw [hn, show bs.getD (bs.length - 1 - i) ⟨0, noB, [], 0⟩ = bs[bs.length - 1 - i]'(by omega) by rw [List.getD_eq_getElem?_getD, List.getElem?_eq_getElem (by omega)]; rfl] at this
    exact this hj
theorem Rev.below {w0 wr : World} {g n i B : Nat} {f : Nat → List Value} (h : Rev w0 wr g n i f) (hB : B ≤ g) : Below B w0 wr := ⟨h.os, h.tape, h.output, by rw [h.size]; exact Nat.le_refl _, fun k hk => h.other k (by omega)⟩
theorem Tur.below {w0 wr : World} {nt B : Nat} {ad : Nat → Nat × Nat} {len : Nat → Nat} {val : Nat → Nat → Int} (h : Tur w0 wr nt ad len val) (hB : ∀ i, i < nt → B ≤ (ad i).1) : Below B w0 wr := ⟨h.os, h.tape, h.output, by rw [h.size]; exact Nat.le_refl _, fun k hk => h.other k (fun i hi e => by have := hB i hi; omega)⟩
theorem regrown_in4 {P : Program} {f : FuncId} {args : Array Value} {w : World} {v : Value} (h : ∀ W, Below w.heap.size w W → Calls P f args W fun e w' => e = .returned v ∧ Below W.heap.size W w') (p : Regrown) :
    Calls P f args (grow (redrawn w p.d) p.os) fun e w'' => e = .returned v ∧ ∃ p : Regrown, w'' = grow (redrawn w p.d) p.os :=
  Calls.regrown_of (h _ (below_regrown w p.d p.os))
theorem cells_in4 {w : World} {a : Addr} {v : Value} (h : w.cell? a = some v) : ∀ p : Regrown, (grow (redrawn w p.d) p.os).cell? a = some v := fun p => cell_regrown h p.d p.os
theorem below_in4 (w : World) (p : Regrown) : Below w.heap.size w (grow (redrawn w p.d) p.os) := below_regrown w p.d p.os
theorem IntsTo.of_below {w w' : World} (y z : Int) (h : Below w.heap.size w w') : IntsTo w w' y z := fun g cur hg => ⟨cur, (h.block g (Array.getElem?_eq_some_iff.1 hg).1).trans hg, fun p x hx => ⟨x, hx, .inl rfl⟩⟩
theorem IntsTo.drew {w w' : World} {y z : Int} (h : IntsTo w w' y z) : IntsTo w w'.drew y z := h
/-- A row of elements with rows of numbers, read where some numbers have changed. -/
theorem ints_x {α : Type} {n : Nat} {cf : α × Value → List Value} {ids : α → List Int} {w W : World} {base g m cap : Nat} {xs : List α} {s : Nat → Value} {y z : Int} (hI : IntsTo w W y z) (hrow : ∀ i (hi : i < xs.length), RowJ w base (s i) (ids xs[i]))
    (upd : Nat → List Int → α) (hids : ∀ i l, ids (upd i l) = l) (hcell : ∀ i (hi : i < xs.length) (l : List Int) j u, (cf (upd i l, s i))[j]? = some u → W.cell? ⟨g, i * n + j, none⟩ = some u) (hg : g < W.heap.size) (hm : m = xs.length) :
    ∃ xs' : List α, xs'.length = xs.length ∧ RdX n cf ids W (.slice (some ⟨g, 0, none⟩) m cap) xs' ∧ ∀ i (hi : i < xs.length) (hi' : i < xs'.length), ∃ l, xs'[i] = upd i l ∧ l.length = (ids xs[i]).length ∧ (∀ x ∈ l, x ∈ ids xs[i] ∨ x = y ∨ x = z) ∧
      (∀ g off n cap, s i = .slice (some ⟨g, off, none⟩) n cap → ∀ f (hf : f < l.length), W.cell? ⟨g, off + f, none⟩ = some (.int .i64 l[f])) := by
  obtain ⟨xs', hl, hp⟩ := list_of (n := xs.length) (P := fun i x' => ∃ l, x' = upd i l ∧ RdInts W (s i) l ∧ ∀ hi : i < xs.length, l.length = (ids xs[i]).length ∧ (∀ x ∈ l, x ∈ ids xs[i] ∨ x = y ∨ x = z) ∧
      (∀ g off n cap, s i = .slice (some ⟨g, off, none⟩) n cap → ∀ f (hf : f < l.length), W.cell? ⟨g, off + f, none⟩ = some (.int .i64 l[f]))) (fun i hi => by
    obtain ⟨l, h1, h2, h3, h4⟩ := hI.row (hrow i hi)
    exact ⟨_, l, rfl, h1, fun _ => ⟨h2, h3, h4⟩⟩)
  refine ⟨xs', hl, ⟨_, cap, by rw [hl, hm], fun h0 => ⟨g, 0, rfl, hg, fun i hi => ?_⟩⟩, fun i hi hi' => ?_⟩
  · obtain ⟨l, e, h1, _⟩ := hp i hi
    rw [e]
    refine ⟨s i, by rw [hids]; exact h1, fun j u hj => ?_⟩
    rw [Nat.zero_add]
    exact hcell i (by omega) l j u hj
  · obtain ⟨l, e, _, h2⟩ := hp i hi'
    exact ⟨l, e, h2 hi⟩
theorem flat_len_eq {α : Type} (f : α → List Int) : ∀ (xs ys : List α), ys.length = xs.length → (∀ i (hi : i < xs.length) (hi' : i < ys.length), (f ys[i]).length = (f xs[i]).length) → (ys.flatMap f).length = (xs.flatMap f).length
  | [], [], _, _ => rfl
  | x :: xs, y :: ys, hl, h => by
    have h0 := h 0 (by simp) (by simp)
    have ih := flat_len_eq f xs ys (by simpa using hl) (fun i hi hi' => h (i + 1) (Nat.succ_lt_succ hi) (Nat.succ_lt_succ hi'))
    rw [List.flatMap_cons, List.flatMap_cons, List.length_append, List.length_append, ih]
    have h1 : (f y).length = (f x).length := h0
    omega
  | [], y :: ys, hl, _ => by simp at hl
  | x :: xs, [], hl, _ => by simp at hl
theorem cell_set_eq {w : World} {g o : Nat} {u : Value} {cur : Array Value} {T : TypeId} {fr : Nat × Nat} (h : w.heap[g]? = some (.cells cur T fr)) (ho : o < cur.size) : (w.setCell ⟨g, o, none⟩ u).cell? ⟨g, o, none⟩ = some u := by
  simp [World.cell?, World.setCell, Array.getElem?_modify, h, Array.getElem?_setIfInBounds_self_of_lt ho]
end Go.Proofs.YtelklmdlodgdpaaGreat
