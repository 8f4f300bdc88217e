/-
  What tray.Pack's walk needs in plain words.
-/
import Derived.Test.YtelklmdlodgdpaaGreatTI
import Derived.Test.YtelklmdlodgdpaaGreatT8
namespace Go.Proofs.YtelklmdlodgdpaaGreat
open Go.RowKit Go.Sort
set_option linter.unusedVariables false
set_option maxRecDepth 100000
theorem Tryz.infoTr : (Tryz.prog.info? 49).map (fun i => (i.zero, i.size, i.bytes)) = some (some (.agg #[.int .i64 0, .string ⟨#[]⟩, .slice none 0 0]), 3, 48) := by kernel_rfl
theorem Tryz.infoCo : (Tryz.prog.info? 51).map (fun i => (i.zero, i.size, i.bytes)) = some (some (.agg #[.int .i64 0, .slice none 0 0]), 2, 32) := by kernel_rfl
def traOf (x : Grp) (l : List Int) : Tra := ⟨x.lvl, x.name, l⟩
def conOf (x : Grp) (l : List Int) : Con := ⟨x.lvl, l⟩
theorem pkTo_yes {k : Pck} {ps : List Pce} {zs : List Int} {Gs : List Grp} {j : Nat} (hj : j < Gs.length) (he : endsL Gs j) {st : PkS} (hst : st = pkTo k ps zs Gs j) {bs : List Bun} (hbs : bs = st.buns ++ bunsOf k ps zs Gs[j]) {ts : List Tra} (hts : ts = st.tras ++ (shareR st.buns.length bs.length k.bundles.toNat).map (traOf Gs[j])) :
    pkTo k ps zs Gs (j + 1) = ⟨bs, ts, st.cons ++ (shareR st.beg ts.length k.trays.toNat).map (conOf Gs[j]), ts.length⟩ := by
  rw [pkTo_succ, ← hst]
  unfold pkStep
  rw [dif_pos hj]
  dsimp only
  rw [← hbs]
  have e : (fun l => (⟨Gs[j].lvl, Gs[j].name, l⟩ : Tra)) = traOf Gs[j] := rfl
  rw [e, ← hts, if_pos he]
  rfl
theorem pkTo_not {k : Pck} {ps : List Pce} {zs : List Int} {Gs : List Grp} {j : Nat} (hj : j < Gs.length) (he : ¬ endsL Gs j) {st : PkS} (hst : st = pkTo k ps zs Gs j) {bs : List Bun} (hbs : bs = st.buns ++ bunsOf k ps zs Gs[j]) {ts : List Tra} (hts : ts = st.tras ++ (shareR st.buns.length bs.length k.bundles.toNat).map (traOf Gs[j])) :
    pkTo k ps zs Gs (j + 1) = ⟨bs, ts, st.cons, st.beg⟩ := by
  rw [pkTo_succ, ← hst]
  unfold pkStep
  rw [dif_pos hj]
  dsimp only
  rw [← hbs]
  have e : (fun l => (⟨Gs[j].lvl, Gs[j].name, l⟩ : Tra)) = traOf Gs[j] := rfl
  rw [e, ← hts, if_neg he]
theorem ends_iff {Gs : List Grp} {j : Nat} : endsL Gs j ↔ ¬ ∃ h : j + 1 < Gs.length, Gs[j + 1].lvl = (Gs[j]'(by omega)).lvl := by
  unfold endsL
  constructor
  · rintro h ⟨h1, h2⟩; exact h h1 h2
  · intro h h1 h2; exact h ⟨h1, h2⟩
/-- Rows of numbers, as they lie. -/
theorem OwnsLL.lies {w : World} {base : Nat} {v : Value} {ts : List (List Int)} (h : OwnsLL w base v ts) : ∃ a cap, v = .slice a ts.length cap ∧ (0 < ts.length → ∃ g, a = some ⟨g, 0, none⟩ ∧ g < w.heap.size ∧ ∀ i (h : i < ts.length), ∃ s, w.cell? ⟨g, i, none⟩ = some s ∧ RowJ w base s ts[i]) := by
  obtain ⟨L, rfl, h1, h2⟩ := h
  rcases Joins.ownsRow_forms h2 with ⟨rfl, hp⟩ | ⟨g, cap, rfl⟩
  · exact ⟨none, 0, by rw [List.length_map, hp], fun h0 => by rw [List.length_map, hp] at h0; omega⟩
  · refine ⟨_, cap, by rw [List.length_map], fun h0 => ⟨g, rfl, (h2.lt g rfl).2, fun i hi => ?_⟩⟩
    rw [List.length_map] at hi
    have hc := h2.cellAt i (by rw [Nat.mul_one]; exact hi)
    rw [List.getElem?_map, List.getElem?_eq_getElem hi] at hc
    refine ⟨_, hc, ?_⟩
    rw [List.getElem_map]
    exact h1 _ (List.getElem_mem hi)
theorem slice_one {w : World} {base : Nat} {v : Value} {zs : List Int} (h : RowJ w base v zs) : v.oneCell' = true := by
  obtain ⟨a, cap, rfl, _⟩ := h
  rfl
theorem bun_one {w : World} {base : Nat} {L : List (Bun × Value)} (h : ∀ p ∈ L, RowJ w base p.2 p.1.ids) : ∀ u ∈ L.flatMap bunCell, u.oneCell' = true := fun u hu => by
  obtain ⟨p, hp, hu⟩ := List.mem_flatMap.1 hu
  have h1 := slice_one (h p hp)
  simp only [bunCell, List.mem_cons, List.not_mem_nil, or_false] at hu
  rcases hu with rfl | rfl | rfl | rfl
  · rfl
  · rfl
  · exact h1
  · rfl
theorem RdGrps.lies {w : World} {a : Option Addr} {n cap : Nat} {gs : List Grp} (h : RdGrps w (.slice a n cap) gs) : 0 < gs.length → ∃ g off, a = some ⟨g, off, none⟩ ∧ g < w.heap.size ∧ ∀ i (h : i < gs.length), ∃ sv, RdInts w sv gs[i].items ∧ GrpAt w g (off + i * 4) gs[i] sv := by
  obtain ⟨a', cap', hv, hc⟩ := h
  injection hv with h1 h2 h3
  subst h1
  exact hc
theorem box_facts (wr W6 w : World) (x : Grp) (sv sy : Value) (gy o : Nat) (hB : Below w.heap.size w wr) (hb : Below W6.heap.size W6 wr) (hgy : gy < W6.heap.size) (hy : GrpAt W6 gy o x sy) (t : TypeId) :
    ∃ Wq N, wr.alloc (.cells #[.int .i64 x.lvl, .string x.name, .int .i64 x.up, sv] t) = Wq ∧ wr.heap.size = N ∧ Below w.heap.size w Wq ∧ Below W6.heap.size W6 Wq ∧ GrpAt Wq gy o x sy ∧ Wq.cell? ⟨N, 0, none⟩ = some (.int .i64 x.lvl) ∧ Wq.cell? ⟨N, 1, none⟩ = some (.string x.name) ∧ Wq.cell? ⟨N, 2, none⟩ = some (.int .i64 x.up) ∧ Wq.cell? ⟨N, 3, none⟩ = some sv := by
  have b1 := hB.alloc hB.size (.cells #[.int .i64 x.lvl, .string x.name, .int .i64 x.up, sv] t)
  have b2 := hb.alloc hb.size (.cells #[.int .i64 x.lvl, .string x.name, .int .i64 x.up, sv] t)
  refine ⟨_, _, rfl, rfl, b1, b2, hy.below b2 hgy, cells_new wr _ t 0 _ rfl, cells_new wr _ t 1 _ rfl, cells_new wr _ t 2 _ rfl, cells_new wr _ t 3 _ rfl⟩
theorem app_lens {α β : Type} {L L7 : List (α × β)} {xs ys zs : List α} (h : L.map Prod.fst = xs) (h7 : L7.map Prod.fst = ys) (hz : zs = xs ++ ys) : L.length = xs.length ∧ L.length + L7.length = zs.length := by
  subst h h7 hz
  simp
theorem OwnsX.add {α : Type} {T : TypeId} {n : Nat} {cf : α × Value → List Value} {ids : α → List Int} {w w2 : World} {base : Nat} {v v' u : Value} {x : α} {L : List (α × Value)} {xs : List α} (hL : L.map Prod.fst = xs) (hT : 3 ≠ T) (hr : ∀ p ∈ L, RowJ w base p.2 (ids p.1)) (hu : RowJ w base u (ids x)) (hO : w.ownsRow base T n v L.length (L.flatMap cf)) (hg : w.grownBy w2 v.ownBlock)
    (ho : w2.ownsRow base T n v' (L.length + 1) (L.flatMap cf ++ cf (x, u))) : OwnsX T n cf ids w2 base v' (xs ++ [x]) := by
  have := OwnsX.app (L2 := [(x, u)]) hT hr (by simpa using hu) hO hg (by simpa using ho)
  rw [hL] at this
  exact this
theorem OwnsLL.beside {w w' : World} {base : Nat} {v : Value} {ts : List (List Int)} {row : Option Nat} (h : OwnsLL w base v ts) (hg : w.grownBy w' row) (h1 : ∀ g, row = some g → ∀ cur fr, w.heap[g]? ≠ some (.cells cur 30 fr)) (h2 : ∀ g, row = some g → ∀ cur fr, w.heap[g]? ≠ some (.cells cur 3 fr)) : OwnsLL w' base v ts := by
  obtain ⟨L, hL, h3, h4⟩ := h
  exact ⟨L, hL, fun p hp => (h3 p hp).kept hg (fun g e => .inr (h2 g e)), kept_typed h4 hg h1⟩
theorem OwnsLL.at {w : World} {base n c : Nat} {a : Option Addr} {ts : List (List Int)} (h : OwnsLL w base (.slice a n c) ts) (h0 : 0 < ts.length) : ∃ g, a = some ⟨g, 0, none⟩ ∧ g < w.heap.size ∧ ∀ i (h : i < ts.length), ∃ s, w.cell? ⟨g, i, none⟩ = some s ∧ RowJ w base s ts[i] := by
  obtain ⟨a', cap, hv, hc⟩ := h.lies
  injection hv with h1 _ _
  subst h1
  exact hc h0
theorem OwnsLL.mono {w : World} {base base' : Nat} {v : Value} {ts : List (List Int)} (h : OwnsLL w base v ts) (hb : base' ≤ base) : OwnsLL w base' v ts := by
  obtain ⟨L, hL, h3, h4⟩ := h
  exact ⟨L, hL, fun p hp => (h3 p hp).mono hb, own_mono h4 hb⟩
/-- The state of tray.Pack: the load, and the group in its box. -/
structure PkW (wg wx : World) (N : Nat) (x : Grp) (sv : Value) (bs : List Bun) (ts : List Tra) (cs : List Con) (vb vt vc : Value) : Prop where
  b : Below wg.heap.size wg wx
  l : LodW wx wg.heap.size wg.heap.size bs ts cs vb vt vc
  n : wx.heap[N]? = some (.cells #[.int .i64 x.lvl, .string x.name, .int .i64 x.up, sv] 81 (0, 0))
section
variable {wg wx wy w2 : World} {N : Nat} {x : Grp} {sv : Value} {bs bs' : List Bun} {ts ts' : List Tra} {cs cs' : List Con} {vb vt vc vb' vt' vc' : Value}
theorem PkW.below (h : PkW wg wx N x sv bs ts cs vb vt vc) (hb : Below wx.heap.size wx wy) : PkW wg wy N x sv bs ts cs vb vt vc :=
  ⟨h.b.trans (hb.mono h.b.size), h.l.below hb, (hb.block N (Array.getElem?_eq_some_iff.1 h.n).1).trans h.n⟩
theorem PkW.ne (h : PkW wg wx N x sv bs ts cs vb vt vc) : N ≠ wg.heap.size := fun e => by
  have h1 := h.n
  rw [e, h.l.cell] at h1
  injection h1 with h1
  injection h1 with _ h1 _
  exact absurd h1 (by decide)
theorem set_other {w : World} {a g : Nat} {k : Nat} {u : Value} (h : g ≠ a) : (w.setCell ⟨a, k, none⟩ u).heap[g]? = w.heap[g]? := by
  simp [World.setCell, Array.getElem?_modify, Ne.symm h]
theorem PkW.addB (h : PkW wg wx N x sv bs ts cs vb vt vc) (hg : wx.grownBy w2 vb.ownBlock) (hb : OwnsX 47 4 bunCell (fun b => b.ids) w2 wg.heap.size vb' bs') : PkW wg (w2.setCell ⟨wg.heap.size, 0, none⟩ vb') N x sv bs' ts cs vb' vt vc ∧ w2.frozen? ⟨wg.heap.size, 0, none⟩ = false ∧ w2.cell? ⟨wg.heap.size, 0, none⟩ = some vb := by
  obtain ⟨h1, h2, h3⟩ := h.l.setB hg hb
  obtain ⟨L, _, _, hLo⟩ := h.l.b
  refine ⟨⟨(h.b.grown hg h.b.size (fun r e => (hLo.lt r e).1)).setCell (p := ⟨wg.heap.size, 0, none⟩) (Nat.le_refl _) _, h1, ?_⟩, h2, h3⟩
  exact (set_other h.ne).trans ((hg.block N (Array.getElem?_eq_some_iff.1 h.n).1 (fun e => h.l.b.not (T' := 81) (by decide) N e.symm _ _ h.n)).trans h.n)
theorem PkW.addT (h : PkW wg wx N x sv bs ts cs vb vt vc) (hg : wx.grownBy w2 vt.ownBlock) (hb : OwnsX 49 3 traCell (fun t => t.bs) w2 wg.heap.size vt' ts') : PkW wg (w2.setCell ⟨wg.heap.size, 1, none⟩ vt') N x sv bs ts' cs vb vt' vc ∧ w2.frozen? ⟨wg.heap.size, 1, none⟩ = false ∧ w2.cell? ⟨wg.heap.size, 1, none⟩ = some vt := by
  obtain ⟨h1, h2, h3⟩ := h.l.setT hg hb
  obtain ⟨L, _, _, hLo⟩ := h.l.t
  refine ⟨⟨(h.b.grown hg h.b.size (fun r e => (hLo.lt r e).1)).setCell (p := ⟨wg.heap.size, 1, none⟩) (Nat.le_refl _) _, h1, ?_⟩, h2, h3⟩
  exact (set_other h.ne).trans ((hg.block N (Array.getElem?_eq_some_iff.1 h.n).1 (fun e => h.l.t.not (T' := 81) (by decide) N e.symm _ _ h.n)).trans h.n)
theorem PkW.addC (h : PkW wg wx N x sv bs ts cs vb vt vc) (hg : wx.grownBy w2 vc.ownBlock) (hb : OwnsX 51 2 conCell (fun c => c.ts) w2 wg.heap.size vc' cs') : PkW wg (w2.setCell ⟨wg.heap.size, 2, none⟩ vc') N x sv bs ts cs' vb vt vc' ∧ w2.frozen? ⟨wg.heap.size, 2, none⟩ = false ∧ w2.cell? ⟨wg.heap.size, 2, none⟩ = some vc := by
  obtain ⟨h1, h2, h3⟩ := h.l.setC hg hb
  obtain ⟨L, _, _, hLo⟩ := h.l.c
  refine ⟨⟨(h.b.grown hg h.b.size (fun r e => (hLo.lt r e).1)).setCell (p := ⟨wg.heap.size, 2, none⟩) (Nat.le_refl _) _, h1, ?_⟩, h2, h3⟩
  exact (set_other h.ne).trans ((hg.block N (Array.getElem?_eq_some_iff.1 h.n).1 (fun e => h.l.c.not (T' := 81) (by decide) N e.symm _ _ h.n)).trans h.n)
/-- The rows of numbers stay. -/
theorem PkW.rowsT (h : PkW wg wx N x sv bs ts cs vb vt vc) (hg : wx.grownBy w2 vt.ownBlock) {base : Nat} {v : Value} {R : List (List Int)} (ho : OwnsLL wx base v R) (u : Value) : OwnsLL (w2.setCell ⟨wg.heap.size, 1, none⟩ u) base v R := by
  have h2 : w2.heap[wg.heap.size]? = some (.cells #[vb, vt, vc] 39 (0, 0)) := (hg.block _ h.l.lt (fun e => h.l.t.not (T' := 39) (by decide) _ e.symm _ _ h.l.cell)).trans h.l.cell
  exact (ho.beside hg (h.l.t.not (by decide)) (h.l.t.not (by decide))).beside (set_grown w2 ⟨wg.heap.size, 1, none⟩ u) (lod_set h2 (by decide)) (lod_set h2 (by decide))
theorem PkW.rowsC (h : PkW wg wx N x sv bs ts cs vb vt vc) (hg : wx.grownBy w2 vc.ownBlock) {base : Nat} {v : Value} {R : List (List Int)} (ho : OwnsLL wx base v R) (u : Value) : OwnsLL (w2.setCell ⟨wg.heap.size, 2, none⟩ u) base v R := by
  have h2 : w2.heap[wg.heap.size]? = some (.cells #[vb, vt, vc] 39 (0, 0)) := (hg.block _ h.l.lt (fun e => h.l.c.not (T' := 39) (by decide) _ e.symm _ _ h.l.cell)).trans h.l.cell
  exact (ho.beside hg (h.l.c.not (by decide)) (h.l.c.not (by decide))).beside (set_grown w2 ⟨wg.heap.size, 2, none⟩ u) (lod_set h2 (by decide)) (lod_set h2 (by decide))
end
theorem own_lod3 {α : Type} {T : TypeId} {n : Nat} {cf : α × Value → List Value} {ids : α → List Int} {w : World} {base g : Nat} {v : Value} {xs : List α} {a b c a' b' c' : Value} (h : OwnsX T n cf ids w base v xs) (hT : T ≠ 39) (hg : w.heap[g]? = some (.cells #[a, b, c] 39 (0, 0))) :
    OwnsX T n cf ids (((w.setCell ⟨g, 0, none⟩ a').setCell ⟨g, 1, none⟩ b').setCell ⟨g, 2, none⟩ c') base v xs :=
  ((h.beside (set_grown w ⟨g, 0, none⟩ a') (lod_set hg hT) (lod_set hg (by decide))).beside (set_grown _ ⟨g, 1, none⟩ b') (lod_set (set3 hg).1 hT) (lod_set (set3 hg).1 (by decide))).beside (set_grown _ ⟨g, 2, none⟩ c') (lod_set (set3 (set3 hg).1).2.1 hT) (lod_set (set3 (set3 hg).1).2.1 (by decide))
end Go.Proofs.YtelklmdlodgdpaaGreat
