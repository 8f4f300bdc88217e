/-
  Copies of labels and levels.
-/
import Derived.Test.YtpieagaggjngjaaGC
import Derived.Test.YtpieagaggjngjaaGA

import Derived.Deep.Upon
namespace Go.Proofs.Ytpieagaggjngjaa
open Go.RowKit Go.Sort
set_option linter.unusedVariables false
set_option maxRecDepth 100000
theorem wpList_append_nothing {P : Program} (w : World) {ops : Array Oper} {rest : List Oper} {o : Oper} {a : Act} {Q : Exit → Act → World → Prop} (hgd : o.guard = none) (s x : Operand) (t tx : TypeId)
    (ho : o.op = .call { callee := .builtin .append, args := #[s, x], argTypes := #[t, tx] }) (e e' : TypeId) (i : TypeInfo) (ht : P.underlying t = some (.slice e)) (hi : P.info? e = some i) (hk : P.underlying tx = some (.slice e'))
    (hv : a.eval s = .slice none 0 0) (b : Option Addr) (c : Nat) (hx : a.eval x = .slice b 0 c)
    (hK : wpList P ops Q rest (a.put o.dst (.slice none 0 0)) w) : wpList P ops Q (o :: rest) a w := by
  refine wpList_plain hgd fun K hK' => ?_
  have hs : Src P i.size tx (.slice b 0 c) 0 [] w := by
    cases b with
    | none => exact Src.ofNil w hk c
    | some ad => exact Src.ofSlice w hk ad 0 c [] (by simp) (by intro j u h; simp at h) (by simp)
  have hrun := run_append_nothing (P := P) w t tx o.type e i ht hi none 0 0 (Nat.le_refl _) (.slice b 0 c) hs
  unfold Oper.wp
  simp [execOp, ho, resolve, invoke, builtin, hv, hx, hrun, Result.andThen]
  exact hK' _ _ hK
theorem row_below6 {w w' : World} {base : Nat} {e : TypeId} {k n : Nat} {v : Value} {xs : List Value} (h : w.ownsRow base e k v n xs) (hb : Below w.heap.size w w') : w'.ownsRow base e k v n xs := by
  refine h.kept (grown_none hb) ?_
  cases v.ownBlock with
  | none => exact .inl rfl
  | some g => exact .inr (by simp)
theorem flat_newsN {α : Type} {f : α → List Value} {n : Nat} (hf : ∀ x, (f x).length = n) {w : World} {g off : Nat} : ∀ (L : List α) (o : Nat), (∀ i (h : i < L.length) j u, (f L[i])[j]? = some u → w.cell? ⟨g, o + i * n + j, none⟩ = some u) → ∀ j u, (L.flatMap f)[j]? = some u → w.cell? ⟨g, o + j, none⟩ = some u
  | [], _, _, j, u, hj => by simp at hj
  | x :: r, o, h, j, u, hj => by
    rw [List.flatMap_cons] at hj
    by_cases e : j < n
    · rw [List.getElem?_append_left (by rw [hf]; exact e)] at hj
      have := h 0 (by simp) j u hj
      simpa using this
    · rw [List.getElem?_append_right (by rw [hf]; omega), hf] at hj
      have := flat_newsN hf (w := w) (g := g) (off := off) r (o + n) (fun i hi j u hj => by
        have := h (i + 1) (by simp; omega) j u (by simpa using hj)
        rw [show o + n + i * n + j = o + (i + 1) * n + j by rw [Nat.add_mul]; omega]
        exact this) (j - n) u hj
      rw [show o + j = o + n + (j - n) by omega]
      exact this
theorem flat_oneN {α : Type} {f : α → List Value} (hf : ∀ x, ∀ u ∈ f x, u.oneCell' = true) (L : List α) : ∀ u ∈ L.flatMap f, u.oneCell' = true := fun u hu => by
  obtain ⟨x, _, hx⟩ := List.mem_flatMap.1 hu
  exact hf x u hx
theorem flat_lenN {α : Type} {f : α → List Value} {n : Nat} (hf : ∀ x, (f x).length = n) (L : List α) : (L.flatMap f).length = L.length * n := by
  induction L with
  | nil => simp
  | cons x r ih => rw [List.flatMap_cons, List.length_append, ih, hf, List.length_cons, Nat.add_mul]; omega
theorem addr_add (g off j : Nat) : (⟨g, off, none⟩ : Addr).add j = ⟨g, off + j, none⟩ := by unfold Addr.add; split <;> simp_all
theorem labs_news {w : World} {g off : Nat} {labs : List Lab} (h : ∀ i (h : i < labs.length), w.cell? ⟨g, off + i * 2, none⟩ = some (.string labs[i].pre) ∧ w.cell? ⟨g, off + i * 2 + 1, none⟩ = some (.string labs[i].grp)) :
    ∀ j u, (labs.flatMap labCell)[j]? = some u → w.cell? ((⟨g, off, none⟩ : Addr).add j) = some u := fun j u hj => by
  rw [addr_add]
  refine flat_newsN (f := labCell) (n := 2) (off := off) (fun _ => rfl) labs off (fun i hi j u hj => ?_) j u hj
  obtain ⟨h1, h2⟩ := h i hi
  match j, hj with
  | 0, hj => simp [labCell] at hj; subst hj; exact h1
  | 1, hj => simp [labCell] at hj; subst hj; exact h2
  | j + 2, hj => simp [labCell] at hj
set_option maxHeartbeats 4000000 in
theorem copyLabels_any {labs : List Lab} {v : Value} {w : World} (h : RdLabs w v labs) (hl : labs.length ≤ 100000) :
    Calls Try.prog 60 #[v] w fun e w' => ∃ v', e = .returned v' ∧ Below w.heap.size w w' ∧ OwnsLab w' w.heap.size v' labs := by
  obtain ⟨a, cap, rfl, hc⟩ := h
  obtain ⟨j0, hj⟩ := info_parts Try.infoB
  have HJ := Lib.hid hj
  clear hj
  by_cases h0 : 0 < labs.length
  · obtain ⟨g, off, rfl, hg, hcc⟩ := hc h0
    have HNW := Lib.hid (labs_news hcc)
    have HLN := Lib.hid (flat_lenN (f := labCell) (n := 2) (fun _ => rfl) labs)
    have HON := Lib.hid (flat_oneN (f := labCell) (by intro x u hu; simp [labCell] at hu; rcases hu with rfl | rfl <;> rfl) labs)
    clear hc hcc
    go_enter Try.func60, Try.ntmps60
    go_wp2_with (at_builtin; refine wpList_append_own _ rfl _ _ 39 rfl w.heap.size 89 j0 (.agg #[.string ⟨#[]⟩, .string ⟨#[]⟩]) 2 32 Try.underlying39 HJ.out.1 HJ.out.2.1 HJ.out.2.2.1 HJ.out.2.2.2 rfl (by decide) _ _ _ rfl (World.ownsRow_nil _ _ _ _) ⟨g, off, none⟩ labs.length cap (labs.flatMap labCell) rfl HLN.out HNW.out HON.out (by unfold maxLen; omega) (by omega) (Nat.le_refl _) ?_; intro v' w5 hown' hgrow _)
    rw [Nat.zero_add, List.nil_append] at hown'
    go_ret
    exact ⟨_, rfl, (Below.refl _ w).grown hgrow (Nat.le_refl _) (fun _ e => by cases e), hown'⟩
  · obtain rfl : labs = [] := List.length_eq_zero_iff.1 (by omega)
    clear hc
    go_enter Try.func60, Try.ntmps60
    go_wp2_with (at_builtin; refine wpList_append_nothing _ rfl _ _ 39 39 rfl 89 89 j0 Try.underlying39 HJ.out.1 Try.underlying39 rfl a cap rfl ?_)
    go_ret
    exact ⟨_, rfl, Below.refl _ w, OwnsLab.nil _ _⟩
theorem cells5 {w : World} {g : Nat} {a b c d e : Value} {t : TypeId} {fr : Nat × Nat} (h : w.heap[g]? = some (.cells #[a, b, c, d, e] t fr)) :
    w.cell? ⟨g, 0, none⟩ = some a ∧ w.cell? ⟨g, 1, none⟩ = some b ∧ w.cell? ⟨g, 2, none⟩ = some c ∧ w.cell? ⟨g, 3, none⟩ = some d ∧ w.cell? ⟨g, 4, none⟩ = some e :=
  ⟨cell_of_row _ _ 0 _ _ _ h, cell_of_row _ _ 1 _ _ _ h, cell_of_row _ _ 2 _ _ _ h, cell_of_row _ _ 3 _ _ _ h, cell_of_row _ _ 4 _ _ _ h⟩
theorem set5 {w : World} {g : Nat} {a b c d e a' b' c' d' e' : Value} {t : TypeId} {fr : Nat × Nat} (h : w.heap[g]? = some (.cells #[a, b, c, d, e] t fr)) :
    (((((w.setCell ⟨g, 0, none⟩ a').setCell ⟨g, 1, none⟩ b').setCell ⟨g, 2, none⟩ c').setCell ⟨g, 3, none⟩ d').setCell ⟨g, 4, none⟩ e').heap[g]? = some (.cells #[a', b', c', d', e'] t fr) := by
  simp [World.setCell, Array.getElem?_modify, h]
theorem free_row {w : World} {g : Nat} {cs : Array Value} {t : TypeId} (h : w.heap[g]? = some (.cells cs t (0, 0))) (j : Nat) : w.frozen? ⟨g, j, none⟩ = false := by simp [World.frozen?, h]
theorem own_past {w : World} {base : Nat} {e : TypeId} {k n : Nat} {v : Value} {xs : List Value} (h : w.ownsRow base e k v n xs) {a : Addr} (ha : a.block < base) (u : Value) : (w.setCell a u).ownsRow base e k v n xs := h.kept (set_grown _ _ _) (by
  cases hb : v.ownBlock with
  | none => exact .inl rfl
  | some b =>
    refine .inr (fun e => ?_)
    injection e with e
    have := (h.lt b hb).1
    omega)
theorem two_boxes {w w1 : World} {A B : Obj} (h : Below ((w.alloc A).alloc B).heap.size ((w.alloc A).alloc B) w1) : w1.heap[w.heap.size]? = some A ∧ w1.heap[w.heap.size + 1]? = some B ∧ w.heap.size + 2 ≤ w1.heap.size := by
  have hz : ((w.alloc A).alloc B).heap.size = w.heap.size + 2 := by simp
  have h1 := alloc_new (w.alloc A) B
  rw [World.size_alloc] at h1
  refine ⟨(h.block _ (by omega)).trans ((Below.heap_alloc _ _ _ (by simp)).trans (alloc_new w A)), (h.block _ (by omega)).trans h1, by have := h.size; omega⟩
theorem box_set2 {w : World} {g : Nat} {a b c d e u : Value} {t : TypeId} {fr : Nat × Nat} (h : w.heap[g]? = some (.cells #[a, b, c, d, e] t fr)) : (w.setCell ⟨g, 2, none⟩ u).heap[g]? = some (.cells #[a, b, u, d, e] t fr) := by
  simp [World.setCell, Array.getElem?_modify, h]
set_option maxHeartbeats 4000000 in
theorem copyLevel_any {l : Lev} {v : Value} {w : World} (h : RdLabs w v l.labs) (hl : l.labs.length ≤ 100000) :
    Calls Try.prog 41 #[lvA l v] w fun e w' => ∃ v', e = .returned (lvA l v') ∧ Below w.heap.size w w' ∧ OwnsLab w' w.heap.size v' l.labs := by
  have HC := Lib.hid (fun W (hW : Below w.heap.size w W) => copyLabels_any (h.below hW) hl)
  obtain ⟨a, cap, rfl, _⟩ := h
  unfold lvA
  go_enter Try.func41, Try.ntmps41
  go_wp2_with (first
    | (go_at_call 60; refine (HC.out _ (((Below.refl _ w).alloc (Nat.le_refl _) _).alloc (by simp) _)).mono ?_; rintro e w1 ⟨v', rfl, hb1, ho1⟩; obtain ⟨a', c', rfl⟩ := ho1.form; obtain ⟨k0, k1, hz⟩ := two_boxes hb1; (have k0' := box_set2 (u := .slice a' l.labs.length c') k0); (have k1' := (Below.heap_setCell w1 ⟨w.heap.size, 2, none⟩ (.slice a' l.labs.length c') (w.heap.size + 1) (by show w.heap.size + 1 ≠ w.heap.size; omega)).trans k1); (have c2 := cell_of_row _ _ 2 _ _ _ k0); (have y2 := free_row k0 2); obtain ⟨q0, q1, q2, q3, q4⟩ := cells5 k0'; obtain ⟨z0, z1, z2, z3, z4⟩ := cells5 k1'; (have y := free_row k1'); (have f0 := y 0); (have f1 := y 1); (have f2 := y 2); (have f3 := y 3); (have f4 := y 4); (have HK1 := Lib.hid k1'); (have HO := Lib.hid ho1); (have HB := Lib.hid hb1); (have HZ := Lib.hid hz); clear k0 k1 k0' k1' y ho1 hb1 hz))
  refine bodyPost_ret (results_cell_row rfl _ _ (w.heap.size + 1) 41 _ (0, 0) _ rfl (set5 HK1.out) Try.underlying41 rfl (by kernel_rfl)) rfl ?_
  refine ⟨_, rfl, ?_, ?_⟩
  · have hb : Below w.heap.size w w1 := (((Below.refl _ w).alloc (Nat.le_refl _) _).alloc (by simp) _).trans (HB.out.mono (by rw [World.size_alloc, World.size_alloc]; omega))
    exact (((((hb.setCell (p := ⟨w.heap.size, 2, none⟩) (Nat.le_refl _) _).setCell (p := ⟨w.heap.size + 1, 0, none⟩) (Nat.le_succ _) _).setCell (p := ⟨w.heap.size + 1, 1, none⟩) (Nat.le_succ _) _).setCell (p := ⟨w.heap.size + 1, 2, none⟩) (Nat.le_succ _) _).setCell (p := ⟨w.heap.size + 1, 3, none⟩) (Nat.le_succ _) _).setCell (p := ⟨w.heap.size + 1, 4, none⟩) (Nat.le_succ _) _
  · have ho := HO.out
    simp only [World.size_alloc] at ho
    have k : ∀ {W : World} {g j : Nat} (u : Value), g ≤ w.heap.size + 1 → OwnsLab W (w.heap.size + 1 + 1) (.slice a' l.labs.length c') l.labs → OwnsLab (W.setCell ⟨g, j, none⟩ u) (w.heap.size + 1 + 1) (.slice a' l.labs.length c') l.labs := fun u hg h => own_past h (Nat.lt_succ_of_le hg) u
    exact World.ownsRow.mono (k _ (by omega) (k _ (by omega) (k _ (by omega) (k _ (by omega) (k _ (by omega) (k _ (by omega) ho)))))) (by omega)
theorem cells_new6 (W : World) (n : Nat) (hn : n = W.heap.size) (cs : List Value) (T : TypeId) : ∀ j u, cs[j]? = some u → (W.alloc (.cells cs.toArray T)).cell? ((⟨n, 0, none⟩ : Addr).add j) = some u := by subst hn; exact cells_new W cs T
theorem lev_step {B : Nat} {W3 w2 : World} {v v' sv : Value} {l : Lev} {L : List (Lev × Value)} (hLr : ∀ p ∈ L, OwnsLab W3 B p.2 p.1.labs) (hs : OwnsLab W3 B sv l.labs) (hLo : W3.ownsRow B 41 5 v L.length (L.flatMap lCell)) (hg : W3.grownBy w2 v.ownBlock)
    (ho : w2.ownsRow B 41 5 v' (L.length + 1) (L.flatMap lCell ++ lCell (l, sv))) : OwnsLv w2 B v' (L.map Prod.fst ++ [l]) := by
  have nA := own_not hLo (T := 89) (by decide)
  have k : ∀ {u : Value} {labs : List Lab}, OwnsLab W3 B u labs → OwnsLab w2 B u labs := fun hh => kept_typed hh hg (fun g e => nA g e)
  refine ⟨L ++ [(l, sv)], by rw [List.map_append]; rfl, fun p hp => ?_, ?_⟩
  · rcases List.mem_append.1 hp with hp | hp
    · exact k (hLr p hp)
    · rw [List.mem_singleton.1 hp]; exact k hs
  · rw [List.flatMap_append, List.length_append]
    simpa using ho
set_option maxHeartbeats 8000000 in
theorem copyLevels_any {ls : List Lev} {v : Value} {w : World} (hr : RdLevs w v ls) (hl : ls.length ≤ 10000) (hf : ∀ l ∈ ls, l.labs.length ≤ 100000) :
    Calls Try.prog 18 #[v] w fun e w' => ∃ v', e = .returned v' ∧ Below w.heap.size w w' ∧ OwnsLv w' w.heap.size v' ls := by
  obtain ⟨a, cap, rfl, hc⟩ := hr
  obtain ⟨i0, hi⟩ := info_parts Try.infoL
  have HI := Lib.hid hi
  have HC := Lib.hid hc
  have HF := Lib.hid hf
  clear hi hc hf
  go_enter Try.func18, Try.ntmps18
  go_wp2_with fail
  go_loopw [3, 4] (fun v i wx => ∃ k : Nat, k ≤ ls.length ∧ i = .int .i64 k ∧ Below w.heap.size w wx ∧ OwnsLv wx w.heap.size v (ls.take k)) (fun _ i _ => ls.length - (intOf i).toNat)
  case atStart => exact ⟨0, Nat.zero_le _, rfl, Below.refl _ w, by simpa using OwnsLv.nil _ _⟩
  case round =>
    obtain ⟨k, hk, rfl, hB, hO⟩ := hrel
    by_cases hlt : k < ls.length
    · obtain ⟨g, off, rfl, hg, hcc⟩ := HC.out (by omega)
      obtain ⟨sv, hsv, l0, l1, l2, l3, l4⟩ := hcc k hlt
      have hsv' := hsv
      obtain ⟨as_, cs_, rfl, _⟩ := hsv'
      replace l0 := (hB.cell (p := ⟨g, off + k * 5, none⟩) hg).trans l0
      replace l1 := (hB.cell (p := ⟨g, off + k * 5 + 1, none⟩) hg).trans l1
      replace l2 := (hB.cell (p := ⟨g, off + k * 5 + 2, none⟩) hg).trans l2
      replace l3 := (hB.cell (p := ⟨g, off + k * 5 + 3, none⟩) hg).trans l3
      replace l4 := (hB.cell (p := ⟨g, off + k * 5 + 4, none⟩) hg).trans l4
      have HCL := Lib.hid (copyLevel_any (hsv.below hB) (HF.out _ (List.getElem_mem hlt)))
      have htk : Hid (ls.take (k + 1) = ls.take k ++ [ls[k]]) := List.take_succ_eq_append_getElem hlt
      obtain ⟨l, hle⟩ : ∃ l, l = ls[k] := ⟨_, rfl⟩
      rw [← hle] at HCL l0 l1 l2 l3 l4 htk
      unfold lvA at HCL
      obtain ⟨L, hL, hLr, hLo⟩ := hO
      have hLl : L.length = k := by
        have := congrArg List.length hL
        rw [List.length_map, List.length_take] at this
        omega
      have HLo := Lib.hid hLo
      have HLr := Lib.hid hLr
      have HL := Lib.hid hL
      have HLl := Lib.hid hLl
      clear hcc hsv hle hLo hLr hL hLl
      go_wp2_with (first
        | (go_at_call 41; refine HCL.out.mono ?_; rintro e w1 ⟨sv', rfl, hb1, hs1⟩; obtain ⟨a', c', rfl⟩ := hs1.form; obtain ⟨q0, q1, q2, q3, q4⟩ := cells5 (alloc_new w1 (.cells #[.string l.name, .int .i64 l.pre, .slice a' l.labs.length c', .int .i64 l.min, .int .i64 l.cents] 41)))
        | (at_builtin; refine wpList_append_own _ rfl _ _ 25 rfl w.heap.size 41 i0 (.agg #[.string ⟨#[]⟩, .int .i64 0, .slice none 0 0, .int .i64 0, .int .i64 0]) 5 64 Try.underlying25 HI.out.1 HI.out.2.1 HI.out.2.2.1 HI.out.2.2.2 rfl (by decide) _ L.length _ rfl (((row_below6 HLo.out hb1).alloc _).alloc _) ⟨w1.heap.size + 1, 0, none⟩ 1 1 (lCell (l, .slice a' l.labs.length c')) rfl rfl (cells_new6 _ _ (by simp) _ _) (by simp [Value.oneCell', lCell]) (by have := HLl.out; unfold maxLen; omega) (by have := HLl.out; omega) (by have := hB.size; have := hb1.size; simp; omega) ?_; intro v' w2 hown' hgrow _))
      go_roundw
      case rel =>
        refine ⟨k + 1, by omega, by go_num, ?_, ?_⟩
        · exact ((below_c hB hB.size hb1).alloc (Nat.le_trans hB.size hb1.size) _).alloc (by have := hB.size; have := hb1.size; simp; omega) _ |>.grown hgrow (by have := hB.size; have := hb1.size; simp; omega) (fun r e => (HLo.out.lt r e).1)
        · rw [htk.out, ← HL.out]
          exact lev_step (fun p hp => ((row_below6 (HLr.out p hp) hb1).alloc _).alloc _) (((hs1.mono hB.size).alloc _).alloc _) (((row_below6 HLo.out hb1).alloc _).alloc _) hgrow hown'
      case measure => simp [intOf]; omega
    · obtain rfl : k = ls.length := by omega
      obtain ⟨a', c', hv⟩ := hO.form
      rw [List.length_take, Nat.min_self] at hv
      have HO := Lib.hid hO
      clear hO
      subst hv
      go_wp2_with fail
      go_ret
      refine ⟨_, rfl, hB, ?_⟩
      have := HO.out
      rwa [List.take_of_length_le (Nat.le_refl _)] at this
end Go.Proofs.Ytpieagaggjngjaa
