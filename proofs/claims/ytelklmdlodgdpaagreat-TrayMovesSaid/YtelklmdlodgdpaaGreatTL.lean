/-
  Loads, read; slices.IndexFunc three times; tray.Where.
-/
import Derived.Test.YtelklmdlodgdpaaGreatTJ
import Derived.BigQuiet
namespace Go.Proofs.YtelklmdlodgdpaaGreat
open Go.RowKit Go.Sort
set_option linter.unusedVariables false
set_option maxRecDepth 100000
/-- A row of elements that each have a row of numbers, read. -/
def RdX {α : Type} (n : Nat) (cf : α × Value → List Value) (ids : α → List Int) (w : World) (v : Value) (xs : List α) : Prop :=
  ∃ a cap, v = .slice a xs.length cap ∧ (0 < xs.length → ∃ g off, a = some ⟨g, off, none⟩ ∧ g < w.heap.size ∧ ∀ i (h : i < xs.length), ∃ s, RdInts w s (ids xs[i]) ∧ ∀ j u, (cf (xs[i], s))[j]? = some u → w.cell? ⟨g, off + i * n + j, none⟩ = some u)
section
variable {α : Type} {n : Nat} {cf : α × Value → List Value} {ids : α → List Int} {w w' : World} {v : Value} {xs : List α}
theorem RdX.below (h : RdX n cf ids w v xs) (hb : Below w.heap.size w w') : RdX n cf ids w' v xs := by
  obtain ⟨a, cap, hv, hc⟩ := h
  refine ⟨a, cap, hv, fun h0 => ?_⟩
  obtain ⟨g, off, ha, hg, hcc⟩ := hc h0
  refine ⟨g, off, ha, Nat.lt_of_lt_of_le hg hb.size, fun i hi => ?_⟩
  obtain ⟨s, h1, h2⟩ := hcc i hi
  exact ⟨s, h1.below hb, fun j u hj => (hb.cell (p := ⟨g, off + i * n + j, none⟩) hg).trans (h2 j u hj)⟩
theorem flat_at {β : Type} {f : β → List Value} {n : Nat} (hf : ∀ x, (f x).length = n) : ∀ (L : List β) (i j : Nat) (h : i < L.length), j < n → (L.flatMap f)[i * n + j]? = (f L[i])[j]?
  | [], i, j, h, _ => by simp at h
  | x :: r, 0, j, h, hj => by
    rw [List.flatMap_cons, Nat.zero_mul, Nat.zero_add, List.getElem?_append_left (by rw [hf]; exact hj)]; rfl
  | x :: r, i + 1, j, h, hj => by
    rw [List.flatMap_cons, List.getElem?_append_right (by rw [hf, Nat.add_mul]; omega), hf, Nat.add_mul]
    have e : i * n + 1 * n + j - n = i * n + j := by omega
    rw [e]
    exact flat_at hf r i j (by simpa using h) hj
theorem OwnsX.rd {T : TypeId} {base : Nat} (hf : ∀ p, (cf p).length = n) (h : OwnsX T n cf ids w base v xs) : RdX n cf ids w v xs := by
  obtain ⟨L, rfl, h1, h2⟩ := h
  rcases Joins.ownsRow_forms h2 with ⟨rfl, hp⟩ | ⟨g, cap, rfl⟩
  · exact ⟨none, 0, by rw [List.length_map, hp], fun h0 => by rw [List.length_map, hp] at h0; omega⟩
  · refine ⟨_, cap, by rw [List.length_map], fun h0 => ⟨g, 0, rfl, (h2.lt g rfl).2, fun i hi => ?_⟩⟩
    rw [List.length_map] at hi
    have hm : (L.map Prod.fst)[i]'(by rw [List.length_map]; exact hi) = L[i].1 := List.getElem_map _
    rw [hm]
    refine ⟨L[i].2, (h1 _ (List.getElem_mem hi)).rd, fun j u hj => ?_⟩
    have hjn : j < n := by
      rw [← hf (L[i].1, L[i].2)]
      exact (List.getElem?_eq_some_iff.1 hj).1
    have hlt : i * n + j < L.length * n := by
      have : (i + 1) * n ≤ L.length * n := Nat.mul_le_mul_right _ hi
      rw [Nat.add_mul] at this
      omega
    rw [Nat.zero_add, h2.cellAt _ hlt, flat_at hf L i j hi hjn]
    exact hj
end
/-- The first that has it, or -1. -/
def ixOf {α : Type} (f : α → Bool) (l : List α) : Int := if l.any f = true then (l.findIdx f : Nat) else -1
theorem ixOf_at {α : Type} {f : α → Bool} {l : List α} {q : Nat} (h : q < l.length) (hq : f l[q] = true) (hn : ∀ i (hi : i < l.length), i < q → f l[i] = false) : ixOf f l = (q : Int) := by
  unfold ixOf
  rw [if_pos (List.any_eq_true.2 ⟨_, List.getElem_mem h, hq⟩), (List.findIdx_eq h).2 ⟨hq, fun j hj => by rw [hn j (by omega) hj]⟩]
theorem ixOf_none {α : Type} {f : α → Bool} {l : List α} (hn : ∀ i (hi : i < l.length), f l[i] = false) : ixOf f l = -1 := by
  unfold ixOf
  rw [if_neg]
  intro h
  obtain ⟨x, hx, hf⟩ := List.any_eq_true.1 h
  obtain ⟨i, hi, rfl⟩ := List.mem_iff_getElem.1 hx
  rw [hn i hi] at hf
  cases hf
theorem whB_any (b : Bun) (id : Int) (X : Nat) (s : Value) (w : World) (hs : RdInts w s b.ids) (hX : w.cell? ⟨X, 0, none⟩ = some (.int .i64 id)) (hXl : X < w.heap.size) (hl : b.ids.length ≤ 1000000) :
    Calls Tryz.prog 33 #[.agg #[.int .i64 b.lvl, .string b.grp, s, .int .i64 b.grams], .pointer (some ⟨X, 0, none⟩)] w fun e w' => e = .returned (.bool (b.ids.contains id)) ∧ Below w.heap.size w w' := by
  obtain ⟨a, c, rfl, hc⟩ := hs
  have hbb : Below w.heap.size w (w.alloc (.cells #[.int .i64 b.lvl, .string b.grp, .slice a b.ids.length c, .int .i64 b.grams] 47)) := (Below.refl _ _).alloc (Nat.le_refl _) _
  have hx : (w.alloc (.cells #[.int .i64 b.lvl, .string b.grp, .slice a b.ids.length c, .int .i64 b.grams] 47)).cell? ⟨X, 0, none⟩ = some (.int .i64 id) := (hbb.cell (p := ⟨X, 0, none⟩) hXl).trans hX
  obtain ⟨r, hr⟩ : ∃ r, r = b.ids.contains id := ⟨_, rfl⟩
  rw [← hr]
  by_cases h0 : 0 < b.ids.length
  · obtain ⟨g, off, rfl, hg, hcc⟩ := hc h0
    have hct := Tryz.slices_Contains_int g off b.ids.length c b.ids id (w.alloc (.cells #[.int .i64 b.lvl, .string b.grp, .slice (some ⟨g, off, none⟩) b.ids.length c, .int .i64 b.grams] 47)) (Nat.le_refl _) (by omega) (fun j hj => by
      rw [List.getD_eq_getElem?_getD, List.getElem?_eq_getElem hj]
      exact (hbb.cell (p := ⟨g, off + j, none⟩) hg).trans (hcc j hj))
    rw [List.take_length, ← hr] at hct
    have HCT := Lib.hid hct
    clear hcc hct hr
    go_enter Tryz.func33, Tryz.ntmps33
    go_wp2_with (go_at_call 34; refine HCT.out.mono ?_; rintro e w2 ⟨rfl, hw2⟩; obtain rfl := hw2)
    go_ret
    exact ⟨rfl, hbb⟩
  · have hz : b.ids = [] := List.length_eq_zero_iff.1 (by omega)
    rw [hz] at hx hbb hr ⊢
    have hrf : r = false := hr
    subst hrf
    clear hc hr
    go_enter Tryz.func33, Tryz.ntmps33
    go_wp2_with (go_at_call 34; refine (Tryz.slices_Contains_int_empty a c id _).mono ?_; rintro e w2 ⟨rfl, hw2⟩; obtain rfl := hw2)
    go_ret
    exact ⟨rfl, hbb⟩
set_option maxHeartbeats 4000000 in
theorem ixB_any (id : Int) (X : Nat) (xs : List Bun) (v : Value) (w : World) (hr : RdX 4 bunCell (fun b : Bun => b.ids) w v xs) (hX : w.cell? ⟨X, 0, none⟩ = some (.int .i64 id)) (hXl : X < w.heap.size) (hl : xs.length ≤ 1000000) (hil : ∀ b ∈ xs, b.ids.length ≤ 1000000) :
    Calls Tryz.prog 32 #[v, .func (Fn.func 33) #[] #[.pointer (some ⟨X, 0, none⟩)]] w fun e w' => e = .returned (.int .i64 (ixOf (fun b : Bun => b.ids.contains id) xs)) ∧ Below w.heap.size w w' := by
  obtain ⟨a, cap, rfl, hc⟩ := hr
  have HC := Lib.hid hc
  have HX := Lib.hid hX
  have HXL := Lib.hid hXl
  have HIL := Lib.hid hil
  clear hc hX hXl hil
  go_enter Tryz.func32, Tryz.ntmps32
  go_wp2_with fail
  go_loopw [8] (fun i wx => ∃ q : Nat, q ≤ xs.length ∧ i = .int .i64 q ∧ Below w.heap.size w wx ∧ ∀ i (hi : i < xs.length), i < q → (xs[i].ids.contains id) = false) (fun i _ => xs.length - (intOf i).toNat)
  case atStart => exact ⟨0, Nat.zero_le _, rfl, Below.refl _ _, fun i _ h => absurd h (Nat.not_lt_zero _)⟩
  case round =>
    obtain ⟨q, hq, rfl, hB, hno⟩ := hrel
    have HNO := Lib.hid hno
    have HB := Lib.hid hB
    clear hno
    by_cases hlt : q < xs.length
    · obtain ⟨g, off, rfl, hg, hcc⟩ := HC.out (by omega)
      obtain ⟨s, hs, hcell⟩ := hcc q hlt
      have hlen := HIL.out _ (List.getElem_mem hlt)
      have hyes := fun h => ixOf_at (f := fun b : Bun => b.ids.contains id) hlt h (fun i hi hiq => HNO.out i hi hiq)
      obtain ⟨b, hb⟩ : ∃ b, b = xs[q] := ⟨_, rfl⟩
      have HBB := Lib.hid hb
      rw [← hb] at hs hcell hlen hyes
      have f0 : wr.cell? ⟨g, off + q * 4, none⟩ = some (.int .i64 b.lvl) := (hB.cell (p := ⟨g, off + q * 4, none⟩) hg).trans (hcell 0 _ rfl)
      have f1 : wr.cell? ⟨g, off + q * 4 + 1, none⟩ = some (.string b.grp) := (hB.cell (p := ⟨g, off + q * 4 + 1, none⟩) hg).trans (hcell 1 _ rfl)
      have f2 : wr.cell? ⟨g, off + q * 4 + 2, none⟩ = some (s) := (hB.cell (p := ⟨g, off + q * 4 + 2, none⟩) hg).trans (hcell 2 _ rfl)
      have f3 : wr.cell? ⟨g, off + q * 4 + 3, none⟩ = some (.int .i64 b.grams) := (hB.cell (p := ⟨g, off + q * 4 + 3, none⟩) hg).trans (hcell 3 _ rfl)
      have hcall := whB_any b id X s wr (hs.below hB) ((hB.cell (p := ⟨X, 0, none⟩) HXL.out).trans HX.out) (Nat.lt_of_lt_of_le HXL.out hB.size) hlen
      have HCALL := Lib.hid hcall
      have HY := Lib.hid hyes
      obtain ⟨asx, csx, rfl, _⟩ := hs
      clear hcall hyes hcell hcc hb
      cases hct : b.ids.contains id
      · rw [hct] at HCALL
        go_wp2_with (go_at_call 33; refine HCALL.out.mono ?_; rintro e w2 ⟨rfl, hb2⟩)
        go_roundw
        case rel =>
          refine ⟨q + 1, by omega, by go_num, below_c HB.out HB.out.size hb2, fun i hi hiq => ?_⟩
          by_cases e : i = q
          · subst e; rw [← HBB.out]; exact hct
          · exact HNO.out i hi (by omega)
        case measure => simp [intOf]; omega
      · rw [hct] at HCALL
        have hy := HY.out hct
        have HYY := Lib.hid hy
        clear hy
        go_wp2_with (go_at_call 33; refine HCALL.out.mono ?_; rintro e w2 ⟨rfl, hb2⟩)
        go_ret
        rw [HYY.out]
        exact ⟨rfl, below_c HB.out HB.out.size hb2⟩
    · have hn := ixOf_none (f := fun b : Bun => b.ids.contains id) (l := xs) (fun i hi => HNO.out i hi (by omega))
      have HN := Lib.hid hn
      clear hn
      go_wp2_with fail
      go_ret
      rw [HN.out]
      exact ⟨rfl, HB.out⟩
theorem whT_any (b : Tra) (id : Int) (X : Nat) (s : Value) (w : World) (hs : RdInts w s b.bs) (hX : w.cell? ⟨X, 0, none⟩ = some (.int .i64 id)) (hXl : X < w.heap.size) (hl : b.bs.length ≤ 1000000) :
    Calls Tryz.prog 36 #[.agg #[.int .i64 b.lvl, .string b.grp, s], .pointer (some ⟨X, 0, none⟩)] w fun e w' => e = .returned (.bool (b.bs.contains id)) ∧ Below w.heap.size w w' := by
  obtain ⟨a, c, rfl, hc⟩ := hs
  have hbb : Below w.heap.size w (w.alloc (.cells #[.int .i64 b.lvl, .string b.grp, .slice a b.bs.length c] 49)) := (Below.refl _ _).alloc (Nat.le_refl _) _
  have hx : (w.alloc (.cells #[.int .i64 b.lvl, .string b.grp, .slice a b.bs.length c] 49)).cell? ⟨X, 0, none⟩ = some (.int .i64 id) := (hbb.cell (p := ⟨X, 0, none⟩) hXl).trans hX
  obtain ⟨r, hr⟩ : ∃ r, r = b.bs.contains id := ⟨_, rfl⟩
  rw [← hr]
  by_cases h0 : 0 < b.bs.length
  · obtain ⟨g, off, rfl, hg, hcc⟩ := hc h0
    have hct := Tryz.slices_Contains_int g off b.bs.length c b.bs id (w.alloc (.cells #[.int .i64 b.lvl, .string b.grp, .slice (some ⟨g, off, none⟩) b.bs.length c] 49)) (Nat.le_refl _) (by omega) (fun j hj => by
      rw [List.getD_eq_getElem?_getD, List.getElem?_eq_getElem hj]
      exact (hbb.cell (p := ⟨g, off + j, none⟩) hg).trans (hcc j hj))
    rw [List.take_length, ← hr] at hct
    have HCT := Lib.hid hct
    clear hcc hct hr
    go_enter Tryz.func36, Tryz.ntmps36
    go_wp2_with (go_at_call 34; refine HCT.out.mono ?_; rintro e w2 ⟨rfl, hw2⟩; obtain rfl := hw2)
    go_ret
    exact ⟨rfl, hbb⟩
  · have hz : b.bs = [] := List.length_eq_zero_iff.1 (by omega)
    rw [hz] at hx hbb hr ⊢
    have hrf : r = false := hr
    subst hrf
    clear hc hr
    go_enter Tryz.func36, Tryz.ntmps36
    go_wp2_with (go_at_call 34; refine (Tryz.slices_Contains_int_empty a c id _).mono ?_; rintro e w2 ⟨rfl, hw2⟩; obtain rfl := hw2)
    go_ret
    exact ⟨rfl, hbb⟩
set_option maxHeartbeats 4000000 in
theorem ixT_any (id : Int) (X : Nat) (xs : List Tra) (v : Value) (w : World) (hr : RdX 3 traCell (fun b : Tra => b.bs) w v xs) (hX : w.cell? ⟨X, 0, none⟩ = some (.int .i64 id)) (hXl : X < w.heap.size) (hl : xs.length ≤ 1000000) (hil : ∀ b ∈ xs, b.bs.length ≤ 1000000) :
    Calls Tryz.prog 35 #[v, .func (Fn.func 36) #[] #[.pointer (some ⟨X, 0, none⟩)]] w fun e w' => e = .returned (.int .i64 (ixOf (fun b : Tra => b.bs.contains id) xs)) ∧ Below w.heap.size w w' := by
  obtain ⟨a, cap, rfl, hc⟩ := hr
  have HC := Lib.hid hc
  have HX := Lib.hid hX
  have HXL := Lib.hid hXl
  have HIL := Lib.hid hil
  clear hc hX hXl hil
  go_enter Tryz.func35, Tryz.ntmps35
  go_wp2_with fail
  go_loopw [8] (fun i wx => ∃ q : Nat, q ≤ xs.length ∧ i = .int .i64 q ∧ Below w.heap.size w wx ∧ ∀ i (hi : i < xs.length), i < q → (xs[i].bs.contains id) = false) (fun i _ => xs.length - (intOf i).toNat)
  case atStart => exact ⟨0, Nat.zero_le _, rfl, Below.refl _ _, fun i _ h => absurd h (Nat.not_lt_zero _)⟩
  case round =>
    obtain ⟨q, hq, rfl, hB, hno⟩ := hrel
    have HNO := Lib.hid hno
    have HB := Lib.hid hB
    clear hno
    by_cases hlt : q < xs.length
    · obtain ⟨g, off, rfl, hg, hcc⟩ := HC.out (by omega)
      obtain ⟨s, hs, hcell⟩ := hcc q hlt
      have hlen := HIL.out _ (List.getElem_mem hlt)
      have hyes := fun h => ixOf_at (f := fun b : Tra => b.bs.contains id) hlt h (fun i hi hiq => HNO.out i hi hiq)
      obtain ⟨b, hb⟩ : ∃ b, b = xs[q] := ⟨_, rfl⟩
      have HBB := Lib.hid hb
      rw [← hb] at hs hcell hlen hyes
      have f0 : wr.cell? ⟨g, off + q * 3, none⟩ = some (.int .i64 b.lvl) := (hB.cell (p := ⟨g, off + q * 3, none⟩) hg).trans (hcell 0 _ rfl)
      have f1 : wr.cell? ⟨g, off + q * 3 + 1, none⟩ = some (.string b.grp) := (hB.cell (p := ⟨g, off + q * 3 + 1, none⟩) hg).trans (hcell 1 _ rfl)
      have f2 : wr.cell? ⟨g, off + q * 3 + 2, none⟩ = some (s) := (hB.cell (p := ⟨g, off + q * 3 + 2, none⟩) hg).trans (hcell 2 _ rfl)
      have hcall := whT_any b id X s wr (hs.below hB) ((hB.cell (p := ⟨X, 0, none⟩) HXL.out).trans HX.out) (Nat.lt_of_lt_of_le HXL.out hB.size) hlen
      have HCALL := Lib.hid hcall
      have HY := Lib.hid hyes
      obtain ⟨asx, csx, rfl, _⟩ := hs
      clear hcall hyes hcell hcc hb
      cases hct : b.bs.contains id
      · rw [hct] at HCALL
        go_wp2_with (go_at_call 36; refine HCALL.out.mono ?_; rintro e w2 ⟨rfl, hb2⟩)
        go_roundw
        case rel =>
          refine ⟨q + 1, by omega, by go_num, below_c HB.out HB.out.size hb2, fun i hi hiq => ?_⟩
          by_cases e : i = q
          · subst e; rw [← HBB.out]; exact hct
          · exact HNO.out i hi (by omega)
        case measure => simp [intOf]; omega
      · rw [hct] at HCALL
        have hy := HY.out hct
        have HYY := Lib.hid hy
        clear hy
        go_wp2_with (go_at_call 36; refine HCALL.out.mono ?_; rintro e w2 ⟨rfl, hb2⟩)
        go_ret
        rw [HYY.out]
        exact ⟨rfl, below_c HB.out HB.out.size hb2⟩
    · have hn := ixOf_none (f := fun b : Tra => b.bs.contains id) (l := xs) (fun i hi => HNO.out i hi (by omega))
      have HN := Lib.hid hn
      clear hn
      go_wp2_with fail
      go_ret
      rw [HN.out]
      exact ⟨rfl, HB.out⟩
theorem whC_any (b : Con) (id : Int) (X : Nat) (s : Value) (w : World) (hs : RdInts w s b.ts) (hX : w.cell? ⟨X, 0, none⟩ = some (.int .i64 id)) (hXl : X < w.heap.size) (hl : b.ts.length ≤ 1000000) :
    Calls Tryz.prog 38 #[.agg #[.int .i64 b.lvl, s], .pointer (some ⟨X, 0, none⟩)] w fun e w' => e = .returned (.bool (b.ts.contains id)) ∧ Below w.heap.size w w' := by
  obtain ⟨a, c, rfl, hc⟩ := hs
  have hbb : Below w.heap.size w (w.alloc (.cells #[.int .i64 b.lvl, .slice a b.ts.length c] 51)) := (Below.refl _ _).alloc (Nat.le_refl _) _
  have hx : (w.alloc (.cells #[.int .i64 b.lvl, .slice a b.ts.length c] 51)).cell? ⟨X, 0, none⟩ = some (.int .i64 id) := (hbb.cell (p := ⟨X, 0, none⟩) hXl).trans hX
  obtain ⟨r, hr⟩ : ∃ r, r = b.ts.contains id := ⟨_, rfl⟩
  rw [← hr]
  by_cases h0 : 0 < b.ts.length
  · obtain ⟨g, off, rfl, hg, hcc⟩ := hc h0
    have hct := Tryz.slices_Contains_int g off b.ts.length c b.ts id (w.alloc (.cells #[.int .i64 b.lvl, .slice (some ⟨g, off, none⟩) b.ts.length c] 51)) (Nat.le_refl _) (by omega) (fun j hj => by
      rw [List.getD_eq_getElem?_getD, List.getElem?_eq_getElem hj]
      exact (hbb.cell (p := ⟨g, off + j, none⟩) hg).trans (hcc j hj))
    rw [List.take_length, ← hr] at hct
    have HCT := Lib.hid hct
    clear hcc hct hr
    go_enter Tryz.func38, Tryz.ntmps38
    go_wp2_with (go_at_call 34; refine HCT.out.mono ?_; rintro e w2 ⟨rfl, hw2⟩; obtain rfl := hw2)
    go_ret
    exact ⟨rfl, hbb⟩
  · have hz : b.ts = [] := List.length_eq_zero_iff.1 (by omega)
    rw [hz] at hx hbb hr ⊢
    have hrf : r = false := hr
    subst hrf
    clear hc hr
    go_enter Tryz.func38, Tryz.ntmps38
    go_wp2_with (go_at_call 34; refine (Tryz.slices_Contains_int_empty a c id _).mono ?_; rintro e w2 ⟨rfl, hw2⟩; obtain rfl := hw2)
    go_ret
    exact ⟨rfl, hbb⟩
set_option maxHeartbeats 4000000 in
theorem ixC_any (id : Int) (X : Nat) (xs : List Con) (v : Value) (w : World) (hr : RdX 2 conCell (fun b : Con => b.ts) w v xs) (hX : w.cell? ⟨X, 0, none⟩ = some (.int .i64 id)) (hXl : X < w.heap.size) (hl : xs.length ≤ 1000000) (hil : ∀ b ∈ xs, b.ts.length ≤ 1000000) :
    Calls Tryz.prog 37 #[v, .func (Fn.func 38) #[] #[.pointer (some ⟨X, 0, none⟩)]] w fun e w' => e = .returned (.int .i64 (ixOf (fun b : Con => b.ts.contains id) xs)) ∧ Below w.heap.size w w' := by
  obtain ⟨a, cap, rfl, hc⟩ := hr
  have HC := Lib.hid hc
  have HX := Lib.hid hX
  have HXL := Lib.hid hXl
  have HIL := Lib.hid hil
  clear hc hX hXl hil
  go_enter Tryz.func37, Tryz.ntmps37
  go_wp2_with fail
  go_loopw [8] (fun i wx => ∃ q : Nat, q ≤ xs.length ∧ i = .int .i64 q ∧ Below w.heap.size w wx ∧ ∀ i (hi : i < xs.length), i < q → (xs[i].ts.contains id) = false) (fun i _ => xs.length - (intOf i).toNat)
  case atStart => exact ⟨0, Nat.zero_le _, rfl, Below.refl _ _, fun i _ h => absurd h (Nat.not_lt_zero _)⟩
  case round =>
    obtain ⟨q, hq, rfl, hB, hno⟩ := hrel
    have HNO := Lib.hid hno
    have HB := Lib.hid hB
    clear hno
    by_cases hlt : q < xs.length
    · obtain ⟨g, off, rfl, hg, hcc⟩ := HC.out (by omega)
      obtain ⟨s, hs, hcell⟩ := hcc q hlt
      have hlen := HIL.out _ (List.getElem_mem hlt)
      have hyes := fun h => ixOf_at (f := fun b : Con => b.ts.contains id) hlt h (fun i hi hiq => HNO.out i hi hiq)
      obtain ⟨b, hb⟩ : ∃ b, b = xs[q] := ⟨_, rfl⟩
      have HBB := Lib.hid hb
      rw [← hb] at hs hcell hlen hyes
      have f0 : wr.cell? ⟨g, off + q * 2, none⟩ = some (.int .i64 b.lvl) := (hB.cell (p := ⟨g, off + q * 2, none⟩) hg).trans (hcell 0 _ rfl)
      have f1 : wr.cell? ⟨g, off + q * 2 + 1, none⟩ = some (s) := (hB.cell (p := ⟨g, off + q * 2 + 1, none⟩) hg).trans (hcell 1 _ rfl)
      have hcall := whC_any b id X s wr (hs.below hB) ((hB.cell (p := ⟨X, 0, none⟩) HXL.out).trans HX.out) (Nat.lt_of_lt_of_le HXL.out hB.size) hlen
      have HCALL := Lib.hid hcall
      have HY := Lib.hid hyes
      obtain ⟨asx, csx, rfl, _⟩ := hs
      clear hcall hyes hcell hcc hb
      cases hct : b.ts.contains id
      · rw [hct] at HCALL
        go_wp2_with (go_at_call 38; refine HCALL.out.mono ?_; rintro e w2 ⟨rfl, hb2⟩)
        go_roundw
        case rel =>
          refine ⟨q + 1, by omega, by go_num, below_c HB.out HB.out.size hb2, fun i hi hiq => ?_⟩
          by_cases e : i = q
          · subst e; rw [← HBB.out]; exact hct
          · exact HNO.out i hi (by omega)
        case measure => simp [intOf]; omega
      · rw [hct] at HCALL
        have hy := HY.out hct
        have HYY := Lib.hid hy
        clear hy
        go_wp2_with (go_at_call 38; refine HCALL.out.mono ?_; rintro e w2 ⟨rfl, hb2⟩)
        go_ret
        rw [HYY.out]
        exact ⟨rfl, below_c HB.out HB.out.size hb2⟩
    · have hn := ixOf_none (f := fun b : Con => b.ts.contains id) (l := xs) (fun i hi => HNO.out i hi (by omega))
      have HN := Lib.hid hn
      clear hn
      go_wp2_with fail
      go_ret
      rw [HN.out]
      exact ⟨rfl, HB.out⟩
end Go.Proofs.YtelklmdlodgdpaaGreat
