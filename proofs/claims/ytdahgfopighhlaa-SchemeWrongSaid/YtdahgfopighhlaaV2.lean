/-
  Plain laws of groups: without the finest level.
-/
import Derived.Test.YtdahgfopighhlaaV0
namespace Go.Proofs.Ytdahgfopighhlaa
open Go.RowKit
set_option linter.unusedVariables false
set_option maxRecDepth 100000
def shG (d : Nat) (g : Grp) : Grp := { g with lvl := g.lvl + 1, up := if 0 ≤ g.up then g.up + d else g.up }
theorem sh_up (l : Lev) (cs : List ByteArray) (n d : Nat) (g : Grp) : upTo l cs (d + n) (shG d g) = shG d (upTo l cs n g) := by
  unfold upTo shG
  simp only [Grp.mk.injEq, true_and, and_true]
  rw [if_pos (by omega)]
  omega
theorem sh_mk (i : Nat) (l : Lev) (cs : List ByteArray) (d : Nat) (n : ByteArray) : mkG (i + 1) l cs n = shG d (mkG i l cs n) := by
  unfold mkG shG
  simp
theorem sh_step (cs : List ByteArray) (P gs : List Grp) (b i : Nat) (l : Lev) : gStep cs (P ++ gs.map (shG P.length), P.length + b, i + 1) l = (P ++ (gStep cs (gs, b, i) l).1.map (shG P.length), P.length + (gStep cs (gs, b, i) l).2.1, (gStep cs (gs, b, i) l).2.2 + 1) := by
  unfold gStep
  simp only [Prod.mk.injEq, List.length_append, List.length_map, and_true]
  rw [List.take_append, List.drop_append]
  have e1 : P.take (P.length + b) = P := List.take_of_length_le (by omega)
  have e2 : P.drop (P.length + b) = [] := List.drop_eq_nil_of_le (by omega)
  have e3 : P.length + b - P.length = b := by omega
  rw [e1, e2, e3, List.nil_append, List.map_append, List.map_append, List.append_assoc, List.append_assoc, List.append_assoc]
  congr 1
  rw [← List.map_take, ← List.map_drop, List.map_map, List.map_map, List.map_map]
  congr 1
  have e4 : (gs.drop b).map (upTo l cs (P.length + gs.length) ∘ shG P.length) = (gs.drop b).map (shG P.length ∘ upTo l cs gs.length) := List.map_congr_left (fun g _ => sh_up l cs gs.length P.length g)
  have e5 : (namesOf l cs).map (mkG (i + 1) l cs) = (namesOf l cs).map (shG P.length ∘ mkG i l cs) := List.map_congr_left (fun n _ => sh_mk i l cs P.length n)
  rw [e4, e5]
theorem sh_fold (cs : List ByteArray) (P : List Grp) : ∀ (r : List Lev) (gs : List Grp) (b i : Nat), (r.foldl (gStep cs) (P ++ gs.map (shG P.length), P.length + b, i + 1)).1 = P ++ (r.foldl (gStep cs) (gs, b, i)).1.map (shG P.length) := by
  intro r
  induction r with
  | nil => intro gs b i; rfl
  | cons l r ih =>
    intro gs b i
    rw [List.foldl_cons, List.foldl_cons, sh_step]
    exact ih _ _ _
theorem gTo_all (ls : List Lev) (cs : List ByteArray) : gTo ls cs ls.length = ls.foldl (gStep cs) ([], 0, 0) := by unfold gTo; rw [List.take_of_length_le (Nat.le_refl _)]
/-- The groups of the finest level. -/
def fineG (l0 l1 : Lev) (cs : List ByteArray) : List Grp := (namesOf l0 cs).map (fun n => upTo l1 cs (namesOf l0 cs).length (mkG 0 l0 cs n))
theorem gTo_cut (l0 l1 : Lev) (r : List Lev) (cs : List ByteArray) : (gTo (l0 :: l1 :: r) cs (l0 :: l1 :: r).length).1 = fineG l0 l1 cs ++ (gTo (l1 :: r) cs (l1 :: r).length).1.map (shG (fineG l0 l1 cs).length) := by
  rw [gTo_all, gTo_all, List.foldl_cons, List.foldl_cons, List.foldl_cons]
  have e1 : gStep cs (gStep cs ([], 0, 0) l0) l1 = (fineG l0 l1 cs ++ ((namesOf l1 cs).map (mkG 0 l1 cs)).map (shG (fineG l0 l1 cs).length), (fineG l0 l1 cs).length + 0, 1 + 1) := by
    unfold gStep fineG
    simp only [List.take_nil, List.drop_nil, List.map_nil, List.nil_append, List.take_zero, List.drop_zero, List.length_nil, List.length_map, List.map_map, Prod.mk.injEq, Nat.add_zero, and_true]
    have e5 : (namesOf l1 cs).map (mkG (0 + 1) l1 cs) = (namesOf l1 cs).map (shG (namesOf l0 cs).length ∘ mkG 0 l1 cs) := List.map_congr_left (fun n _ => sh_mk 0 l1 cs _ n)
    rw [e5]
    rfl
  have e2 : gStep cs ([], 0, 0) l1 = ((namesOf l1 cs).map (mkG 0 l1 cs), 0, 1) := by
    unfold gStep
    simp
  rw [e1, e2]
  exact sh_fold cs _ r _ 0 1
theorem right_tail {l0 l1 : Lev} {r : List Lev} (h : rightB (l0 :: l1 :: r) = true) : rightB (l1 :: r) = true := by
  rw [rightB_eq] at h ⊢
  unfold rightC at h ⊢
  simp only [Bool.and_eq_true, decide_eq_true_eq] at h ⊢
  obtain ⟨⟨⟨⟨⟨h1, h2⟩, h3⟩, h4⟩, h5⟩, h6⟩ := h
  unfold levelsC at h4
  unfold namesC at h5
  unfold chainC at h6
  simp only [Bool.and_eq_true] at h4 h5 h6
  simp only [List.map_cons, List.sum_cons, List.length_cons] at h1 h2 h3 ⊢
  exact ⟨⟨⟨⟨⟨by omega, by omega⟩, by omega⟩, h4.2⟩, h5.2⟩, h6.2⟩
theorem RdLevs.tail {w : World} {a : Option Addr} {n cap : Nat} {l0 l1 : Lev} {r : List Lev} (h : RdLevs w (.slice a n cap) (l0 :: l1 :: r)) : ∃ g off, a = some ⟨g, off, none⟩ ∧ g < w.heap.size ∧ n = r.length + 2 ∧ ∀ c, RdLevs w (.slice (some ⟨g, off + 5, none⟩) (r.length + 1) c) (l1 :: r) := by
  obtain ⟨a', cap', hv, hc⟩ := h
  injection hv with h1 h2 h3
  subst h1
  obtain ⟨g, off, ha, hg, hcc⟩ := hc (by simp)
  refine ⟨g, off, ha, hg, by simpa using h2, fun c => ⟨_, c, rfl, fun _ => ⟨g, off + 5, rfl, hg, fun i hi => ?_⟩⟩⟩
  obtain ⟨sv, s1, s2⟩ := hcc (i + 1) (by simpa using hi)
  refine ⟨sv, s1, ?_⟩
  have e : off + (i + 1) * 5 = off + 5 + i * 5 := by omega
  rw [e] at s2
  exact s2
theorem codesOf_facts (bs : List UInt8) : (codesOf bs).length ≤ 2000 ∧ ∀ c ∈ codesOf bs, codeB c = true ∧ c.size = 5 := by
  unfold codesOf
  refine ⟨by simp; omega, fun c hc => ?_⟩
  obtain ⟨x, _, rfl⟩ := List.mem_map.1 hc
  exact ⟨code5_ok x, code5_size x⟩
theorem short_no {ls : List Lev} {cs : List ByteArray} (hp : ∀ l ∈ ls, l.pre ≤ 5) (hc : ∀ c ∈ cs, c.size = 5) : cs.any (shortB ls) = false := by
  rw [List.any_eq_false]
  intro c hcm
  unfold shortB
  cases ls with
  | nil => simp
  | cons l r =>
    have := hp l List.mem_cons_self
    have := hc c hcm
    simp
    omega
/-- Groups at a right scheme with short prefixes, and codes of five signs. -/
theorem groups_ok (ls : List Lev) (v vc : Value) (cs : List ByteArray) (w W : World) (hr : RdLevs W v ls) (h : rightB ls = true) (hp : ∀ l ∈ ls, l.pre ≤ 5) (hrc : ReadsT W vc cs) (hcs : cs.length ≤ 2000 ∧ ∀ c ∈ cs, codeB c = true ∧ c.size = 5) (hw : Below w.heap.size w W) :
    Calls Try.prog 14 #[v, vc] W fun e w' => ∃ a cap, e = .returned (.tuple #[.slice a (gTo ls cs ls.length).1.length cap, .int .i64 0]) ∧ Below w.heap.size w w' ∧ Below W.heap.size W w' ∧ RdGrps w' (.slice a (gTo ls cs ls.length).1.length cap) (gTo ls cs ls.length).1 := by
  have hl := right_len h
  have := groups_any ls v vc cs W hr (right_fits h) (by unfold maxLen; omega) hrc (by unfold maxLen; omega) (fun c hc => by rw [(hcs.2 c hc).2]; decide)
  rw [groupsR_ok h hcs.1 (fun c hc => (hcs.2 c hc).1) (short_no hp (fun c hc => (hcs.2 c hc).2))] at this
  refine this.mono ?_
  rintro e w' ⟨v', rfl, hb, ho⟩
  have hg := RdGrps.of_owns ho
  obtain ⟨a, cap, hv⟩ := ho.len
  subst hv
  exact ⟨a, cap, rfl, below_c hw hw.size hb, hb, hg⟩
theorem gTo_bound (ls : List Lev) (cs : List ByteArray) (hl : ls.length ≤ 6) (hc : cs.length ≤ 2000) : (gTo ls cs ls.length).1.length ≤ 12000 := by
  have := (gTo_len ls cs ls.length (Nat.le_refl _)).1
  exact Nat.le_trans this (Nat.le_trans (Nat.mul_le_mul hl hc) (by decide))
theorem gTo_item_len (ls : List Lev) (cs : List ByteArray) : ∀ k, k ≤ ls.length → ∀ g ∈ (gTo ls cs k).1, g.items.length ≤ cs.length := by
  intro k
  induction k with
  | zero => intro _ g hg; cases hg
  | succ k ih =>
    intro h
    rw [gTo_succ ls cs k h]
    intro g hg
    unfold gStep at hg
    simp only [List.append_assoc, List.mem_append, List.mem_map] at hg
    rcases hg with hg | ⟨g', hg, rfl⟩ | ⟨n, hn, rfl⟩
    · exact ih (by omega) g (List.mem_of_mem_take hg)
    · exact ih (by omega) g' (List.mem_of_mem_drop hg)
    · exact itemsTo_len _ _ _ _
theorem gTo_lvl (ls : List Lev) (cs : List ByteArray) : ∀ k, k ≤ ls.length → ∀ g ∈ (gTo ls cs k).1, 0 ≤ g.lvl ∧ g.lvl < k ∧ -1 ≤ g.up ∧ g.up ≤ 100000 + k * (cs.length : Int) := by
  intro k
  induction k with
  | zero => intro _ g hg; cases hg
  | succ k ih =>
    intro h
    have hlen := gTo_len ls cs k (by omega)
    have hix := gTo_idx ls cs k (by omega)
    rw [gTo_succ ls cs k h]
    intro g hg
    have hmul : ((k + 1 : Nat) : Int) * (cs.length : Int) = (k : Int) * (cs.length : Int) + (cs.length : Int) := by rw [Int.natCast_add, Int.add_mul]; simp
    have hk0 : (0 : Int) ≤ (k : Int) * (cs.length : Int) := Int.mul_nonneg (by omega) (by omega)
    have hlen' : ((gTo ls cs k).1.length : Int) ≤ (k : Int) * (cs.length : Int) := by have := hlen.1; rw [← Int.natCast_mul]; omega
    unfold gStep at hg
    simp only [List.append_assoc, List.mem_append, List.mem_map] at hg
    rcases hg with hg | ⟨g', hg, rfl⟩ | ⟨n, hn, rfl⟩
    · have := ih (by omega) g (List.mem_of_mem_take hg)
      omega
    · have := ih (by omega) g' (List.mem_of_mem_drop hg)
      have hi : idx (grpOf ls[k] (cs.getD (g'.items.headD 0).toNat ⟨#[]⟩)) (namesOf ls[k] cs) ≤ (namesOf ls[k] cs).length := List.findIdx_le_length
      have hnl := names_len ls[k] cs
      unfold upTo
      dsimp only
      omega
    · unfold mkG
      dsimp only
      rw [hix]
      omega
end Go.Proofs.Ytdahgfopighhlaa
