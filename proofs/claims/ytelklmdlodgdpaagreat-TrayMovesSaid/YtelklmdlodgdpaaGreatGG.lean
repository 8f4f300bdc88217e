import Derived.Test.YtelklmdlodgdpaaGreatGC
import Derived.Test.YtelklmdlodgdpaaGreatGF
import Derived.Test.YtelklmdlodgdpaaGreatGD
import Derived.Test.YtelklmdlodgdpaaGreatW6
/-! P14 -/
namespace Go.Proofs.YtelklmdlodgdpaaGreat
open Go.RowKit
set_option linter.unusedVariables false
set_option maxRecDepth 100000
def plsOf (ls : List Lev) : List (Int × Int) := ls.map (fun l => (l.min, l.cents))
theorem plsOf_len (ls : List Lev) : (plsOf ls).length = ls.length := by unfold plsOf; simp
theorem start_mono (ls : List Lev) (cs : List ByteArray) {a b : Nat} (h : a ≤ b) : startOf ls cs a ≤ startOf ls cs b := by
  induction b with
  | zero => obtain rfl : a = 0 := by omega
            exact Nat.le_refl _
  | succ b ih =>
    by_cases e : a = b + 1
    · subst e; exact Nat.le_refl _
    · exact Nat.le_trans (ih (by omega)) (Nat.le_add_right _ _)
theorem start_split (ls : List Lev) (cs : List ByteArray) : ∀ k g, g < startOf ls cs k → ∃ m j, m < k ∧ j < (nm ls cs m).length ∧ g = startOf ls cs m + j
  | 0, g, h => absurd h (Nat.not_lt_zero _)
  | k + 1, g, h => by
    by_cases hg : g < startOf ls cs k
    · obtain ⟨m, j, h1, h2, h3⟩ := start_split ls cs k g hg
      exact ⟨m, j, by omega, h2, h3⟩
    · have h' : g < startOf ls cs k + (nm ls cs k).length := h
      exact ⟨k, g - startOf ls cs k, by omega, by omega, by omega⟩
theorem start_one {ls : List Lev} {cs : List ByteArray} {m m' j j' : Nat} (h : j < (nm ls cs m).length) (h' : j' < (nm ls cs m').length) (e : startOf ls cs m + j = startOf ls cs m' + j') : m = m' ∧ j = j' := by
  rcases Nat.lt_trichotomy m m' with hm | hm | hm
  · have h1 : startOf ls cs m + (nm ls cs m).length ≤ startOf ls cs m' := start_mono ls cs (show m + 1 ≤ m' from hm)
    omega
  · subst hm; exact ⟨rfl, by omega⟩
  · have h1 : startOf ls cs m' + (nm ls cs m').length ≤ startOf ls cs m := start_mono ls cs (show m' + 1 ≤ m from hm)
    omega
theorem nm_strict (ls : List Lev) (cs : List ByteArray) (m : Nat) : StrictB (nm ls cs m) := strict_sortB _
theorem nm_idx {ls : List Lev} {cs : List ByteArray} {m j : Nat} (h : j < (nm ls cs m).length) : idx (nm ls cs m)[j] (nm ls cs m) = j := idx_getElem (nm_strict ls cs m) h
theorem nm_mem {ls : List Lev} {cs : List ByteArray} {m j : Nat} (h : j < (nm ls cs m).length) : (nm ls cs m)[j] ∈ nm ls cs m := List.getElem_mem h
theorem nm_inj {ls : List Lev} {cs : List ByteArray} {m j j' : Nat} (h : j < (nm ls cs m).length) (h' : j' < (nm ls cs m).length) (e : (nm ls cs m)[j] = (nm ls cs m)[j']) : j = j' := by
  have h1 := nm_idx h
  rw [e, nm_idx h'] at h1
  exact h1.symm
theorem nm_at {ls : List Lev} {cs : List ByteArray} {m : Nat} {u : ByteArray} (h : u ∈ nm ls cs m) : (nm ls cs m)[idx u (nm ls cs m)]'(idx_lt h) = u := by
  have := idx_get h
  rw [List.getElem?_eq_getElem (idx_lt h)] at this
  exact Option.some.inj this
/-- The groups for the plan. -/
def pG (ls : List Lev) (cs : List ByteArray) : List PGrp := pOfs (gAll ls cs ls.length)
theorem pG_len (ls : List Lev) (cs : List ByteArray) : (pG ls cs).length = startOf ls cs ls.length := by unfold pG; rw [pOfs_len, gAll_len]
theorem pG_at {ls : List Lev} {cs : List ByteArray} {m j : Nat} (hm : m < ls.length) (hj : j < (nm ls cs m).length) : gsAt (pG ls cs) (startOf ls cs m + j) = ⟨m, if m + 1 < ls.length then (upOf ls cs m (nm ls cs m)[j] : Int) else -1, itm ls cs m (nm ls cs m)[j]⟩ := by
  have hg := gAll_get ls cs ls.length m j hm hj
  obtain ⟨hlt, he⟩ := List.getElem?_eq_some_iff.1 hg
  unfold pG
  rw [gsAt_get hlt, he]
  rfl
theorem pG_lt {ls : List Lev} {cs : List ByteArray} {m j : Nat} (hm : m < ls.length) (hj : j < (nm ls cs m).length) : startOf ls cs m + j < (pG ls cs).length := by
  rw [pG_len]
  have h1 : startOf ls cs m + (nm ls cs m).length ≤ startOf ls cs ls.length := start_mono ls cs (show m + 1 ≤ ls.length from hm)
  omega
variable {ls : List Lev} {cs : List ByteArray}
/-- Where the group above stands, and that it has the codes of this one. -/
theorem up_spec (h : rightB ls = true) (hc : ∀ c ∈ cs, codeB c = true) (hp : ∀ l ∈ ls, ∀ c ∈ cs, l.pre ≤ c.size) {m j : Nat} (hm : m + 1 < ls.length) (hj : j < (nm ls cs m).length) :
    ∃ J, ∃ hJ : J < (nm ls cs (m + 1)).length, upOf ls cs m (nm ls cs m)[j] = startOf ls cs (m + 1) + J ∧ ∀ q (hq : q < cs.length), grpOf (lv ls m) cs[q] = (nm ls cs m)[j] → grpOf (lv ls (m + 1)) cs[q] = (nm ls cs (m + 1))[J] := by
  obtain ⟨i, hi, hh, hgr⟩ := headC_mem (nm_mem hj)
  have hmem : grpOf (lv ls (m + 1)) (headC ls cs m (nm ls cs m)[j]) ∈ nm ls cs (m + 1) := by rw [hh]; exact nm_of hi
  refine ⟨_, idx_lt hmem, rfl, fun q hq he => ?_⟩
  rw [nm_at hmem, hh]
  rw [lv_get hm]
  rw [lv_get (by omega)] at he hgr
  exact path_nests h (hc _ (List.getElem_mem hq)) (hc _ (List.getElem_mem hi)) (fun l hl => hp l hl _ (List.getElem_mem hq)) (fun l hl => hp l hl _ (List.getElem_mem hi)) m hm (he.trans hgr.symm)
theorem below_spec (h : rightB ls = true) (hc : ∀ c ∈ cs, codeB c = true) (hp : ∀ l ∈ ls, ∀ c ∈ cs, l.pre ≤ c.size) {M J x : Nat} (hM : M < ls.length) (hJ : J < (nm ls cs M).length) (hx : x ∈ belowR (pG ls cs) (startOf ls cs M + J)) :
    ∃ m j, ∃ hj : j < (nm ls cs m).length, m + 1 = M ∧ x = startOf ls cs m + j ∧ upOf ls cs m (nm ls cs m)[j] = startOf ls cs M + J ∧ ∀ q (hq : q < cs.length), grpOf (lv ls m) cs[q] = (nm ls cs m)[j] → grpOf (lv ls M) cs[q] = (nm ls cs M)[J] := by
  obtain ⟨h1, h2⟩ := mem_below.1 hx
  rw [pG_len] at h1
  obtain ⟨m, j, hm, hj, rfl⟩ := start_split ls cs _ _ h1
  rw [pG_at hm hj] at h2
  dsimp only at h2
  by_cases hk : m + 1 < ls.length
  · rw [if_pos hk] at h2
    obtain ⟨J', hJ', e1, e2⟩ := up_spec h hc hp hk hj
    rw [e1] at h2
    have h3 : startOf ls cs (m + 1) + J' = startOf ls cs M + J := by omega
    obtain ⟨rfl, rfl⟩ := start_one hJ' hJ h3
    exact ⟨m, j, hj, rfl, rfl, e1, e2⟩
  · rw [if_neg hk] at h2
    omega
theorem mem_items {ls : List Lev} {cs : List ByteArray} {m j : Nat} (hm : m < ls.length) (hj : j < (nm ls cs m).length) {i : Int} : i ∈ (gsAt (pG ls cs) (startOf ls cs m + j)).items ↔ ∃ q : Nat, ∃ hq : q < cs.length, grpOf (lv ls m) cs[q] = (nm ls cs m)[j] ∧ i = q := by
  rw [pG_at hm hj]
  exact mem_itm
theorem forest3 (h : rightB ls = true) (hc : ∀ c ∈ cs, codeB c = true) (hp : ∀ l ∈ ls, ∀ c ∈ cs, l.pre ≤ c.size) : Forest3 (plsOf ls) (pG ls cs) cs.length := by
  have hsp : ∀ g, g < (pG ls cs).length → ∃ m j, m < ls.length ∧ j < (nm ls cs m).length ∧ g = startOf ls cs m + j := fun g hg => start_split ls cs _ g (by rw [← pG_len]; exact hg)
  have hll := plsOf_len ls
  have hlen := right_len h
  have hnd : ∀ m j (hm : m < ls.length) (hj : j < (nm ls cs m).length), (gsAt (pG ls cs) (startOf ls cs m + j)).items.Nodup := fun m j hm hj => by
    rw [pG_at hm hj]
    exact (itm_order ls cs m _).imp (fun a e => by omega)
  have hlvl : ∀ m j (hm : m < ls.length) (hj : j < (nm ls cs m).length), (gsAt (pG ls cs) (startOf ls cs m + j)).lvl = (m : Int) := fun m j hm hj => by rw [pG_at hm hj]
  refine ⟨⟨⟨?_, ?_, ?_, ?_, ?_, ?_⟩, ?_, ?_, ?_⟩, ?_, ?_, ?_⟩
  · intro g hg
    obtain ⟨m, j, hm, hj, rfl⟩ := hsp g hg
    rw [hlvl m j hm hj]
    omega
  · intro g hg x hx
    obtain ⟨M, J, hM, hJ, rfl⟩ := hsp g hg
    obtain ⟨m, j, hj, rfl, rfl, _, _⟩ := below_spec h hc hp hM hJ hx
    have h1 : startOf ls cs (m + 1) = startOf ls cs m + (nm ls cs m).length := rfl
    omega
  · intro g hg hl0
    obtain ⟨M, J, hM, hJ, rfl⟩ := hsp g hg
    rw [hlvl M J hM hJ] at hl0
    obtain ⟨m, rfl⟩ : ∃ m, M = m + 1 := ⟨M - 1, by omega⟩
    have hback : ∀ q (hq : q < cs.length), grpOf (lv ls (m + 1)) cs[q] = (nm ls cs (m + 1))[J] → ∃ j, ∃ hj : j < (nm ls cs m).length, grpOf (lv ls m) cs[q] = (nm ls cs m)[j] ∧ startOf ls cs m + j ∈ belowR (pG ls cs) (startOf ls cs (m + 1) + J) := fun q hq he => by
      have hmem : grpOf (lv ls m) cs[q] ∈ nm ls cs m := nm_of hq
      refine ⟨_, idx_lt hmem, (nm_at hmem).symm, ?_⟩
      refine mem_below.2 ⟨pG_lt (by omega) (idx_lt hmem), ?_⟩
      rw [pG_at (by omega) (idx_lt hmem)]
      dsimp only
      rw [if_pos hM]
      obtain ⟨J', hJ', e1, e2⟩ := up_spec h hc hp hM (idx_lt hmem)
      rw [e1]
      have h4 := e2 q hq (nm_at hmem).symm
      rw [he] at h4
      rw [nm_inj hJ hJ' h4]
    refine ⟨?_, ?_⟩
    · rw [List.perm_ext_iff_of_nodup ?_ (hnd _ _ hM hJ)]
      · intro i
        rw [mem_items hM hJ, List.mem_flatMap]
        constructor
        · rintro ⟨x, hx, hi⟩
          obtain ⟨m', j, hj, e0, rfl, _, e2⟩ := below_spec h hc hp hM hJ hx
          obtain rfl : m' = m := by omega
          obtain ⟨q, hq, e3, rfl⟩ := (mem_items (by omega) hj).1 hi
          exact ⟨q, hq, e2 q hq e3, rfl⟩
        · rintro ⟨q, hq, e3, rfl⟩
          obtain ⟨j, hj, e4, e5⟩ := hback q hq e3
          exact ⟨_, e5, (mem_items (by omega) hj).2 ⟨q, hq, e4, rfl⟩⟩
      · refine flatMap_nodup (below_nodup _ _) (fun x hx => ?_) (fun x hx y hy i h1 h2 => ?_)
        · obtain ⟨m', j, hj, e0, rfl, _, e2⟩ := below_spec h hc hp hM hJ hx
          exact hnd _ _ (by omega) hj
        · obtain ⟨m', j, hj, e0, rfl, _, _⟩ := below_spec h hc hp hM hJ hx
          obtain ⟨m2, j2, hj2, e02, rfl, _, _⟩ := below_spec h hc hp hM hJ hy
          obtain rfl : m' = m := by omega
          obtain rfl : m2 = m' := by omega
          obtain ⟨q, hq, e3, rfl⟩ := (mem_items (by omega) hj).1 h1
          obtain ⟨q2, hq2, e32, e33⟩ := (mem_items (by omega) hj2).1 h2
          obtain rfl : q = q2 := by omega
          rw [nm_inj hj hj2 (e3.symm.trans e32)]
    · obtain ⟨i, hi, _, hgr⟩ := headC_mem (nm_mem hJ)
      obtain ⟨j, hj, _, e5⟩ := hback i hi hgr
      exact List.ne_nil_of_mem e5
  · intro g hg x hx
    obtain ⟨M, J, hM, hJ, rfl⟩ := hsp g hg
    obtain ⟨m, j, hj, rfl, rfl, _, _⟩ := below_spec h hc hp hM hJ hx
    rw [hlvl _ _ hM hJ, hlvl _ _ (by omega) hj]
    omega
  · intro g hg
    obtain ⟨m, j, hm, hj, rfl⟩ := hsp g hg
    rw [pG_at hm hj]
    exact itm_some (nm_mem hj)
  · intro l hl
    unfold plsOf at hl
    obtain ⟨l', hl', rfl⟩ := List.mem_map.1 hl
    obtain ⟨i, hi, rfl⟩ := List.mem_iff_getElem.1 hl'
    obtain ⟨_, _, ⟨_, hlv, _, _⟩, _⟩ := rightB_iff.1 h
    obtain ⟨hh, _⟩ := levelB_iff.1 (hlv i hi hi)
    unfold headB at hh
    rw [Bool.and_eq_true, decide_eq_true_eq] at hh
    exact hh.2.2.2.1
  · intro g hg
    obtain ⟨m, j, hm, hj, rfl⟩ := hsp g hg
    exact hnd m j hm hj
  · intro g hg g' hg' he i h1 h2
    obtain ⟨m, j, hm, hj, rfl⟩ := hsp g hg
    obtain ⟨m', j', hm', hj', rfl⟩ := hsp g' hg'
    rw [hlvl _ _ hm hj, hlvl _ _ hm' hj'] at he
    obtain rfl : m = m' := by omega
    obtain ⟨q, hq, e3, rfl⟩ := (mem_items hm hj).1 h1
    obtain ⟨q2, hq2, e32, e33⟩ := (mem_items hm hj').1 h2
    obtain rfl : q = q2 := by omega
    rw [nm_inj hj hj' (e3.symm.trans e32)]
  · intro g hg i hi
    obtain ⟨m, j, hm, hj, rfl⟩ := hsp g hg
    obtain ⟨q, hq, _, rfl⟩ := (mem_items hm hj).1 hi
    omega
  · intro g hg hno
    obtain ⟨m, j, hm, hj, rfl⟩ := hsp g hg
    rw [hlvl _ _ hm hj, hll]
    by_cases hk : m + 1 < ls.length
    · exfalso
      obtain ⟨J', hJ', e1, e2⟩ := up_spec h hc hp hk hj
      refine hno _ (pG_lt hk hJ') (mem_below.2 ⟨hg, ?_⟩)
      rw [pG_at hm hj]
      dsimp only
      rw [if_pos hk, e1]
    · omega
  · intro g hg hl
    obtain ⟨m, j, hm, hj, rfl⟩ := hsp g hg
    rw [hlvl _ _ hm hj, hll] at hl
    unfold lvOf
    rw [hlvl _ _ hm hj]
    obtain ⟨_, _, ⟨_, hlv, _, _⟩, _⟩ := rightB_iff.1 h
    obtain ⟨_, hh⟩ := levelB_iff.1 (hlv m hm hm)
    rw [decide_eq_true (by omega)] at hh
    simp only [if_true] at hh
    unfold plsOf
    rw [List.getD_eq_getElem?_getD, List.getElem?_map, Int.toNat_natCast, List.getElem?_eq_getElem hm]
    show ls[m].min ≤ 0
    omega
  · intro i h0 hn
    have hm : ls.length - 1 < ls.length := by omega
    have hq : i.toNat < cs.length := by omega
    have hmem : grpOf (lv ls (ls.length - 1)) cs[i.toNat] ∈ nm ls cs (ls.length - 1) := nm_of hq
    refine ⟨_, pG_lt hm (idx_lt hmem), ?_, (mem_items hm (idx_lt hmem)).2 ⟨i.toNat, hq, (nm_at hmem).symm, by omega⟩⟩
    rw [hlvl _ _ hm (idx_lt hmem), hll]
    omega
end Go.Proofs.YtelklmdlodgdpaaGreat

/-! P15 -/
namespace Go.Proofs.YtelklmdlodgdpaaGreat
set_option linter.unusedVariables false
/-- A table of at most N pieces. -/
structure TB (N : Nat) (t : List Int) : Prop where
  l1 : 1 ≤ t.length
  l2 : t.length ≤ N + 1
  ok : ∀ x ∈ t, -1 ≤ x
  up : ∀ p, p < t.length → ent t p ≤ 1000000 * ((N : Int) - p)
theorem TB.zero : TB 0 [0] := ⟨by simp, by simp, by simp, fun p hp => by
  obtain rfl : p = 0 := by simpa using hp
  show (0 : Int) ≤ _
  omega⟩
theorem TB.join {N M : Nat} {a b : List Int} (ha : TB N a) (hb : TB M b) : TB (N + M) (joinR a b) := by
  have hl := joinR_len ha.ok hb.ok
  have h1 := ha.l1
  have h2 := ha.l2
  have h3 := hb.l1
  have h4 := hb.l2
  refine ⟨by omega, by omega, joinR_ok ha.ok hb.ok, fun p hp => ?_⟩
  rcases joinR_at ha.ok hb.ok p with h0 | ⟨i, j, ⟨q1, q2, _, _⟩, rfl, hv⟩
  · rw [h0]
    omega
  · rw [hv]
    have := ha.up i q1
    have := hb.up j q2
    omega
theorem TB.mono {N M : Nat} {a : List Int} (ha : TB N a) (h : N ≤ M) : TB M a := ⟨ha.l1, by have := ha.l2; omega, ha.ok, fun p hp => by have := ha.up p hp; omega⟩
theorem TB.le {N : Nat} {a : List Int} (ha : TB N a) (hN : N ≤ 2000) : 1 ≤ a.length ∧ a.length ≤ 5000 ∧ ∀ x ∈ a, -1 ≤ x ∧ x ≤ 1000000000000 := by
  refine ⟨ha.l1, by have := ha.l2; omega, fun x hx => ⟨ha.ok x hx, ?_⟩⟩
  obtain ⟨i, hi, rfl⟩ := List.mem_iff_getElem.1 hx
  have := ha.up i hi
  rw [ent_get hi] at this
  omega
theorem TB.merged {ts : List (List Int)} {N : Nat → Nat} (h : ∀ i, i < ts.length → TB (N i) (tabAt ts i)) : ∀ k, k ≤ ts.length → TB (sQ ts.length N k) (mergedTo ts k)
  | 0, _ => TB.zero
  | k + 1, hk => by
    have e : mergedTo ts (k + 1) = joinR (tabAt ts (ts.length - 1 - k)) (mergedTo ts k) := rfl
    rw [e]
    unfold sQ
    rw [Nat.add_comm]
    exact TB.join (h _ (by omega)) (TB.merged h k (by omega))
theorem TB.table {N : Nat} {come : List Int} (h : TB N come) (last : Bool) (mn cents : Int) (hc : 0 ≤ cents ∧ cents ≤ 1000000) : TB N (tableR come last mn cents) := by
  have h1 := h.l1
  have h2 := h.l2
  have ht := table_ok come last mn cents h.ok (by omega) hc.1
  have hl := table_len come last mn cents
  refine ⟨ht.2, by rw [hl]; split <;> omega, ht.1, fun p hp => ?_⟩
  rw [hl] at hp
  rw [ent_table come last mn cents hp]
  have hpl : p < come.length := by
    split at hp <;> omega
  rcases cell_at come mn cents p h.ok hc.1 (come.length - p) with h0 | ⟨j, hj, h3, h4, h5⟩
  · rw [h0]; omega
  · rw [h5]
    have h6 := h.up (p + j) (by omega)
    have h7 : saverR mn cents (p : Nat) (p + j : Nat) ≤ 1000000 * (j : Int) := by
      unfold saverR at h3 ⊢
      split at h3
      · exact absurd rfl h3
      · rename_i hn
        rw [if_neg hn]
        have e : ((p + j : Nat) : Int) - (p : Int) = j := by omega
        rw [e, Int.mul_comm]
        exact Int.mul_le_mul_of_nonneg_right hc.2 (by omega)
    omega
theorem sum_nat_len {α : Type} (l : List Nat) (f : Nat → List α) : (l.flatMap f).length = (l.map (fun h => (f h).length)).sum := by
  induction l with
  | nil => rfl
  | cons a r ih => rw [List.flatMap_cons, List.length_append, ih, List.map_cons, List.sum_cons]
theorem sum_ge {l : List Nat} {f : Nat → Nat} (h : ∀ x ∈ l, 1 ≤ f x) : l.length ≤ (l.map f).sum := by
  induction l with
  | nil => exact Nat.zero_le _
  | cons a r ih =>
    rw [List.map_cons, List.sum_cons, List.length_cons]
    have := h a List.mem_cons_self
    have := ih (fun x hx => h x (List.mem_cons_of_mem _ hx))
    omega
theorem lvOf_cents2 {ls : List (Int × Int)} {gs : List PGrp} (hF : Forest ls gs) (hc : ∀ l ∈ ls, l.2 ≤ 1000000) {g : Nat} (hg : g < gs.length) : 0 ≤ (lvOf ls gs g).2 ∧ (lvOf ls gs g).2 ≤ 1000000 := by
  refine ⟨lvOf_cents hF hg, ?_⟩
  obtain ⟨a, b⟩ := hF.lvl g hg
  have hi : (gsAt gs g).lvl.toNat < ls.length := by omega
  unfold lvOf
  rw [List.getD_eq_getElem?_getD, List.getElem?_eq_getElem hi]
  exact hc _ (List.getElem_mem hi)
theorem ent_zeros_le (n p : Nat) (hp : p < (List.replicate n (-1 : Int) ++ [0]).length) : ent (List.replicate n (-1) ++ [0]) p ≤ 1000000 * ((n : Int) - p) := by
  have hl : (List.replicate n (-1 : Int) ++ [0]).length = n + 1 := by simp
  by_cases h : ent (List.replicate n (-1) ++ [0]) p = -1
  · rw [h]; omega
  · obtain ⟨rfl, h2⟩ := ent_zeros n p h
    rw [h2]; omega
theorem sub_items {ls : List (Int × Int)} {gs : List PGrp} (hF : Forest ls gs) {g : Nat} (hg : g < gs.length) (hl : 0 < (gsAt gs g).lvl) : ((belowR gs g).map (fun h => (gsAt gs h).items.length)).sum = (gsAt gs g).items.length := by
  rw [← sum_nat_len]
  exact (hF.parts g hg hl).1.length_eq
theorem sub_few {ls : List (Int × Int)} {gs : List PGrp} (hF : Forest ls gs) {g : Nat} (hg : g < gs.length) (hl : 0 < (gsAt gs g).lvl) : (belowR gs g).length ≤ (gsAt gs g).items.length := by
  rw [← sub_items hF hg hl]
  refine sum_ge (fun x hx => ?_)
  have h1 := hF.below g hg x hx
  exact List.length_pos_iff.2 (hF.some_ x (by omega))
theorem subTab_at {ls : List (Int × Int)} {gs : List PGrp} {g i : Nat} (hi : i < (belowR gs g).length) : tabAt (subTabs ls gs g) i = tabOf ls gs ((belowR gs g).getD i 0) := by
  unfold tabAt subTabs
  rw [List.getD_eq_getElem?_getD, List.getElem?_map, List.getD_eq_getElem?_getD, List.getElem?_eq_getElem hi]
  rfl
theorem merged_tb {ls : List (Int × Int)} {gs : List PGrp} (hF : Forest ls gs) {g : Nat} (hg : g < gs.length) (hl : 0 < (gsAt gs g).lvl) (ih : ∀ h, h < g → TB (gsAt gs h).items.length (tabOf ls gs h)) :
    ∀ k, k ≤ (subTabs ls gs g).length → TB (gsAt gs g).items.length (mergedTo (subTabs ls gs g) k) := by
  intro k hk
  have hlen : (subTabs ls gs g).length = (belowR gs g).length := by unfold subTabs; simp
  have := TB.merged (ts := subTabs ls gs g) (N := fun i => (gsAt gs ((belowR gs g).getD i 0)).items.length) (fun i hi => by
    rw [hlen] at hi
    rw [subTab_at hi]
    refine ih _ (hF.below g hg _ ?_)
    rw [List.getD_eq_getElem?_getD, List.getElem?_eq_getElem hi]
    exact List.getElem_mem hi) k hk
  refine this.mono ?_
  have h1 := sQ_sum (subTabs ls gs g).length (fun i => (gsAt gs ((belowR gs g).getD i 0)).items.length) k hk
  have h2 := range_getD_map (belowR gs g) (fun h => (gsAt gs h).items.length)
  rw [← hlen] at h2
  have h3 := sub_items hF hg hl
  rw [h2] at h1
  omega
theorem come_tb {ls : List (Int × Int)} {gs : List PGrp} (hF : Forest ls gs) {g : Nat} (hg : g < gs.length) (ih : ∀ h, h < g → TB (gsAt gs h).items.length (tabOf ls gs h)) : TB (gsAt gs g).items.length (comeOf ls gs g) := by
  unfold comeOf comeR
  by_cases h0 : (gsAt gs g).lvl = 0
  · rw [if_pos h0]
    refine ⟨by simp, by simp, fun x hx => ?_, fun p hp => ent_zeros_le _ p hp⟩
    rcases List.mem_append.1 hx with hx | hx
    · rw [(List.mem_replicate.1 hx).2]; decide
    · obtain rfl := List.mem_singleton.1 hx; decide
  · rw [if_neg h0]
    have hl : 0 < (gsAt gs g).lvl := by have := (hF.lvl g hg).1; omega
    have hne := (hF.parts g hg hl).2
    have hl' : (subTabs ls gs g).length ≠ 0 := by unfold subTabs; rw [List.length_map]; exact fun h => hne (List.length_eq_zero_iff.1 h)
    rw [if_neg hl']
    exact merged_tb hF hg hl ih _ (Nat.le_refl _)
theorem tab_tb {ls : List (Int × Int)} {gs : List PGrp} (hF : Forest ls gs) (hc : ∀ l ∈ ls, l.2 ≤ 1000000) : ∀ g, g < gs.length → TB (gsAt gs g).items.length (tabOf ls gs g) := by
  intro g
  induction g using Nat.strongRecOn with
  | ind g ih =>
    intro hg
    rw [tabOf_eq hF hg]
    exact (come_tb hF hg (fun h hh => ih h hh (by omega))).table _ _ _ (lvOf_cents2 hF hc hg)
theorem sub_mok {ls : List (Int × Int)} {gs : List PGrp} (hF : Forest ls gs) (hc : ∀ l ∈ ls, l.2 ≤ 1000000) (hi : ∀ g, g < gs.length → (gsAt gs g).items.length ≤ 2000) {g : Nat} (hg : g < gs.length) (hl : 0 < (gsAt gs g).lvl) : MOk (subTabs ls gs g) := by
  have hlen : (subTabs ls gs g).length = (belowR gs g).length := by unfold subTabs; simp
  refine ⟨?_, fun t ht => ?_, fun k hk => ?_⟩
  · rw [hlen]
    have := sub_few hF hg hl
    have := hi g hg
    omega
  · obtain ⟨h, hh, rfl⟩ := List.mem_map.1 ht
    have hlt := hF.below g hg h hh
    exact (tab_tb hF hc h (by omega)).le (hi h (by omega))
  · exact (merged_tb hF hg hl (fun h hh => tab_tb hF hc h (by omega)) k hk).le (hi g hg)
end Go.Proofs.YtelklmdlodgdpaaGreat

/-! P16 -/
namespace Go.Proofs.YtelklmdlodgdpaaGreat
set_option linter.unusedVariables false
/-- Does a row of fewest fit? -/
def hitR (a rest : List Int) (fits : Int → Int → Bool) (i : Nat) : Bool :=
  decide (a.getD i (-1) ≠ -1) && (List.range rest.length).any (fun j => decide (rest.getD j (-1) ≠ -1) && fits (i + j : Nat) (a.getD i (-1) + rest.getD j (-1)))
theorem few_at {a rest : List Int} {fits : Int → Int → Bool} {i : Nat} (hi : i < a.length) (h0 : ∀ i', i' < i → hitR a rest fits i' = false) (h1 : hitR a rest fits i = true) : fewR a rest fits = i := by
  unfold fewR
  have : (List.range a.length).find? (hitR a rest fits) = some i := by
    rw [List.find?_eq_some_iff_getElem]
    refine ⟨h1, i, by simpa using hi, by simp, fun j hj => ?_⟩
    rw [List.getElem_range, h0 j hj]; rfl
  unfold hitR at this
  rw [this]; rfl
theorem few_no {a rest : List Int} {fits : Int → Int → Bool} (h0 : ∀ i', i' < a.length → hitR a rest fits i' = false) : fewR a rest fits = a.length - 1 := by
  unfold fewR
  have : (List.range a.length).find? (hitR a rest fits) = none := by
    rw [List.find?_eq_none]
    intro x hx
    rw [h0 x (List.mem_range.1 hx)]
    exact Bool.false_ne_true
  unfold hitR at this
  rw [this]; rfl
theorem few_lt (a rest : List Int) (fits : Int → Int → Bool) (h : 1 ≤ a.length) : fewR a rest fits < a.length := by
  unfold fewR
  cases hf : (List.range a.length).find? (fun i => decide (a.getD i (-1) ≠ -1) && (List.range rest.length).any (fun j => decide (rest.getD j (-1) ≠ -1) && fits (i + j : Nat) (a.getD i (-1) + rest.getD j (-1)))) with
  | none => show a.length - 1 < _; omega
  | some x => exact List.mem_range.1 (List.mem_of_find?_eq_some hf)
theorem hit_skip {a rest : List Int} {fits : Int → Int → Bool} {i : Nat} (h : ent a i = -1) : hitR a rest fits i = false := by
  unfold hitR
  unfold ent at h
  rw [h]; rfl
theorem hit_yes {a rest : List Int} {fits : Int → Int → Bool} {i j : Nat} (h : ent a i ≠ -1) (hj : j < rest.length) (h2 : ent rest j ≠ -1) (h3 : fits (i + j : Nat) (ent a i + ent rest j) = true) : hitR a rest fits i = true := by
  unfold hitR
  unfold ent at *
  rw [Bool.and_eq_true, decide_eq_true_eq, List.any_eq_true]
  exact ⟨h, j, List.mem_range.2 hj, by rw [Bool.and_eq_true, decide_eq_true_eq]; exact ⟨h2, h3⟩⟩
theorem hit_no {a rest : List Int} {fits : Int → Int → Bool} {i : Nat} (h : ∀ j, j < rest.length → ent rest j ≠ -1 → fits (i + j : Nat) (ent a i + ent rest j) = false) : hitR a rest fits i = false := by
  unfold hitR
  unfold ent at *
  rw [Bool.and_eq_false_iff]
  right
  rw [List.any_eq_false]
  intro j hj hh
  rw [Bool.and_eq_true, decide_eq_true_eq] at hh
  rw [h j (List.mem_range.1 hj) hh.1] at hh
  cases hh.2
/-- What the function fits tells. -/
def fitR (mn cents P most come saved : Int) (q below : Int) : Bool := decide (saverR mn cents P (come + q) ≠ -1) && decide (saved + below + saverR mn cents P (come + q) = most)
/-- The k-th subgroup passes on so many. -/
def divP (mn cents P most : Int) (ts : List (List Int)) (k : Nat) : Nat := fewR (tabAt ts k) (mergedTo ts (ts.length - 1 - k)) (fitR mn cents P most (divTo mn cents P most ts k).1 (divTo mn cents P most ts k).2.1)
theorem div_succ (mn cents P most : Int) (ts : List (List Int)) (k : Nat) : divTo mn cents P most ts (k + 1) = ((divTo mn cents P most ts k).1 + divP mn cents P most ts k, (divTo mn cents P most ts k).2.1 + ent (tabAt ts k) (divP mn cents P most ts k), (divTo mn cents P most ts k).2.2 ++ [divP mn cents P most ts k]) := by
  rw [divTo]
  generalize hd : divTo mn cents P most ts k = d
  obtain ⟨come, saved, out⟩ := d
  unfold divP
  rw [hd]
  rfl
theorem div_len (mn cents P most : Int) (ts : List (List Int)) : ∀ k, (divTo mn cents P most ts k).2.2.length = k
  | 0 => rfl
  | k + 1 => by rw [div_succ]; dsimp only; rw [List.length_append, div_len mn cents P most ts k]; rfl
theorem div_get (mn cents P most : Int) (ts : List (List Int)) (i : Nat) : ∀ k, i < k → (divTo mn cents P most ts k).2.2.getD i 0 = divP mn cents P most ts i
  | 0, h => absurd h (Nat.not_lt_zero _)
  | k + 1, h => by
    rw [div_succ]
    dsimp only
    by_cases e : i = k
    · subst e; rw [getD_snoc_at (div_len mn cents P most ts i)]
    · rw [getD_snoc_lt (by rw [div_len]; omega)]; exact div_get mn cents P most ts i k (by omega)
theorem divP_lt {mn cents P most : Int} {ts : List (List Int)} (hM : MOk ts) {k : Nat} (hk : k < ts.length) : divP mn cents P most ts k < (tabAt ts k).length := by
  refine few_lt _ _ _ ?_
  have : tabAt ts k ∈ ts := by unfold tabAt; rw [List.getD_eq_getElem?_getD, List.getElem?_eq_getElem hk]; exact List.getElem_mem hk
  exact (hM.one _ this).1
theorem tab_mem {ts : List (List Int)} {k : Nat} (hk : k < ts.length) : tabAt ts k ∈ ts := by unfold tabAt; rw [List.getD_eq_getElem?_getD, List.getElem?_eq_getElem hk]; exact List.getElem_mem hk
theorem ent_in {l : List Int} {i : Nat} (h : ∀ x ∈ l, -1 ≤ x ∧ x ≤ 1000000000000) : -1 ≤ ent l i ∧ ent l i ≤ 1000000000000 := by
  by_cases hi : i < l.length
  · rw [ent_get hi]; exact h _ (List.getElem_mem hi)
  · unfold ent; rw [List.getD_eq_getElem?_getD, List.getElem?_eq_none (by omega)]; exact ⟨by decide, by decide⟩
theorem div_range {mn cents P most : Int} {ts : List (List Int)} (hM : MOk ts) : ∀ k, k ≤ ts.length → (divTo mn cents P most ts k).1 ≤ k * 5000 ∧ -(k : Int) ≤ (divTo mn cents P most ts k).2.1 ∧ (divTo mn cents P most ts k).2.1 ≤ k * 1000000000000
  | 0, _ => ⟨Nat.le_refl _, Int.le_refl _, Int.le_refl _⟩
  | k + 1, hk => by
    obtain ⟨a, b, c⟩ := div_range hM (mn := mn) (cents := cents) (P := P) (most := most) k (by omega)
    rw [div_succ]
    dsimp only
    have h1 := divP_lt (mn := mn) (cents := cents) (P := P) (most := most) hM (show k < ts.length by omega)
    have h2 := hM.one _ (tab_mem (show k < ts.length by omega))
    have h3 := ent_in (i := divP mn cents P most ts k) h2.2.2
    refine ⟨by omega, by omega, by omega⟩
/-- The numbers that are passed on, after the first k subgroups are told theirs. -/
def subF (subs : List Nat) (p : Nat → Nat) (f : Nat → Int) (k : Nat) : Nat → Int := fun h => match (subs.take k).idxOf? h with
  | some i => (p i : Int)
  | none => f h
theorem subF_zero (subs : List Nat) (p : Nat → Nat) (f : Nat → Int) : subF subs p f 0 = f := rfl
theorem idx_of_take {subs : List Nat} {x k : Nat} (hd : subs.Nodup) (hk : k < subs.length) : (subs.take (k + 1)).idxOf? x = if x = subs[k] then some k else (subs.take k).idxOf? x := by
  have hd' : (subs.take (k + 1)).Nodup := hd.sublist (List.take_sublist _ _)
  by_cases e : x = subs[k]
  · rw [if_pos e, e]
    have := idx_some hd' (i := k) (by rw [List.length_take]; omega)
    rw [List.getElem_take] at this
    exact this
  · rw [if_neg e]
    by_cases hm : x ∈ subs.take k
    · obtain ⟨i, hi, rfl⟩ := List.mem_iff_getElem.1 hm
      rw [List.length_take] at hi
      have h1 := idx_some hd' (i := i) (by rw [List.length_take]; omega)
      have h2 := idx_some (hd.sublist (List.take_sublist k subs)) (i := i) (by rw [List.length_take]; omega)
      rw [List.getElem_take] at h1 h2 ⊢
      rw [h1, h2]
    · rw [idx_none hm, idx_none]
      rw [List.take_succ_eq_append_getElem hk, List.mem_append, List.mem_singleton]
      exact fun h => h.elim hm e
theorem subF_succ {subs : List Nat} (p : Nat → Nat) (f : Nat → Int) {k : Nat} (hd : subs.Nodup) (hk : k < subs.length) : subF subs p f (k + 1) = fun h => if h = subs[k] then (p k : Int) else subF subs p f k h := by
  funext h
  unfold subF
  rw [idx_of_take hd hk]
  by_cases e : h = subs[k]
  · rw [if_pos e, if_pos e]
  · rw [if_neg e, if_neg e]
/-- A function on a row of numbers. -/
def rowF (f : Nat → Int) (n : Nat) : List Int := (List.range n).map f
theorem rowF_len (f : Nat → Int) (n : Nat) : (rowF f n).length = n := by unfold rowF; simp
theorem rowF_get {f : Nat → Int} {n i : Nat} (h : i < n) : (rowF f n).getD i (-1) = f i := by
  unfold rowF
  rw [List.getD_eq_getElem?_getD, List.getElem?_map, List.getElem?_range h]; rfl
theorem rowF_set (f : Nat → Int) {n i : Nat} (h : i < n) (x : Int) : (rowF f n).set i x = rowF (fun j => if j = i then x else f j) n := by
  unfold rowF
  apply List.ext_getElem
  · simp
  · intro j h1 h2
    rw [List.getElem_set, List.getElem_map, List.getElem_map, List.getElem_range]
    by_cases e : i = j
    · rw [if_pos e, if_pos e.symm]
    · rw [if_neg e, if_neg (fun h => e h.symm)]
theorem rowF_rep (x : Int) (n : Nat) : List.replicate n x = rowF (fun _ => x) n := by
  unfold rowF
  apply List.ext_getElem
  · simp
  · intro j h1 h2; simp
theorem passTo_sub (ls : List (Int × Int)) (gs : List PGrp) (tabs : List (List Int)) (k : Nat) : passTo ls gs tabs (k + 1) =
    subF (belowR gs (gs.length - 1 - k)) (divP (lvOf ls gs (gs.length - 1 - k)).1 (lvOf ls gs (gs.length - 1 - k)).2 (passTo ls gs tabs k (gs.length - 1 - k)) ((tabs.getD (gs.length - 1 - k) []).getD (passTo ls gs tabs k (gs.length - 1 - k)).toNat (-1)) ((belowR gs (gs.length - 1 - k)).map (fun h => tabs.getD h []))) (passTo ls gs tabs k) (belowR gs (gs.length - 1 - k)).length := by
  rw [passTo_succ]
  funext h
  unfold subF
  rw [List.take_length]
  by_cases hm : h ∈ belowR gs (gs.length - 1 - k)
  · obtain ⟨i, hi, rfl⟩ := List.mem_iff_getElem.1 hm
    rw [idx_some (below_nodup _ _) hi]
    dsimp only
    unfold outOf
    rw [div_get _ _ _ _ _ i _ hi]
  · rw [idx_none hm]
end Go.Proofs.YtelklmdlodgdpaaGreat

/-! W7 -/
namespace Go.Proofs.YtelklmdlodgdpaaGreat
open Go.RowKit Go.Sort Go.Shelf
set_option linter.unusedVariables false
set_option maxRecDepth 100000
theorem lvOf_at {ls : List Lev} {Gs : List Grp} {g lv : Nat} (hg : g < Gs.length) (hlv : lv < ls.length) (he : Gs[g].lvl = (lv : Int)) : lvOf (plsOf ls) (pOfs Gs) g = (ls[lv].min, ls[lv].cents) := by
  unfold lvOf
  rw [gsAt_get hg]
  show (plsOf ls).getD (Gs[g].lvl).toNat (0, 0) = _
  rw [he]
  unfold plsOf
  rw [List.getD_eq_getElem?_getD, List.getElem?_map, Int.toNat_natCast, List.getElem?_eq_getElem hlv]
  rfl
theorem pls_cents {ls : List Lev} (hc : ∀ l ∈ ls, 0 ≤ l.cents ∧ l.cents ≤ 1000000) : ∀ l ∈ plsOf ls, l.2 ≤ 1000000 := fun l hl => by
  unfold plsOf at hl
  obtain ⟨l', hl', rfl⟩ := List.mem_map.1 hl
  exact (hc l' hl').2
theorem items_at {Gs : List Grp} (hi : ∀ x ∈ Gs, x.items.length ≤ 2000) : ∀ g, g < (pOfs Gs).length → (gsAt (pOfs Gs) g).items.length ≤ 2000 := fun g hg => by
  rw [pOfs_len] at hg
  rw [gsAt_get hg]
  exact hi _ (List.getElem_mem hg)
theorem table_any (T BB TB PB base : Nat) (v vg : Value) (Gs : List Grp) (ps : List Int) (g : Nat) (ls : List Lev) (w : World) (h : TreeW w T BB TB PB base v vg Gs (tabOf (plsOf ls) (pOfs Gs)) g ps) (hF : Forest (plsOf ls) (pOfs Gs)) (hg : g < Gs.length) (hn : Gs.length ≤ 100000)
    (hr : RdLevs w v ls) (hl6 : ls.length ≤ 1000) (hc : ∀ l ∈ ls, 0 ≤ l.cents ∧ l.cents ≤ 1000000) (hi : ∀ x ∈ Gs, x.items.length ≤ 2000) :
    Calls Tryz.prog 51 #[.pointer (some ⟨T, 0, none⟩), .int .i64 g] w fun e w' => ∃ a cap, e = .returned (.slice a (tabOf (plsOf ls) (pOfs Gs) g).length cap) ∧ Below w.heap.size w w' ∧
      RowJ w' base (.slice a (tabOf (plsOf ls) (pOfs Gs) g).length cap) (tabOf (plsOf ls) (pOfs Gs) g) := by
  have hgp : g < (pOfs Gs).length := by rw [pOfs_len]; exact hg
  have hga := gsAt_get hg
  have hll := plsOf_len ls
  obtain ⟨l0, l1⟩ := hF.lvl g hgp
  rw [hga] at l0 l1
  have l0' : 0 ≤ Gs[g].lvl := l0
  have l1' : Gs[g].lvl < ((plsOf ls).length : Int) := l1
  obtain ⟨lv, hle⟩ : ∃ lv : Nat, Gs[g].lvl = (lv : Int) := ⟨_, (Int.toNat_of_nonneg l0').symm⟩
  have hlv : lv < ls.length := by omega
  have htab : tabOf (plsOf ls) (pOfs Gs) g = tableR (comeOf (plsOf ls) (pOfs Gs) g) (decide (lv + 1 = ls.length)) ls[lv].min ls[lv].cents := by
    rw [tabOf_eq hF hgp, lvOf_at hg hlv hle, hga]
    congr 1
    rw [decide_eq_decide]
    show Gs[g].lvl = _ ↔ _
    rw [hle, hll]
    omega
  have hco : comeOf (plsOf ls) (pOfs Gs) g = comeR Gs[g].lvl Gs[g].items.length ((belowR (pOfs Gs) g).map (tabOf (plsOf ls) (pOfs Gs))) := by
    unfold comeOf subTabs
    rw [hga]; rfl
  have hi' := items_at hi
  have hC := (come_tb hF hgp (fun h hh => tab_tb hF (pls_cents hc) h (by omega))).le (hi' g hgp)
  rw [htab]
  refine table_main T BB TB PB base v vg Gs (tabOf (plsOf ls) (pOfs Gs)) g ps g ls lv (comeOf (plsOf ls) (pOfs Gs) g) w h hg hr hlv hle hl6 (hc _ (List.getElem_mem hlv)) ⟨hC.1, hC.2.1⟩ hC.2.2 (fun W hW => ?_)
  rw [hco]
  refine come_any T BB TB PB base v vg Gs (tabOf (plsOf ls) (pOfs Gs)) g ps g W (h.below hW) hg hn (by have := hi _ (List.getElem_mem hg); omega) (fun x hx => hF.below g hgp x hx) (by omega) (fun hne => ?_)
  refine sub_mok hF (pls_cents hc) hi' hgp ?_
  rw [hga]
  show 0 < Gs[g].lvl
  omega
end Go.Proofs.YtelklmdlodgdpaaGreat

/-! W8 -/
namespace Go.Proofs.YtelklmdlodgdpaaGreat
open Go.RowKit Go.Sort Go.Shelf
set_option linter.unusedVariables false
set_option maxRecDepth 100000
/-- What the function fits reads. -/
structure FitAt (w : World) (SB CB VB MB X Y : Nat) (mn cents P come saved most : Int) : Prop where
  s : w.cell? ⟨SB, 0, none⟩ = some (.func (.func 96) #[] #[.pointer (some ⟨X, 0, none⟩), .pointer (some ⟨Y, 0, none⟩)])
  c : w.cell? ⟨CB, 0, none⟩ = some (.int .i64 come)
  v : w.cell? ⟨VB, 0, none⟩ = some (.int .i64 saved)
  m : w.cell? ⟨MB, 0, none⟩ = some (.int .i64 most)
  a : SavAt w X Y P mn cents
def fitV (SB CB VB MB : Nat) : Value := .func (.func 80) #[] #[.pointer (some ⟨SB, 0, none⟩), .pointer (some ⟨CB, 0, none⟩), .pointer (some ⟨VB, 0, none⟩), .pointer (some ⟨MB, 0, none⟩)]
set_option maxHeartbeats 2000000 in
theorem fit_any (q b : Int) (SB CB VB MB X Y : Nat) (mn cents P come saved most : Int) (w : World) (h : FitAt w SB CB VB MB X Y mn cents P come saved most)
    (hp : 0 ≤ P ∧ P ≤ 1000000) (hc : 0 ≤ come + q ∧ come + q ≤ 1000000) (hcc : 0 ≤ cents ∧ cents ≤ 1000000) (hs : -10000000000000000 ≤ saved ∧ saved ≤ 10000000000000000) (hb : -10000000000000000 ≤ b ∧ b ≤ 10000000000000000) :
    Calls Tryz.prog 80 #[.int .i64 q, .int .i64 b, .pointer (some ⟨SB, 0, none⟩), .pointer (some ⟨CB, 0, none⟩), .pointer (some ⟨VB, 0, none⟩), .pointer (some ⟨MB, 0, none⟩)] w fun e w' => e = .returned (.bool (fitR mn cents P most come saved q b)) ∧ w = w' := by
  obtain ⟨h1, h2, h3, h4, h5⟩ := h
  have hsv := saver1_any (come + q) P mn cents X Y w h5 hp hc hcc
  have hrg : -1 ≤ saverR mn cents P (come + q) ∧ saverR mn cents P (come + q) ≤ 1000000000000 := by
    unfold saverR
    split
    · omega
    · have k1 : 0 ≤ (come + q - P) * cents := Int.mul_nonneg (by omega) hcc.1
      have k2 : (come + q - P) * cents ≤ 1000000 * 1000000 := Int.mul_le_mul (by omega) hcc.2 hcc.1 (by omega)
      omega
  unfold fitR
  obtain ⟨own, hown⟩ : ∃ o, o = saverR mn cents P (come + q) := ⟨_, rfl⟩
  rw [← hown] at hsv hrg ⊢
  have HSV := Lib.hid hsv
  clear hown hsv h5
  go_enter Tryz.func80, Tryz.ntmps80
  by_cases ho : own = -1
  · have hq1 : (own != -1) = false := by simp [ho]
    go_wp2_with (go_at_call 96; refine HSV.out.mono ?_; rintro e w7 ⟨rfl, h7⟩; obtain rfl : w = w7 := h7)
    go_ret
    simp [ho]
  · have hq1 : (own != -1) = true := by simp [ho]
    go_wp2_with (go_at_call 96; refine HSV.out.mono ?_; rintro e w7 ⟨rfl, h7⟩; obtain rfl : w = w7 := h7)
    go_ret
    simp [ho]
    rfl
set_option maxHeartbeats 8000000 in
theorem few_any (xs ys : List Int) (va vb : Value) (SB CB VB MB X Y : Nat) (mn cents P come saved most : Int) (w : World) (h : FitAt w SB CB VB MB X Y mn cents P come saved most)
    (hx : RdInts w va xs) (hy : RdInts w vb ys) (h1 : 1 ≤ xs.length ∧ xs.length ≤ 5000) (h2 : 1 ≤ ys.length ∧ ys.length ≤ 5000) (bx : ∀ x ∈ xs, -1 ≤ x ∧ x ≤ 1000000000000) (by_ : ∀ y ∈ ys, -1 ≤ y ∧ y ≤ 1000000000000)
    (hp : 0 ≤ P ∧ P ≤ 1000000) (hc : 0 ≤ come ∧ come ≤ 900000) (hcc : 0 ≤ cents ∧ cents ≤ 1000000) (hs : -10000000000000000 ≤ saved ∧ saved ≤ 10000000000000000) :
    Calls Tryz.prog 81 #[va, vb, fitV SB CB VB MB] w fun e w' => e = .returned (.int .i64 (fewR xs ys (fitR mn cents P most come saved) : Nat)) ∧ w = w' := by
  obtain ⟨a, ca, rfl, hax⟩ := hx
  obtain ⟨b, cb, rfl, hby⟩ := hy
  obtain ⟨gx, ox, rfl, hgx, hcx⟩ := hax (by omega)
  obtain ⟨gy, oy, rfl, hgy, hcy⟩ := hby (by omega)
  have HX := Lib.hid hcx
  have HY := Lib.hid hcy
  have HBX := Lib.hid bx
  have HBY := Lib.hid by_
  have HFT : Hid (∀ q b : Int, 0 ≤ q ∧ q ≤ 10000 → -10000000000000000 ≤ b ∧ b ≤ 10000000000000000 → Calls Tryz.prog 80 #[.int .i64 q, .int .i64 b, .pointer (some ⟨SB, 0, none⟩), .pointer (some ⟨CB, 0, none⟩), .pointer (some ⟨VB, 0, none⟩), .pointer (some ⟨MB, 0, none⟩)] w fun e w' => e = .returned (.bool (fitR mn cents P most come saved q b)) ∧ w = w') :=
    fun q b hq hb => fit_any q b SB CB VB MB X Y mn cents P come saved most w h hp (by omega) hcc hs hb
  obtain ⟨F, hF⟩ : ∃ F, F = fitR mn cents P most come saved := ⟨_, rfl⟩
  rw [← hF] at HFT ⊢
  have HAT := Lib.hid (fun i (hi : i < xs.length) => few_at (a := xs) (rest := ys) (fits := F) hi)
  have HNO := Lib.hid (few_no (a := xs) (rest := ys) (fits := F))
  obtain ⟨N, hN⟩ : ∃ N, N = fewR xs ys F := ⟨_, rfl⟩
  rw [← hN] at HAT HNO ⊢
  clear hF hN hax hby hcx hcy bx by_ h hp hc hcc hs
  unfold fitV
  go_enter Tryz.func81, Tryz.ntmps81
  go_wp2_with fail
  go_loopw [13] (fun i wr => ∃ k : Nat, k ≤ xs.length ∧ i = .int .i64 k ∧ w = wr ∧ ∀ i', i' < k → hitR xs ys F i' = false) (fun i _ => xs.length - (intOf i).toNat)
  case atStart => exact ⟨0, Nat.zero_le _, rfl, rfl, fun i' h => absurd h (Nat.not_lt_zero _)⟩
  case round =>
    obtain ⟨k, hk, rfl, hW, hno⟩ := hrel
    subst hW
    have HB := Lib.hid hno
    clear hno
    by_cases hlt : k < xs.length
    · have c1 := HX.out k hlt
      have bxk := HBX.out _ (List.getElem_mem hlt)
      have hen := ent_get hlt
      obtain ⟨x, hx⟩ : ∃ x, x = xs[k] := ⟨_, rfl⟩
      rw [← hx] at c1 bxk hen
      have HEN := Lib.hid hen
      clear hx hen
      by_cases hx1 : x = -1
      · have hq : (x == -1) = true := by simp [hx1]
        go_wp2_with fail
        go_roundw
        case rel =>
          refine ⟨k + 1, by omega, by go_num, (by first | rfl | trivial), fun i' h' => ?_⟩
          by_cases e : i' = k
          · subst e; exact hit_skip (HEN.out.trans hx1)
          · exact HB.out i' (by omega)
        case measure => simp [intOf]; omega
      · have hq : (x == -1) = false := by simp [hx1]
        go_wp2_with fail
        go_loopw [22] (fun j wq => ∃ m : Nat, m ≤ ys.length ∧ j = .int .i64 m ∧ w = wq ∧ ∀ j', j' < m → ent ys j' ≠ -1 → F (k + j' : Nat) (x + ent ys j') = false) (fun j _ => ys.length - (intOf j).toNat)
        case atStart => exact ⟨0, Nat.zero_le _, rfl, rfl, fun i' h => absurd h (Nat.not_lt_zero _)⟩
        case round =>
          obtain ⟨m, hm, rfl, hW, hno⟩ := hrel
          subst hW
          have HM := Lib.hid hno
          clear hno
          by_cases hltm : m < ys.length
          · have c2 := HY.out m hltm
            have byk := HBY.out _ (List.getElem_mem hltm)
            have hen2 := ent_get hltm
            obtain ⟨y, hy⟩ : ∃ y, y = ys[m] := ⟨_, rfl⟩
            rw [← hy] at c2 byk hen2
            have HEN2 := Lib.hid hen2
            clear hy hen2
            by_cases hy1 : y = -1
            · have hq2 : (y != -1) = false := by simp [hy1]
              go_wp2_with fail
              go_roundw
              case rel =>
                refine ⟨m + 1, by omega, by go_num, (by first | rfl | trivial), fun j' h' hne => ?_⟩
                by_cases e : j' = m
                · subst e; exact absurd (HEN2.out.trans hy1) hne
                · exact HM.out j' (by omega) hne
              case measure => simp [intOf]; omega
            · have hq2 : (y != -1) = true := by simp [hy1]
              have hft := HFT.out ((k : Int) + (m : Int)) (x + y) (by omega) (by omega)
              obtain ⟨f, hf⟩ : ∃ f, f = F ((k : Int) + (m : Int)) (x + y) := ⟨_, rfl⟩
              rw [← hf] at hft
              have HFF := Lib.hid hft
              have HF := Lib.hid hf
              clear hf hft
              cases f
              · go_wp2_with (go_at_call 80; refine HFF.out.mono ?_; rintro e w7 ⟨rfl, h7⟩; obtain rfl : w = w7 := h7)
                go_roundw
                case rel =>
                  refine ⟨m + 1, by omega, by go_num, (by first | rfl | trivial), fun j' h' hne => ?_⟩
                  by_cases e : j' = m
                  · subst e; rw [HEN2.out, Int.natCast_add]; exact HF.out.symm
                  · exact HM.out j' (by omega) hne
                case measure => simp [intOf]; omega
              · go_wp2_with (go_at_call 80; refine HFF.out.mono ?_; rintro e w7 ⟨rfl, h7⟩; obtain rfl : w = w7 := h7)
                go_ret
                have := HAT.out k hlt HB.out (hit_yes (by rw [HEN.out]; exact hx1) hltm (by rw [HEN2.out]; exact hy1) (by rw [HEN.out, HEN2.out, Int.natCast_add]; exact HF.out.symm))
                rw [this]
                exact ⟨rfl, rfl⟩
          · go_wp2_with fail
            go_roundw
            case rel =>
              refine ⟨k + 1, by omega, by go_num, (by first | rfl | trivial), fun i' h' => ?_⟩
              by_cases e : i' = k
              · subst e; exact hit_no (fun j hj hne => by rw [HEN.out]; exact HM.out j (by omega) hne)
              · exact HB.out i' (by omega)
            case measure => simp [intOf]; omega
    · go_wp2_with fail
      go_ret
      rw [HNO.out (fun i' h' => HB.out i' (by omega)), Int.ofNat_sub h1.1]
      exact ⟨rfl, rfl⟩
end Go.Proofs.YtelklmdlodgdpaaGreat
