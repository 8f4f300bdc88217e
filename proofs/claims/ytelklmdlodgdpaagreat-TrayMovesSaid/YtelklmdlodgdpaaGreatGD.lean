import Derived.Test.YtelklmdlodgdpaaGreatGB
import Derived.Test.YtelklmdlodgdpaaGreatGC
/-! P0 -/
namespace Go.Proofs.YtelklmdlodgdpaaGreat
set_option linter.unusedVariables false
/-- A group as the plan needs it. -/
structure PGrp where
  lvl : Int
  up : Int
  items : List Int
def joinIn (i : Nat) (x : Int) (b : List Int) (k : Nat) (l : List Int) : List Int :=
  (List.range k).foldl (fun l j => if b.getD j (-1) = -1 then l else l.set (i + j) (max (l.getD (i + j) (-1)) (x + b.getD j (-1)))) l
def joinTo (a b : List Int) (k : Nat) : List Int :=
  (List.range k).foldl (fun l i => if a.getD i (-1) = -1 then l else joinIn i (a.getD i (-1)) b b.length l) (List.replicate (a.length + b.length - 1) (-1))
def joinR (a b : List Int) : List Int := joinTo a b a.length
def mergedTo (ts : List (List Int)) : Nat → List Int
  | 0 => [0]
  | k + 1 => joinR (ts.getD (ts.length - 1 - k) []) (mergedTo ts k)
def comeR (lvl : Int) (items : Nat) (ts : List (List Int)) : List Int :=
  if lvl = 0 then List.replicate items (-1) ++ [0] else if ts.length = 0 then [] else mergedTo ts ts.length
def saverR (mn cents passes come : Int) : Int := if come - passes < 0 ∨ (0 < come - passes ∧ come - passes < mn) then -1 else (come - passes) * cents
def cellTo (come : List Int) (mn cents : Int) (p k : Nat) : Int :=
  (List.range k).foldl (fun acc j => if saverR mn cents (p : Nat) (p + j : Nat) ≠ -1 ∧ come.getD (p + j) (-1) ≠ -1 then max acc (come.getD (p + j) (-1) + saverR mn cents (p : Nat) (p + j : Nat)) else acc) (-1)
def tableR (come : List Int) (last : Bool) (mn cents : Int) : List Int := (List.range (if last then 1 else come.length)).map (fun p => cellTo come mn cents p (come.length - p))
def belowR (gs : List PGrp) (g : Nat) : List Nat := (List.range gs.length).filter (fun h => decide ((gs.getD h ⟨0, 0, []⟩).up = (g : Int)))
def gsAt (gs : List PGrp) (g : Nat) : PGrp := gs.getD g ⟨0, 0, []⟩
def tabsTo (ls : List (Int × Int)) (gs : List PGrp) : Nat → List (List Int)
  | 0 => []
  | g + 1 => let ts := tabsTo ls gs g
    let l := ls.getD (gsAt gs g).lvl.toNat (0, 0)
    ts ++ [tableR (comeR (gsAt gs g).lvl (gsAt gs g).items.length ((belowR gs g).map (fun h => ts.getD h []))) (decide ((gsAt gs g).lvl = (ls.length : Int) - 1)) l.1 l.2]
/-- fewest -/
def fewR (a rest : List Int) (fits : Int → Int → Bool) : Nat :=
  ((List.range a.length).find? (fun i => decide (a.getD i (-1) ≠ -1) && (List.range rest.length).any (fun j => decide (rest.getD j (-1) ≠ -1) && fits (i + j : Nat) (a.getD i (-1) + rest.getD j (-1))))).getD (a.length - 1)
def divTo (mn cents : Int) (passes : Int) (most : Int) (ts : List (List Int)) : Nat → (Nat × Int × List Nat)
  | 0 => (0, 0, [])
  | k + 1 => let (come, saved, out) := divTo mn cents passes most ts k
    let t := ts.getD k []
    let p := fewR t (mergedTo ts (ts.length - 1 - k)) (fun q below => let own := saverR mn cents passes (come + q); decide (own ≠ -1) && decide (saved + below + own = most))
    (come + p, saved + t.getD p (-1), out ++ [p])
def passTo (ls : List (Int × Int)) (gs : List PGrp) (tabs : List (List Int)) : Nat → (Nat → Int)
  | 0 => fun _ => 0
  | k + 1 => let f := passTo ls gs tabs k
    let g := gs.length - 1 - k
    let l := ls.getD (gsAt gs g).lvl.toNat (0, 0)
    let subs := belowR gs g
    let ps := (divTo l.1 l.2 (f g) ((tabs.getD g []).getD (f g).toNat (-1)) (subs.map (fun h => tabs.getD h [])) subs.length).2.2
    fun h => match subs.idxOf? h with | some i => (ps.getD i 0 : Nat) | none => f h
def insI (x : Int) : List Int → List Int
  | [] => [x]
  | y :: r => if x ≤ y then x :: y :: r else y :: insI x r
def sortI (l : List Int) : List Int := l.foldr insI []
def planTo (gs : List PGrp) (f : Nat → Int) : Nat → List Int → (List Int × List (List Int))
  | 0, p => (p, [])
  | g + 1, p => let (q, passed) := planTo gs f g p
    let come := sortI ((if (gsAt gs g).lvl = 0 then (gsAt gs g).items else []) ++ (belowR gs g).flatMap (fun h => passed.getD h []))
    let takes := come.length - (f g).toNat
    ((come.take takes).foldl (fun q i => q.set i.toNat (gsAt gs g).lvl) q, passed ++ [come.drop takes])
def planR (ls : List (Int × Int)) (gs : List PGrp) (n : Nat) : List Int :=
  let tabs := tabsTo ls gs gs.length
  (planTo gs (passTo ls gs tabs gs.length) gs.length (List.replicate n 0)).1
theorem plan_ex1 : planR [(3, 5), (0, 0)] [⟨0, 2, [0, 1, 3]⟩, ⟨0, 2, [2, 4]⟩, ⟨1, -1, [0, 1, 2, 3, 4]⟩] 5 = [0, 0, 1, 0, 1] := by decide +kernel
theorem plan_ex2 : planR [(3, 5), (2, 3), (0, 0)] [⟨0, 2, [0, 1, 2, 3]⟩, ⟨0, 2, [4]⟩, ⟨1, 3, [0, 1, 2, 3, 4]⟩, ⟨2, -1, [0, 1, 2, 3, 4]⟩] 5 = [0, 0, 0, 1, 1] := by decide +kernel
theorem plan_ex3 : planR [(3, 5), (2, 3), (0, 0)] [⟨0, 2, [0, 1, 2]⟩, ⟨0, 2, [3]⟩, ⟨1, 3, [0, 1, 2, 3]⟩, ⟨2, -1, [0, 1, 2, 3]⟩] 4 = [0, 0, 0, 2] := by decide +kernel
end Go.Proofs.YtelklmdlodgdpaaGreat

/-! P1 -/
namespace Go.Proofs.YtelklmdlodgdpaaGreat
open Go.RowKit Go.Sort
set_option linter.unusedVariables false
/-- All numbers of a plan are numbers of levels. -/
def numsB (n : Nat) (zs : List Int) : Bool := zs.all (fun z => decide (0 ≤ z) && decide (z < (n : Int)))
def centsAt (ls : List Lev) (z : Int) : Int := (ls.getD z.toNat ⟨⟨#[]⟩, 0, [], 0, 0⟩).cents
def savesTo (ls : List Lev) (zs : List Int) (k : Nat) : Int := ((zs.take k).map (centsAt ls)).sum
theorem savesTo_succ (ls : List Lev) (zs : List Int) (k : Nat) (h : k < zs.length) : savesTo ls zs (k + 1) = savesTo ls zs k + centsAt ls zs[k] := by
  unfold savesTo; rw [List.take_succ_eq_append_getElem h, List.map_append, List.sum_append]; simp
open Classical in
noncomputable def savingR (ls : List Lev) (zs : List Int) : Int × Int :=
  if 2000 < zs.length then (0, 5) else if rightB ls = true ∧ numsB ls.length zs = true then (savesTo ls zs zs.length, 0) else (0, 2)
theorem nums_at {n : Nat} {zs : List Int} (h : numsB n zs = true) (k : Nat) (hk : k < zs.length) : 0 ≤ zs[k] ∧ zs[k] < (n : Int) := by
  unfold numsB at h
  have := List.all_eq_true.1 h _ (List.getElem_mem hk)
  simpa using this
theorem nums_false {n : Nat} {zs : List Int} {k : Nat} (hk : k < zs.length) (h : zs[k] < 0 ∨ (n : Int) ≤ zs[k]) : numsB n zs = false := by
  unfold numsB
  rw [List.all_eq_false]
  refine ⟨_, List.getElem_mem hk, ?_⟩
  simp
  omega
theorem nums_true {n : Nat} {zs : List Int} (h : ∀ k (hk : k < zs.length), 0 ≤ zs[k] ∧ zs[k] < (n : Int)) : numsB n zs = true := by
  unfold numsB
  rw [List.all_eq_true]
  intro z hz
  obtain ⟨k, hk, rfl⟩ := List.mem_iff_getElem.1 hz
  have := h k hk
  simp
  exact this
theorem cents_bound {ls : List Lev} (hr : rightB ls = true) {z : Int} (h0 : 0 ≤ z) (h1 : z < (ls.length : Int)) : 0 ≤ centsAt ls z ∧ centsAt ls z ≤ 1000000 := by
  have hi : z.toNat < ls.length := by omega
  have hl := (rightB_iff.1 hr).2.2.1.2.1 z.toNat hi hi
  obtain ⟨_, _, _, h2, h3⟩ := head_parts (levelB_iff.1 hl).1
  unfold centsAt
  rw [List.getD_eq_getElem?_getD, List.getElem?_eq_getElem hi]
  exact ⟨h2, h3⟩
theorem saves_bound {ls : List Lev} (hr : rightB ls = true) {zs : List Int} (h : numsB ls.length zs = true) : ∀ k, k ≤ zs.length → 0 ≤ savesTo ls zs k ∧ savesTo ls zs k ≤ k * 1000000
  | 0, _ => by simp [savesTo]
  | k + 1, hk => by
    obtain ⟨a, b⟩ := saves_bound hr h k (by omega)
    obtain ⟨c, d⟩ := nums_at h k hk
    obtain ⟨e, f⟩ := cents_bound hr c d
    rw [savesTo_succ ls zs k hk]
    omega
end Go.Proofs.YtelklmdlodgdpaaGreat

/-! P2 -/
namespace Go.Proofs.YtelklmdlodgdpaaGreat
set_option linter.unusedVariables false
/-- The entry of a table; -1: not possible. -/
def ent (l : List Int) (i : Nat) : Int := l.getD i (-1)
/-- A pair of entries of two tables, both possible. -/
def Pair (a b : List Int) (i j : Nat) : Prop := i < a.length ∧ j < b.length ∧ ent a i ≠ -1 ∧ ent b j ≠ -1
structure JoinInv (a b l : List Int) (S : Nat → Nat → Prop) : Prop where
  len : l.length = a.length + b.length - 1
  up : ∀ i j, S i j → Pair a b i j → ent a i + ent b j ≤ ent l (i + j)
  at_ : ∀ n, ent l n = -1 ∨ ∃ i j, S i j ∧ Pair a b i j ∧ i + j = n ∧ ent l n = ent a i + ent b j
theorem ent_set (l : List Int) (k : Nat) (x : Int) (n : Nat) : ent (l.set k x) n = if n = k ∧ k < l.length then x else ent l n := by
  unfold ent
  rw [List.getD_eq_getElem?_getD, List.getD_eq_getElem?_getD, List.getElem?_set]
  by_cases h : k = n
  · subst h
    by_cases hl : k < l.length
    · rw [if_pos rfl, if_pos hl, if_pos ⟨rfl, hl⟩]; rfl
    · rw [if_pos rfl, if_neg hl, if_neg (fun h => hl h.2), List.getElem?_eq_none (by omega)]
  · rw [if_neg h, if_neg (fun h' => h h'.1.symm)]
theorem ent_nonneg {a : List Int} (h : ∀ x ∈ a, -1 ≤ x) {i : Nat} (hi : ent a i ≠ -1) : 0 ≤ ent a i := by
  by_cases hl : i < a.length
  · have hm : ent a i ∈ a := by unfold ent; rw [List.getD_eq_getElem?_getD, List.getElem?_eq_getElem hl]; exact List.getElem_mem hl
    have := h _ hm
    omega
  · exfalso; apply hi; unfold ent; rw [List.getD_eq_getElem?_getD, List.getElem?_eq_none (by omega)]; rfl
theorem join_step {a b l : List Int} {S : Nat → Nat → Prop} (ha : ∀ x ∈ a, -1 ≤ x) (hb : ∀ x ∈ b, -1 ≤ x) (h : JoinInv a b l S) {i j : Nat} (hp : Pair a b i j) :
    JoinInv a b (l.set (i + j) (max (ent l (i + j)) (ent a i + ent b j))) (fun p q => S p q ∨ (p = i ∧ q = j)) := by
  obtain ⟨h1, h2, h3⟩ := h
  have hij : i + j < l.length := by have := hp.1; have := hp.2.1; omega
  refine ⟨by rw [List.length_set]; exact h1, fun p q hs hpq => ?_, fun n => ?_⟩
  · rw [ent_set]
    rcases hs with hs | ⟨rfl, rfl⟩
    · have := h2 p q hs hpq
      split
      · rename_i he; rw [he.1] at this; omega
      · exact this
    · rw [if_pos ⟨rfl, hij⟩]; omega
  · rw [ent_set]
    by_cases he : n = i + j
    · subst he
      rw [if_pos ⟨rfl, hij⟩]
      rcases h3 (i + j) with h4 | ⟨p, q, hs, hpq, he, hv⟩
      · right
        refine ⟨i, j, .inr ⟨rfl, rfl⟩, hp, rfl, ?_⟩
        have := ent_nonneg ha hp.2.2.1
        have := ent_nonneg hb hp.2.2.2
        rw [h4]; omega
      · right
        by_cases hm : ent a i + ent b j ≤ ent l (i + j)
        · exact ⟨p, q, .inl hs, hpq, he, by rw [← hv]; omega⟩
        · exact ⟨i, j, .inr ⟨rfl, rfl⟩, hp, rfl, by omega⟩
    · rw [if_neg (fun h => he h.1)]
      rcases h3 n with h4 | ⟨p, q, hs, hpq, he', hv⟩
      · exact .inl h4
      · exact .inr ⟨p, q, .inl hs, hpq, he', hv⟩
theorem join_skip {a b l : List Int} {S S' : Nat → Nat → Prop} (h : JoinInv a b l S) (h1 : ∀ i j, S i j → S' i j) (h2 : ∀ i j, S' i j → Pair a b i j → S i j) : JoinInv a b l S' :=
  ⟨h.len, fun i j hs hp => h.up i j (h2 i j hs hp) hp, fun n => by
    rcases h.at_ n with h4 | ⟨p, q, hs, hpq, he, hv⟩
    · exact .inl h4
    · exact .inr ⟨p, q, h1 p q hs, hpq, he, hv⟩⟩
theorem joinIn_succ (i : Nat) (x : Int) (b : List Int) (k : Nat) (l : List Int) : joinIn i x b (k + 1) l = (fun l => if ent b k = -1 then l else l.set (i + k) (max (ent l (i + k)) (x + ent b k))) (joinIn i x b k l) := by
  unfold joinIn; rw [List.range_succ, List.foldl_append]; rfl
theorem joinTo_succ (a b : List Int) (k : Nat) : joinTo a b (k + 1) = (if ent a k = -1 then joinTo a b k else joinIn k (ent a k) b b.length (joinTo a b k)) := by
  unfold joinTo; rw [List.range_succ, List.foldl_append]; rfl
theorem joinIn_inv {a b : List Int} (ha : ∀ x ∈ a, -1 ≤ x) (hb : ∀ x ∈ b, -1 ≤ x) {l : List Int} {i : Nat} (hi : i < a.length) (hx : ent a i ≠ -1) (h : JoinInv a b l (fun p q => p < i)) :
    ∀ k, k ≤ b.length → JoinInv a b (joinIn i (ent a i) b k l) (fun p q => p < i ∨ (p = i ∧ q < k))
  | 0, _ => join_skip h (fun p q h => .inl h) (fun p q h _ => by rcases h with h | h; exact h; omega)
  | k + 1, hk => by
    have ih := joinIn_inv ha hb hi hx h k (by omega)
    rw [joinIn_succ]
    dsimp only
    by_cases hbk : ent b k = -1
    · rw [if_pos hbk]
      refine join_skip ih (fun p q h => ?_) (fun p q h hp => ?_)
      · rcases h with h | ⟨h1, h2⟩
        · exact .inl h
        · exact .inr ⟨h1, by omega⟩
      · rcases h with h | ⟨h1, h2⟩
        · exact .inl h
        · refine .inr ⟨h1, ?_⟩
          by_cases e : q = k
          · subst e; exact absurd hbk hp.2.2.2
          · omega
    · rw [if_neg hbk]
      refine join_skip (join_step ha hb ih ⟨hi, by omega, hx, hbk⟩) (fun p q h => ?_) (fun p q h hp => ?_)
      · rcases h with (h | ⟨h1, h2⟩) | ⟨h1, h2⟩
        · exact .inl h
        · exact .inr ⟨h1, by omega⟩
        · exact .inr ⟨h1, by omega⟩
      · rcases h with h | ⟨h1, h2⟩
        · exact .inl (.inl h)
        · by_cases e : q = k
          · exact .inr ⟨h1, e⟩
          · exact .inl (.inr ⟨h1, by omega⟩)
theorem joinTo_inv {a b : List Int} (ha : ∀ x ∈ a, -1 ≤ x) (hb : ∀ x ∈ b, -1 ≤ x) : ∀ k, k ≤ a.length → JoinInv a b (joinTo a b k) (fun p q => p < k)
  | 0, _ => by
    refine ⟨by simp [joinTo], fun i j h => absurd h (Nat.not_lt_zero _), fun n => .inl ?_⟩
    unfold joinTo ent
    rw [List.getD_eq_getElem?_getD]
    simp only [List.range_zero, List.foldl_nil, List.getElem?_replicate]
    split <;> rfl
  | k + 1, hk => by
    have ih := joinTo_inv ha hb k (by omega)
    rw [joinTo_succ]
    by_cases hak : ent a k = -1
    · rw [if_pos hak]
      refine join_skip ih (fun p q h => by omega) (fun p q h hp => ?_)
      by_cases e : p = k
      · subst e; exact absurd hak hp.2.2.1
      · omega
    · rw [if_neg hak]
      refine join_skip (joinIn_inv ha hb (by omega) hak ih b.length (Nat.le_refl _)) (fun p q h => by omega) (fun p q h hp => ?_)
      by_cases e : p = k
      · exact .inr ⟨e, hp.2.1⟩
      · exact .inl (by omega)
/-- The table of two tables: its length, its entries. -/
theorem joinR_len {a b : List Int} (ha : ∀ x ∈ a, -1 ≤ x) (hb : ∀ x ∈ b, -1 ≤ x) : (joinR a b).length = a.length + b.length - 1 := (joinTo_inv ha hb a.length (Nat.le_refl _)).len
theorem joinR_up {a b : List Int} (ha : ∀ x ∈ a, -1 ≤ x) (hb : ∀ x ∈ b, -1 ≤ x) {i j : Nat} (hp : Pair a b i j) : ent a i + ent b j ≤ ent (joinR a b) (i + j) := (joinTo_inv ha hb a.length (Nat.le_refl _)).up i j hp.1 hp
theorem joinR_at {a b : List Int} (ha : ∀ x ∈ a, -1 ≤ x) (hb : ∀ x ∈ b, -1 ≤ x) (n : Nat) : ent (joinR a b) n = -1 ∨ ∃ i j, Pair a b i j ∧ i + j = n ∧ ent (joinR a b) n = ent a i + ent b j := by
  rcases (joinTo_inv ha hb a.length (Nat.le_refl _)).at_ n with h | ⟨i, j, _, hp, he, hv⟩
  · exact .inl h
  · exact .inr ⟨i, j, hp, he, hv⟩
theorem joinR_ok {a b : List Int} (ha : ∀ x ∈ a, -1 ≤ x) (hb : ∀ x ∈ b, -1 ≤ x) : ∀ x ∈ joinR a b, -1 ≤ x := fun x hx => by
  obtain ⟨n, hn, rfl⟩ := List.mem_iff_getElem.1 hx
  have e : ent (joinR a b) n = (joinR a b)[n] := by unfold ent; rw [List.getD_eq_getElem?_getD, List.getElem?_eq_getElem hn]; rfl
  rw [← e]
  rcases joinR_at ha hb n with h | ⟨i, j, hp, _, hv⟩
  · omega
  · have := ent_nonneg ha hp.2.2.1
    have := ent_nonneg hb hp.2.2.2
    omega
end Go.Proofs.YtelklmdlodgdpaaGreat

/-! P3 -/
namespace Go.Proofs.YtelklmdlodgdpaaGreat
set_option linter.unusedVariables false
def tabAt (ts : List (List Int)) (i : Nat) : List Int := ts.getD i []
/-- Numbers of the last k tables together, and what they save together. -/
def sQ (N : Nat) (q : Nat → Nat) : Nat → Nat
  | 0 => 0
  | k + 1 => sQ N q k + q (N - 1 - k)
def sE (ts : List (List Int)) (q : Nat → Nat) : Nat → Int
  | 0 => 0
  | k + 1 => sE ts q k + ent (tabAt ts (ts.length - 1 - k)) (q (ts.length - 1 - k))
def Poss (ts : List (List Int)) (q : Nat → Nat) (k : Nat) : Prop := ∀ j, j < k → q (ts.length - 1 - j) < (tabAt ts (ts.length - 1 - j)).length ∧ ent (tabAt ts (ts.length - 1 - j)) (q (ts.length - 1 - j)) ≠ -1
/-- All entries are possible ones, or -1; no table is empty. -/
def TabsOk (ts : List (List Int)) : Prop := ∀ t ∈ ts, (∀ x ∈ t, -1 ≤ x) ∧ 0 < t.length
theorem tab_ok {ts : List (List Int)} (h : TabsOk ts) {i : Nat} (hi : i < ts.length) : (∀ x ∈ tabAt ts i, -1 ≤ x) ∧ 0 < (tabAt ts i).length := by
  have : tabAt ts i ∈ ts := by unfold tabAt; rw [List.getD_eq_getElem?_getD, List.getElem?_eq_getElem hi]; exact List.getElem_mem hi
  exact h _ this
theorem merged_ok {ts : List (List Int)} (h : TabsOk ts) : ∀ k, k ≤ ts.length → (∀ x ∈ mergedTo ts k, -1 ≤ x) ∧ 0 < (mergedTo ts k).length
  | 0, _ => ⟨by simp [mergedTo], by simp [mergedTo]⟩
  | k + 1, hk => by
    obtain ⟨a, b⟩ := merged_ok h k (by omega)
    obtain ⟨c, d⟩ := tab_ok h (i := ts.length - 1 - k) (by omega)
    have e : mergedTo ts (k + 1) = joinR (tabAt ts (ts.length - 1 - k)) (mergedTo ts k) := rfl
    rw [e]
    exact ⟨joinR_ok c a, by rw [joinR_len c a]; omega⟩
theorem ent_lt {l : List Int} {i : Nat} (h : ent l i ≠ -1) : i < l.length := by
  by_cases hl : i < l.length
  · exact hl
  · exfalso; apply h; unfold ent; rw [List.getD_eq_getElem?_getD, List.getElem?_eq_none (by omega)]; rfl
theorem merged_up {ts : List (List Int)} (h : TabsOk ts) (q : Nat → Nat) : ∀ k, k ≤ ts.length → Poss ts q k → 0 ≤ sE ts q k ∧ sE ts q k ≤ ent (mergedTo ts k) (sQ ts.length q k)
  | 0, _, _ => ⟨Int.le_refl _, (by decide : (0 : Int) ≤ ent [0] 0)⟩
  | k + 1, hk, hp => by
    obtain ⟨a, b⟩ := merged_up h q k (by omega) (fun j hj => hp j (by omega))
    obtain ⟨m1, m2⟩ := merged_ok h k (by omega)
    obtain ⟨c, d⟩ := tab_ok h (i := ts.length - 1 - k) (by omega)
    obtain ⟨p1, p2⟩ := hp k (by omega)
    have e0 := ent_nonneg c p2
    have hne : ent (mergedTo ts k) (sQ ts.length q k) ≠ -1 := by omega
    have := joinR_up c m1 (i := q (ts.length - 1 - k)) (j := sQ ts.length q k) ⟨p1, ent_lt hne, p2, hne⟩
    have e : mergedTo ts (k + 1) = joinR (tabAt ts (ts.length - 1 - k)) (mergedTo ts k) := rfl
    rw [e]
    unfold sE sQ
    rw [Nat.add_comm (sQ ts.length q k)]
    omega
theorem merged_at {ts : List (List Int)} (h : TabsOk ts) : ∀ k, k ≤ ts.length → ∀ n, ent (mergedTo ts k) n ≠ -1 → ∃ q, Poss ts q k ∧ sQ ts.length q k = n ∧ sE ts q k = ent (mergedTo ts k) n
  | 0, _, n, hn => by
    have : n = 0 := by
      have := ent_lt hn
      simpa [mergedTo] using this
    subst this
    exact ⟨fun _ => 0, fun j hj => absurd hj (Nat.not_lt_zero _), rfl, rfl⟩
  | k + 1, hk, n, hn => by
    obtain ⟨m1, m2⟩ := merged_ok h k (by omega)
    obtain ⟨c, d⟩ := tab_ok h (i := ts.length - 1 - k) (by omega)
    have e : mergedTo ts (k + 1) = joinR (tabAt ts (ts.length - 1 - k)) (mergedTo ts k) := rfl
    rw [e] at hn ⊢
    rcases joinR_at c m1 n with h0 | ⟨i, j, hp, hij, hv⟩
    · exact absurd h0 hn
    · obtain ⟨q, hq, hs, hE⟩ := merged_at h k (by omega) j hp.2.2.2
      have hother : ∀ j', j' < k → (if ts.length - 1 - j' = ts.length - 1 - k then i else q (ts.length - 1 - j')) = q (ts.length - 1 - j') := fun j' hj' => if_neg (by omega)
      have hsQ : ∀ m, m ≤ k → sQ ts.length (fun x => if x = ts.length - 1 - k then i else q x) m = sQ ts.length q m := by
        intro m
        induction m with
        | zero => intro _; rfl
        | succ m ih => intro hm; unfold sQ; rw [ih (by omega), hother m (by omega)]
      have hsE : ∀ m, m ≤ k → sE ts (fun x => if x = ts.length - 1 - k then i else q x) m = sE ts q m := by
        intro m
        induction m with
        | zero => intro _; rfl
        | succ m ih => intro hm; unfold sE; rw [ih (by omega), hother m (by omega)]
      refine ⟨fun x => if x = ts.length - 1 - k then i else q x, fun j' hj' => ?_, ?_, ?_⟩
      · by_cases hjk : j' = k
        · subst hjk
          simp only [if_true]
          exact ⟨hp.1, hp.2.2.1⟩
        · simp only [hother j' (by omega)]
          exact hq j' (by omega)
      · unfold sQ
        rw [hsQ k (Nat.le_refl _), hs]
        simp only [if_true]
        omega
      · unfold sE
        rw [hsE k (Nat.le_refl _), hE]
        simp only [if_true]
        omega
/-- A cell of a group's own table: the greatest of what may come. -/
theorem cellTo_succ (come : List Int) (mn cents : Int) (p k : Nat) : cellTo come mn cents p (k + 1) = (fun acc => if saverR mn cents (p : Nat) (p + k : Nat) ≠ -1 ∧ ent come (p + k) ≠ -1 then max acc (ent come (p + k) + saverR mn cents (p : Nat) (p + k : Nat)) else acc) (cellTo come mn cents p k) := by
  unfold cellTo; rw [List.range_succ, List.foldl_append]; rfl
theorem cell_up (come : List Int) (mn cents : Int) (p : Nat) : ∀ k j, j < k → saverR mn cents (p : Nat) (p + j : Nat) ≠ -1 → ent come (p + j) ≠ -1 → ent come (p + j) + saverR mn cents (p : Nat) (p + j : Nat) ≤ cellTo come mn cents p k
  | 0, j, h, _, _ => absurd h (Nat.not_lt_zero _)
  | k + 1, j, h, h1, h2 => by
    rw [cellTo_succ]
    dsimp only
    by_cases e : j = k
    · subst e
      rw [if_pos ⟨h1, h2⟩]; omega
    · have := cell_up come mn cents p k j (by omega) h1 h2
      split <;> omega
theorem cell_at (come : List Int) (mn cents : Int) (p : Nat) (hc : ∀ x ∈ come, -1 ≤ x) (h0 : 0 ≤ cents) : ∀ k, cellTo come mn cents p k = -1 ∨ ∃ j, j < k ∧ saverR mn cents (p : Nat) (p + j : Nat) ≠ -1 ∧ ent come (p + j) ≠ -1 ∧ cellTo come mn cents p k = ent come (p + j) + saverR mn cents (p : Nat) (p + j : Nat)
  | 0 => .inl (by simp [cellTo])
  | k + 1 => by
    rw [cellTo_succ]
    dsimp only
    by_cases e : saverR mn cents (p : Nat) (p + k : Nat) ≠ -1 ∧ ent come (p + k) ≠ -1
    · rw [if_pos e]
      rcases cell_at come mn cents p hc h0 k with h | ⟨j, hj, h1, h2, h3⟩
      · right
        refine ⟨k, by omega, e.1, e.2, ?_⟩
        have := ent_nonneg hc e.2
        have hs : 0 ≤ saverR mn cents (p : Nat) (p + k : Nat) := by
          have h := e.1
          unfold saverR at h ⊢
          split at h
          · exact absurd rfl h
          · rename_i hn
            rw [if_neg hn]
            exact Int.mul_nonneg (by omega) h0
        rw [h]; omega
      · by_cases hm : ent come (p + k) + saverR mn cents (p : Nat) (p + k : Nat) ≤ cellTo come mn cents p k
        · exact .inr ⟨j, by omega, h1, h2, by omega⟩
        · exact .inr ⟨k, by omega, e.1, e.2, by omega⟩
    · rw [if_neg e]
      rcases cell_at come mn cents p hc h0 k with h | ⟨j, hj, h1, h2, h3⟩
      · exact .inl h
      · exact .inr ⟨j, by omega, h1, h2, h3⟩
end Go.Proofs.YtelklmdlodgdpaaGreat

/-! P4 -/
namespace Go.Proofs.YtelklmdlodgdpaaGreat
set_option linter.unusedVariables false
theorem ent_table (come : List Int) (last : Bool) (mn cents : Int) {q : Nat} (h : q < (if last then 1 else come.length)) : ent (tableR come last mn cents) q = cellTo come mn cents q (come.length - q) := by
  unfold tableR ent
  rw [List.getD_eq_getElem?_getD, List.getElem?_map, List.getElem?_range h]
  rfl
theorem table_len (come : List Int) (last : Bool) (mn cents : Int) : (tableR come last mn cents).length = if last then 1 else come.length := by simp [tableR]
theorem saver_nonneg {mn cents p c : Int} (h0 : 0 ≤ cents) (h : saverR mn cents p c ≠ -1) : 0 ≤ saverR mn cents p c := by
  unfold saverR at h ⊢
  split at h
  · exact absurd rfl h
  · rename_i hn
    rw [if_neg hn]
    exact Int.mul_nonneg (by omega) h0
theorem cell_ok (come : List Int) (mn cents : Int) (p : Nat) (hc : ∀ x ∈ come, -1 ≤ x) (h0 : 0 ≤ cents) (k : Nat) : -1 ≤ cellTo come mn cents p k := by
  rcases cell_at come mn cents p hc h0 k with h | ⟨j, hj, h1, h2, h3⟩
  · omega
  · have := ent_nonneg hc h2
    have := saver_nonneg h0 h1
    omega
theorem table_ok (come : List Int) (last : Bool) (mn cents : Int) (hc : ∀ x ∈ come, -1 ≤ x) (hl : 0 < come.length) (h0 : 0 ≤ cents) : (∀ x ∈ tableR come last mn cents, -1 ≤ x) ∧ 0 < (tableR come last mn cents).length := by
  refine ⟨fun x hx => ?_, by rw [table_len]; split <;> omega⟩
  unfold tableR at hx
  obtain ⟨p, _, rfl⟩ := List.mem_map.1 hx
  exact cell_ok come mn cents p hc h0 _
/-- What some groups save together. -/
def sS (s : Nat → Int) (N : Nat) : Nat → Int
  | 0 => 0
  | k + 1 => sS s N k + s (N - 1 - k)
theorem sS_le {ts : List (List Int)} {q : Nat → Nat} {s : Nat → Int} : ∀ k, k ≤ ts.length → (∀ i, i < ts.length → s i ≤ ent (tabAt ts i) (q i)) → sS s ts.length k ≤ sE ts q k
  | 0, _, _ => Int.le_refl _
  | k + 1, hk, h => by
    have := sS_le k (by omega) h
    have := h (ts.length - 1 - k) (by omega)
    unfold sS sE
    omega
/-- The bound: t pieces are taken, the others passed on. -/
theorem tab_bound (come : List Int) (last : Bool) (mn cents : Int) (h0 : 0 ≤ cents) (hc : ∀ x ∈ come, -1 ≤ x) {Q t : Nat} {s : Int} (hs : s ≤ ent come Q) (hs0 : 0 ≤ s) (ht : t ≤ Q) (hv : t = 0 ∨ mn ≤ (t : Int)) (hlast : last = true → Q - t = 0) :
    s + (t : Int) * cents ≤ ent (tableR come last mn cents) (Q - t) := by
  have hne : ent come Q ≠ -1 := by omega
  have hQ := ent_lt hne
  have hq : Q - t < (if last then 1 else come.length) := by
    cases last
    · simp; omega
    · have := hlast rfl; simp; omega
  rw [ent_table come last mn cents hq]
  have hsv : saverR mn cents ((Q - t : Nat) : Int) ((Q - t + t : Nat) : Int) = (t : Int) * cents := by
    unfold saverR
    have e : ((Q - t + t : Nat) : Int) - ((Q - t : Nat) : Int) = (t : Int) := by omega
    rw [e, if_neg (by omega)]
  have hsn : saverR mn cents ((Q - t : Nat) : Int) ((Q - t + t : Nat) : Int) ≠ -1 := by
    rw [hsv]
    have : 0 ≤ (t : Int) * cents := Int.mul_nonneg (by omega) h0
    omega
  have e : Q - t + t = Q := by omega
  have := cell_up come mn cents (Q - t) (come.length - (Q - t)) t (by omega) hsn (by rw [e]; exact hne)
  rw [hsv, e] at this
  omega
end Go.Proofs.YtelklmdlodgdpaaGreat

/-! P5 -/
namespace Go.Proofs.YtelklmdlodgdpaaGreat
set_option linter.unusedVariables false
/-- fewest finds an index that fits, if there is one; no smaller one fits. -/
theorem few_spec (a rest : List Int) (fits : Int → Int → Bool) (h : ∃ i j, ent a i ≠ -1 ∧ ent rest j ≠ -1 ∧ fits ((i + j : Nat) : Int) (ent a i + ent rest j) = true) :
    (∃ j, ent a (fewR a rest fits) ≠ -1 ∧ ent rest j ≠ -1 ∧ fits ((fewR a rest fits + j : Nat) : Int) (ent a (fewR a rest fits) + ent rest j) = true) ∧
    ∀ i j, i < fewR a rest fits → ent a i ≠ -1 → ent rest j ≠ -1 → fits ((i + j : Nat) : Int) (ent a i + ent rest j) = false := by
  obtain ⟨i, j, h1, h2, h3⟩ := h
  have hi := ent_lt h1
  have hj := ent_lt h2
  unfold fewR
  have hs : ∃ x, (List.range a.length).find? (fun i => decide (a.getD i (-1) ≠ -1) && (List.range rest.length).any (fun j => decide (rest.getD j (-1) ≠ -1) && fits (i + j : Nat) (a.getD i (-1) + rest.getD j (-1)))) = some x := by
    rw [← Option.isSome_iff_exists, List.find?_isSome]
    refine ⟨i, List.mem_range.2 hi, ?_⟩
    rw [Bool.and_eq_true, decide_eq_true_eq, List.any_eq_true]
    exact ⟨h1, j, List.mem_range.2 hj, by rw [Bool.and_eq_true, decide_eq_true_eq]; exact ⟨h2, h3⟩⟩
  obtain ⟨x, hx⟩ := hs
  rw [hx]
  show (∃ j, ent a x ≠ -1 ∧ ent rest j ≠ -1 ∧ fits ((x + j : Nat) : Int) (ent a x + ent rest j) = true) ∧ _
  constructor
  · have := List.find?_some hx
    rw [Bool.and_eq_true, decide_eq_true_eq, List.any_eq_true] at this
    obtain ⟨k1, j', _, hj'⟩ := this
    rw [Bool.and_eq_true, decide_eq_true_eq] at hj'
    exact ⟨j', k1, hj'.1, hj'.2⟩
  · intro i' j' hlt g1 g2
    have hlt' : i' < x := hlt
    rw [List.find?_eq_some_iff_getElem] at hx
    obtain ⟨_, n, hn, he, hbefore⟩ := hx
    rw [List.getElem_range] at he
    subst he
    have hb := hbefore i' hlt'
    rw [List.getElem_range] at hb
    cases hf : fits ((i' + j' : Nat) : Int) (ent a i' + ent rest j')
    · rfl
    · exfalso
      have : (decide (a.getD i' (-1) ≠ -1) && (List.range rest.length).any (fun j => decide (rest.getD j (-1) ≠ -1) && fits (i' + j : Nat) (a.getD i' (-1) + rest.getD j (-1)))) = true := by
        rw [Bool.and_eq_true, decide_eq_true_eq, List.any_eq_true]
        exact ⟨g1, j', List.mem_range.2 (ent_lt g2), by rw [Bool.and_eq_true, decide_eq_true_eq]; exact ⟨g2, hf⟩⟩
      rw [this] at hb
      cases hb
/-- How far the division has come. -/
structure DivInv (mn cents P most : Int) (ts : List (List Int)) (k : Nat) (come : Nat) (saved : Int) (out : List Nat) : Prop where
  len : out.length = k
  sum : come = out.sum
  ok : ∀ i, i < k → ent (tabAt ts i) (out.getD i 0) ≠ -1
  sv : saved = ((List.range k).map (fun i => ent (tabAt ts i) (out.getD i 0))).sum
  rest : ∃ r, ent (mergedTo ts (ts.length - k)) r ≠ -1 ∧ saverR mn cents P ((come + r : Nat) : Int) ≠ -1 ∧ saved + ent (mergedTo ts (ts.length - k)) r + saverR mn cents P ((come + r : Nat) : Int) = most
theorem getD_snoc_lt {l : List Nat} {x i : Nat} (h : i < l.length) : (l ++ [x]).getD i 0 = l.getD i 0 := by
  simp only [List.getD_eq_getElem?_getD, List.getElem?_append_left h]
theorem getD_snoc_at {l : List Nat} {x k : Nat} (h : l.length = k) : (l ++ [x]).getD k 0 = x := by
  simp [List.getD_eq_getElem?_getD, ← h]
theorem div_inv {mn cents P most : Int} {ts : List (List Int)} (hts : TabsOk ts)
    (h0 : ∃ r, ent (mergedTo ts ts.length) r ≠ -1 ∧ saverR mn cents P (r : Nat) ≠ -1 ∧ ent (mergedTo ts ts.length) r + saverR mn cents P (r : Nat) = most) :
    ∀ k, k ≤ ts.length → DivInv mn cents P most ts k (divTo mn cents P most ts k).1 (divTo mn cents P most ts k).2.1 (divTo mn cents P most ts k).2.2
  | 0, _ => by
    obtain ⟨r, h1, h2, h3⟩ := h0
    refine ⟨rfl, rfl, fun i h => absurd h (Nat.not_lt_zero _), rfl, r, h1, ?_, ?_⟩
    · show saverR mn cents P ((0 + r : Nat) : Int) ≠ -1
      rw [Nat.zero_add]; exact h2
    · show 0 + ent (mergedTo ts ts.length) r + saverR mn cents P ((0 + r : Nat) : Int) = most
      rw [Nat.zero_add]; omega
  | k + 1, hk => by
    have ih := div_inv hts h0 k (by omega)
    generalize hd : divTo mn cents P most ts k = d at ih
    obtain ⟨come, saved, out⟩ := d
    obtain ⟨i1, i2, i3, i4, r, r1, r2, r3⟩ := ih
    dsimp only at i1 i2 i3 i4 r1 r2 r3
    obtain ⟨c, dd⟩ := tab_ok hts (i := k) (by omega)
    obtain ⟨m1, m2⟩ := merged_ok hts (ts.length - 1 - k) (by omega)
    have e1 : ts.length - k = (ts.length - 1 - k) + 1 := by omega
    have e2 : mergedTo ts (ts.length - k) = joinR (tabAt ts k) (mergedTo ts (ts.length - 1 - k)) := by
      rw [e1]
      show joinR (ts.getD (ts.length - 1 - (ts.length - 1 - k)) []) _ = _
      rw [show ts.length - 1 - (ts.length - 1 - k) = k by omega]; rfl
    rw [e2] at r1 r3
    have hex : ∃ i j, ent (tabAt ts k) i ≠ -1 ∧ ent (mergedTo ts (ts.length - 1 - k)) j ≠ -1 ∧
        (fun (q below : Int) => decide (saverR mn cents P (come + q) ≠ -1) && decide (saved + below + saverR mn cents P (come + q) = most)) ((i + j : Nat) : Int) (ent (tabAt ts k) i + ent (mergedTo ts (ts.length - 1 - k)) j) = true := by
      rcases joinR_at c m1 r with h | ⟨i, j, hp, hij, hv⟩
      · exact absurd h r1
      · refine ⟨i, j, hp.2.2.1, hp.2.2.2, ?_⟩
        have e3 : ((come : Int) + ((i + j : Nat) : Int)) = ((come + r : Nat) : Int) := by omega
        dsimp only
        rw [e3, Bool.and_eq_true, decide_eq_true_eq, decide_eq_true_eq]
        exact ⟨r2, by rw [← hv]; exact r3⟩
    obtain ⟨⟨j, f1, f2, f3⟩, _⟩ := few_spec (tabAt ts k) (mergedTo ts (ts.length - 1 - k)) (fun (q below : Int) => decide (saverR mn cents P (come + q) ≠ -1) && decide (saved + below + saverR mn cents P (come + q) = most)) hex
    have hstep : divTo mn cents P most ts (k + 1) = (come + fewR (tabAt ts k) (mergedTo ts (ts.length - 1 - k)) (fun q below => decide (saverR mn cents P (come + q) ≠ -1) && decide (saved + below + saverR mn cents P (come + q) = most)),
        saved + ent (tabAt ts k) (fewR (tabAt ts k) (mergedTo ts (ts.length - 1 - k)) (fun q below => decide (saverR mn cents P (come + q) ≠ -1) && decide (saved + below + saverR mn cents P (come + q) = most))),
        out ++ [fewR (tabAt ts k) (mergedTo ts (ts.length - 1 - k)) (fun q below => decide (saverR mn cents P (come + q) ≠ -1) && decide (saved + below + saverR mn cents P (come + q) = most))]) := by
      rw [divTo, hd]; rfl
    rw [hstep]
    generalize fewR (tabAt ts k) (mergedTo ts (ts.length - 1 - k)) (fun q below => decide (saverR mn cents P (come + q) ≠ -1) && decide (saved + below + saverR mn cents P (come + q) = most)) = p at f1 f3
    rw [Bool.and_eq_true, decide_eq_true_eq, decide_eq_true_eq] at f3
    have e4 : ((come : Int) + ((p + j : Nat) : Int)) = ((come + p + j : Nat) : Int) := by omega
    rw [e4] at f3
    refine ⟨by rw [List.length_append, i1]; rfl, by dsimp only; rw [List.sum_append, i2]; simp, fun i hi => ?_, ?_, j, ?_, ?_, ?_⟩
    · by_cases e : i = k
      · subst e; rw [getD_snoc_at i1]; exact f1
      · rw [getD_snoc_lt (by omega)]; exact i3 i (by omega)
    · dsimp only
      rw [List.range_succ, List.map_append, List.sum_append, i4]
      congr 1
      · congr 1
        refine List.map_congr_left (fun i hi => ?_)
        rw [getD_snoc_lt (by have := List.mem_range.1 hi; omega)]
      · rw [List.map_cons, List.map_nil, getD_snoc_at i1]; simp
    · rw [show ts.length - (k + 1) = ts.length - 1 - k by omega]; exact f2
    · exact f3.1
    · rw [show ts.length - (k + 1) = ts.length - 1 - k by omega]
      dsimp only
      have := f3.2
      omega
end Go.Proofs.YtelklmdlodgdpaaGreat

/-! P6 -/
namespace Go.Proofs.YtelklmdlodgdpaaGreat
set_option linter.unusedVariables false
/-- What is known of the groups of a mailing. -/
structure Forest (ls : List (Int × Int)) (gs : List PGrp) : Prop where
  lvl : ∀ g, g < gs.length → 0 ≤ (gsAt gs g).lvl ∧ (gsAt gs g).lvl < (ls.length : Int)
  below : ∀ g, g < gs.length → ∀ h ∈ belowR gs g, h < g
  parts : ∀ g, g < gs.length → 0 < (gsAt gs g).lvl → ((belowR gs g).flatMap (fun h => (gsAt gs h).items)).Perm (gsAt gs g).items ∧ belowR gs g ≠ []
  sub : ∀ g, g < gs.length → ∀ h ∈ belowR gs g, (gsAt gs h).lvl + 1 = (gsAt gs g).lvl
  some_ : ∀ g, g < gs.length → (gsAt gs g).items ≠ []
  cents : ∀ l ∈ ls, 0 ≤ l.2
def lvOf (ls : List (Int × Int)) (gs : List PGrp) (g : Nat) : Int × Int := ls.getD (gsAt gs g).lvl.toNat (0, 0)
theorem tabs_len (ls : List (Int × Int)) (gs : List PGrp) : ∀ k, (tabsTo ls gs k).length = k
  | 0 => rfl
  | k + 1 => by
    have : tabsTo ls gs (k + 1) = tabsTo ls gs k ++ [tableR (comeR (gsAt gs k).lvl (gsAt gs k).items.length ((belowR gs k).map (fun h => (tabsTo ls gs k).getD h []))) (decide ((gsAt gs k).lvl = (ls.length : Int) - 1)) (lvOf ls gs k).1 (lvOf ls gs k).2] := rfl
    rw [this, List.length_append, tabs_len ls gs k]; rfl
theorem tabs_get (ls : List (Int × Int)) (gs : List PGrp) : ∀ k g, g < k → tabAt (tabsTo ls gs k) g = tableR (comeR (gsAt gs g).lvl (gsAt gs g).items.length ((belowR gs g).map (fun h => (tabsTo ls gs g).getD h []))) (decide ((gsAt gs g).lvl = (ls.length : Int) - 1)) (lvOf ls gs g).1 (lvOf ls gs g).2
  | 0, g, h => absurd h (Nat.not_lt_zero _)
  | k + 1, g, h => by
    have e : tabsTo ls gs (k + 1) = tabsTo ls gs k ++ [tableR (comeR (gsAt gs k).lvl (gsAt gs k).items.length ((belowR gs k).map (fun h => (tabsTo ls gs k).getD h []))) (decide ((gsAt gs k).lvl = (ls.length : Int) - 1)) (lvOf ls gs k).1 (lvOf ls gs k).2] := rfl
    have hl := tabs_len ls gs k
    by_cases hg : g = k
    · subst hg
      rw [e]
      unfold tabAt
      rw [List.getD_eq_getElem?_getD, List.getElem?_append_right (by omega), hl, Nat.sub_self]
      rfl
    · have := tabs_get ls gs k g (by omega)
      rw [← this, e]
      unfold tabAt
      rw [List.getD_eq_getElem?_getD, List.getD_eq_getElem?_getD, List.getElem?_append_left (by omega)]
theorem tabs_same (ls : List (Int × Int)) (gs : List PGrp) {g k m : Nat} (h1 : g < k) (h2 : g < m) : tabAt (tabsTo ls gs k) g = tabAt (tabsTo ls gs m) g := by rw [tabs_get ls gs k g h1, tabs_get ls gs m g h2]
/-- The table of a group. -/
def tabOf (ls : List (Int × Int)) (gs : List PGrp) (g : Nat) : List Int := tabAt (tabsTo ls gs gs.length) g
def subTabs (ls : List (Int × Int)) (gs : List PGrp) (g : Nat) : List (List Int) := (belowR gs g).map (tabOf ls gs)
def comeOf (ls : List (Int × Int)) (gs : List PGrp) (g : Nat) : List Int := comeR (gsAt gs g).lvl (gsAt gs g).items.length (subTabs ls gs g)
theorem tabOf_eq {ls : List (Int × Int)} {gs : List PGrp} (hF : Forest ls gs) {g : Nat} (hg : g < gs.length) : tabOf ls gs g = tableR (comeOf ls gs g) (decide ((gsAt gs g).lvl = (ls.length : Int) - 1)) (lvOf ls gs g).1 (lvOf ls gs g).2 := by
  unfold tabOf comeOf subTabs
  rw [tabs_get ls gs _ g hg]
  congr 2
  refine List.map_congr_left (fun h hh => ?_)
  have hlt := hF.below g hg h hh
  exact tabs_same ls gs hlt (by omega)
theorem lvOf_cents {ls : List (Int × Int)} {gs : List PGrp} (hF : Forest ls gs) {g : Nat} (hg : g < gs.length) : 0 ≤ (lvOf ls gs g).2 := by
  obtain ⟨a, b⟩ := hF.lvl g hg
  have hi : (gsAt gs g).lvl.toNat < ls.length := by omega
  unfold lvOf
  rw [List.getD_eq_getElem?_getD, List.getElem?_eq_getElem hi]
  exact hF.cents _ (List.getElem_mem hi)
theorem come_ok {ls : List (Int × Int)} {gs : List PGrp} (hF : Forest ls gs) {g : Nat} (hg : g < gs.length) (hs : TabsOk (subTabs ls gs g)) : (∀ x ∈ comeOf ls gs g, -1 ≤ x) ∧ 0 < (comeOf ls gs g).length := by
  unfold comeOf comeR
  by_cases h0 : (gsAt gs g).lvl = 0
  · rw [if_pos h0]
    refine ⟨fun x hx => ?_, by simp⟩
    rcases List.mem_append.1 hx with hx | hx
    · rw [(List.mem_replicate.1 hx).2]; decide
    · obtain rfl := List.mem_singleton.1 hx; decide
  · rw [if_neg h0]
    have hne := (hF.parts g hg (by have := (hF.lvl g hg).1; omega)).2
    have hl : (subTabs ls gs g).length ≠ 0 := by unfold subTabs; rw [List.length_map]; exact fun h => hne (List.length_eq_zero_iff.1 h)
    rw [if_neg hl]
    exact merged_ok hs _ (Nat.le_refl _)
theorem tab_good {ls : List (Int × Int)} {gs : List PGrp} (hF : Forest ls gs) : ∀ g, g < gs.length → (∀ x ∈ tabOf ls gs g, -1 ≤ x) ∧ 0 < (tabOf ls gs g).length := by
  intro g
  induction g using Nat.strongRecOn with
  | ind g ih =>
    intro hg
    have hs : TabsOk (subTabs ls gs g) := fun t ht => by
      obtain ⟨h, hh, rfl⟩ := List.mem_map.1 ht
      have := hF.below g hg h hh
      exact ih h this (by omega)
    obtain ⟨a, b⟩ := come_ok hF hg hs
    rw [tabOf_eq hF hg]
    exact table_ok _ _ _ _ a b (lvOf_cents hF hg)
theorem subs_good {ls : List (Int × Int)} {gs : List PGrp} (hF : Forest ls gs) {g : Nat} (hg : g < gs.length) : TabsOk (subTabs ls gs g) := fun t ht => by
  obtain ⟨h, hh, rfl⟩ := List.mem_map.1 ht
  have := hF.below g hg h hh
  exact tab_good hF h (by omega)
/-- How many pieces of a group a plan takes there, and passes on; what it saves up to there. -/
def takeN (p : Int → Int) (g : PGrp) : Nat := g.items.countP (fun i => decide (p i = g.lvl))
def passN (p : Int → Int) (g : PGrp) : Nat := g.items.countP (fun i => decide (g.lvl < p i))
def centI (ls : List (Int × Int)) (z : Int) : Int := (ls.getD z.toNat (0, 0)).2
def saveI (ls : List (Int × Int)) (p : Int → Int) (g : PGrp) : Int := (g.items.map (fun i => if p i ≤ g.lvl then centI ls (p i) else 0)).sum
end Go.Proofs.YtelklmdlodgdpaaGreat

/-! P7 -/
namespace Go.Proofs.YtelklmdlodgdpaaGreat
set_option linter.unusedVariables false
theorem sQ_sum (N : Nat) (q : Nat → Nat) : ∀ k, k ≤ N → sQ N q k + ((List.range (N - k)).map q).sum = ((List.range N).map q).sum
  | 0, _ => by show 0 + _ = _; rw [Nat.zero_add]; rfl
  | k + 1, hk => by
    have ih := sQ_sum N q k (by omega)
    rw [show N - k = (N - (k + 1)) + 1 by omega, List.range_succ, List.map_append, List.sum_append] at ih
    simp only [List.map_cons, List.map_nil, List.sum_cons, List.sum_nil] at ih
    unfold sQ
    rw [show N - 1 - k = N - (k + 1) by omega]
    omega
theorem sS_sum (N : Nat) (s : Nat → Int) : ∀ k, k ≤ N → sS s N k + ((List.range (N - k)).map s).sum = ((List.range N).map s).sum
  | 0, _ => by show 0 + _ = _; rw [Int.zero_add]; rfl
  | k + 1, hk => by
    have ih := sS_sum N s k (by omega)
    rw [show N - k = (N - (k + 1)) + 1 by omega, List.range_succ, List.map_append, List.sum_append] at ih
    simp only [List.map_cons, List.map_nil, List.sum_cons, List.sum_nil] at ih
    unfold sS
    rw [show N - 1 - k = N - (k + 1) by omega]
    omega
theorem range_getD_map {β : Type} (l : List Nat) (f : Nat → β) : (List.range l.length).map (fun i => f (l.getD i 0)) = l.map f := by
  apply List.ext_getElem
  · simp
  · intro i h1 h2
    have hi : i < l.length := by simpa using h2
    simp only [List.getElem_map, List.getElem_range, List.getD_eq_getElem?_getD, List.getElem?_eq_getElem hi]
    rfl
theorem perm_sum {l l' : List Int} (h : l.Perm l') : l.sum = l'.sum := by
  induction h with
  | nil => rfl
  | cons x _ ih => simp only [List.sum_cons, ih]
  | swap x y l => simp only [List.sum_cons]; omega
  | trans _ _ ih1 ih2 => rw [ih1, ih2]
theorem flatMap_sum {α : Type} (l : List α) (f : α → List Int) (w : Int → Int) : ((l.flatMap f).map w).sum = (l.map (fun a => ((f a).map w).sum)).sum := by
  induction l with
  | nil => rfl
  | cons a r ih => rw [List.flatMap_cons, List.map_append, List.sum_append, ih, List.map_cons, List.sum_cons]
theorem flatMap_count {α : Type} (l : List α) (f : α → List Int) (w : Int → Bool) : (l.flatMap f).countP w = (l.map (fun a => (f a).countP w)).sum := by
  induction l with
  | nil => rfl
  | cons a r ih => rw [List.flatMap_cons, List.countP_append, ih, List.map_cons, List.sum_cons]
/-- A plan that may be: all numbers are numbers of levels, each group takes none or enough. -/
structure PlanOk (ls : List (Int × Int)) (gs : List PGrp) (p : Int → Int) : Prop where
  num : ∀ g, g < gs.length → ∀ i ∈ (gsAt gs g).items, 0 ≤ p i ∧ p i < (ls.length : Int)
  enough : ∀ g, g < gs.length → takeN p (gsAt gs g) = 0 ∨ (lvOf ls gs g).1 ≤ (takeN p (gsAt gs g) : Int)
theorem count_split (p : Int → Int) (m : Int) (l : List Int) : l.countP (fun i => decide (m - 1 < p i)) = l.countP (fun i => decide (p i = m)) + l.countP (fun i => decide (m < p i)) := by
  induction l with
  | nil => rfl
  | cons x r ih =>
    simp only [List.countP_cons, ih, decide_eq_true_eq]
    by_cases h1 : p x = m
    · rw [if_pos (show m - 1 < p x by omega), if_pos h1, if_neg (show ¬ m < p x by omega)]; omega
    · rw [if_neg h1]
      by_cases h2 : m < p x
      · rw [if_pos (show m - 1 < p x by omega), if_pos h2]; omega
      · rw [if_neg (show ¬ m - 1 < p x by omega), if_neg h2]; omega
theorem save_split (ls : List (Int × Int)) (p : Int → Int) (m : Int) (l : List Int) : (l.map (fun i => if p i ≤ m then centI ls (p i) else 0)).sum = (l.map (fun i => if p i ≤ m - 1 then centI ls (p i) else 0)).sum + (l.countP (fun i => decide (p i = m)) : Int) * centI ls m := by
  induction l with
  | nil => simp
  | cons x r ih =>
    simp only [List.map_cons, List.sum_cons, List.countP_cons, ih, decide_eq_true_eq]
    generalize r.countP (fun i => decide (p i = m)) = n
    generalize (r.map (fun i => if p i ≤ m - 1 then centI ls (p i) else 0)).sum = t
    by_cases h1 : p x = m
    · rw [if_pos h1, if_pos (by omega), if_neg (by omega), h1]
      have e : ((n + 1 : Nat) : Int) * centI ls m = (n : Int) * centI ls m + centI ls m := by rw [Int.natCast_add, Int.add_mul]; simp
      rw [e]
      generalize (n : Int) * centI ls m = z
      omega
    · rw [if_neg h1, Nat.add_zero]
      generalize (n : Int) * centI ls m = z
      by_cases h2 : p x ≤ m - 1
      · rw [if_pos h2, if_pos (by omega)]; omega
      · rw [if_neg h2, if_neg (by omega)]; omega
theorem cent_nonneg {ls : List (Int × Int)} {gs : List PGrp} (hF : Forest ls gs) (z : Int) : 0 ≤ centI ls z := by
  unfold centI
  by_cases h : z.toNat < ls.length
  · rw [List.getD_eq_getElem?_getD, List.getElem?_eq_getElem h]; exact hF.cents _ (List.getElem_mem h)
  · rw [List.getD_eq_getElem?_getD, List.getElem?_eq_none (by omega)]; exact Int.le_refl _
theorem save_nonneg {ls : List (Int × Int)} {gs : List PGrp} (hF : Forest ls gs) (p : Int → Int) (g : PGrp) : 0 ≤ saveI ls p g := by
  unfold saveI
  generalize g.items = l
  induction l with
  | nil => simp
  | cons x r ih =>
    rw [List.map_cons, List.sum_cons]
    have := cent_nonneg hF (p x)
    split <;> omega
theorem lv_cent (ls : List (Int × Int)) (gs : List PGrp) (g : Nat) : (lvOf ls gs g).2 = centI ls (gsAt gs g).lvl := rfl
/-- THE BOUND. -/
theorem plan_bound {ls : List (Int × Int)} {gs : List PGrp} (hF : Forest ls gs) {p : Int → Int} (hp : PlanOk ls gs p) : ∀ g, g < gs.length → saveI ls p (gsAt gs g) ≤ ent (tabOf ls gs g) (passN p (gsAt gs g)) := by
  intro g
  induction g using Nat.strongRecOn with
  | ind g ih =>
    intro hg
    obtain ⟨l0, l1⟩ := hF.lvl g hg
    have hc0 := lvOf_cents hF hg
    have hgood := come_ok hF hg (subs_good hF hg)
    rw [tabOf_eq hF hg]
    have hsplit : saveI ls p (gsAt gs g) = ((gsAt gs g).items.map (fun i => if p i ≤ (gsAt gs g).lvl - 1 then centI ls (p i) else 0)).sum + (takeN p (gsAt gs g) : Int) * (lvOf ls gs g).2 := by
      unfold saveI takeN; rw [lv_cent]; exact save_split ls p _ _
    have hcnt : (gsAt gs g).items.countP (fun i => decide ((gsAt gs g).lvl - 1 < p i)) = takeN p (gsAt gs g) + passN p (gsAt gs g) := count_split p _ _
    obtain ⟨Q, hQ⟩ : ∃ Q, (gsAt gs g).items.countP (fun i => decide ((gsAt gs g).lvl - 1 < p i)) = Q := ⟨_, rfl⟩
    obtain ⟨s, hs⟩ : ∃ s, ((gsAt gs g).items.map (fun i => if p i ≤ (gsAt gs g).lvl - 1 then centI ls (p i) else 0)).sum = s := ⟨_, rfl⟩
    rw [hQ] at hcnt
    rw [hs] at hsplit
    have hlast : decide ((gsAt gs g).lvl = (ls.length : Int) - 1) = true → Q - takeN p (gsAt gs g) = 0 := fun h => by
      have hl : (gsAt gs g).lvl = (ls.length : Int) - 1 := of_decide_eq_true h
      have : passN p (gsAt gs g) = 0 := by
        unfold passN
        rw [List.countP_eq_zero]
        intro i hi
        have := (hp.num g hg i hi).2
        simp; omega
      omega
    have key : s ≤ ent (comeOf ls gs g) Q ∧ 0 ≤ s := by
      by_cases h0 : (gsAt gs g).lvl = 0
      · have hs0 : s = 0 := by
          rw [← hs]
          have : (gsAt gs g).items.map (fun i => if p i ≤ (gsAt gs g).lvl - 1 then centI ls (p i) else 0) = (gsAt gs g).items.map (fun _ => (0 : Int)) := List.map_congr_left (fun i hi => by
            have := (hp.num g hg i hi).1
            rw [if_neg (by omega)])
          rw [this]
          generalize (gsAt gs g).items = l
          induction l with
          | nil => rfl
          | cons x r ih => simpa using ih
        have hQ0 : Q = (gsAt gs g).items.length := by
          rw [← hQ, List.countP_eq_length]
          intro i hi
          have := (hp.num g hg i hi).1
          simp; omega
        have he : ent (comeOf ls gs g) Q = 0 := by
          unfold comeOf comeR
          rw [if_pos h0, hQ0]
          unfold ent
          rw [List.getD_eq_getElem?_getD, List.getElem?_append_right (by simp)]
          simp
        omega
      · have hpos : 0 < (gsAt gs g).lvl := by omega
        obtain ⟨hperm, hne⟩ := hF.parts g hg hpos
        have hl : (subTabs ls gs g).length = (belowR gs g).length := by unfold subTabs; rw [List.length_map]
        have hce : comeOf ls gs g = mergedTo (subTabs ls gs g) (subTabs ls gs g).length := by
          unfold comeOf comeR
          rw [if_neg h0, if_neg (by rw [hl]; exact fun h => hne (List.length_eq_zero_iff.1 h))]
        have hsub : ∀ i, i < (belowR gs g).length → (belowR gs g).getD i 0 ∈ belowR gs g := fun i hi => by
          rw [List.getD_eq_getElem?_getD, List.getElem?_eq_getElem hi]; exact List.getElem_mem hi
        have htab : ∀ i, i < (belowR gs g).length → tabAt (subTabs ls gs g) i = tabOf ls gs ((belowR gs g).getD i 0) := fun i hi => by
          unfold tabAt subTabs
          rw [List.getD_eq_getElem?_getD, List.getElem?_map, List.getD_eq_getElem?_getD, List.getElem?_eq_getElem hi]; rfl
        have hih : ∀ i, i < (subTabs ls gs g).length → saveI ls p (gsAt gs ((belowR gs g).getD i 0)) ≤ ent (tabAt (subTabs ls gs g) i) (passN p (gsAt gs ((belowR gs g).getD i 0))) := fun i hi => by
          rw [hl] at hi
          have hb := hF.below g hg _ (hsub i hi)
          rw [htab i hi]
          exact ih _ hb (by omega)
        have hposs : Poss (subTabs ls gs g) (fun i => passN p (gsAt gs ((belowR gs g).getD i 0))) (subTabs ls gs g).length := fun j hj => by
          have := hih ((subTabs ls gs g).length - 1 - j) (by omega)
          have h2 := save_nonneg hF p (gsAt gs ((belowR gs g).getD ((subTabs ls gs g).length - 1 - j) 0))
          have hne' : ent (tabAt (subTabs ls gs g) ((subTabs ls gs g).length - 1 - j)) (passN p (gsAt gs ((belowR gs g).getD ((subTabs ls gs g).length - 1 - j) 0))) ≠ -1 := by omega
          exact ⟨ent_lt hne', hne'⟩
        obtain ⟨b1, b2⟩ := merged_up (subs_good hF hg) (fun i => passN p (gsAt gs ((belowR gs g).getD i 0))) _ (Nat.le_refl _) hposs
        have b3 := sS_le (ts := subTabs ls gs g) (q := fun i => passN p (gsAt gs ((belowR gs g).getD i 0))) (s := fun i => saveI ls p (gsAt gs ((belowR gs g).getD i 0))) _ (Nat.le_refl _) hih
        have q1 := sQ_sum (subTabs ls gs g).length (fun i => passN p (gsAt gs ((belowR gs g).getD i 0))) _ (Nat.le_refl _)
        have s1 := sS_sum (subTabs ls gs g).length (fun i => saveI ls p (gsAt gs ((belowR gs g).getD i 0))) _ (Nat.le_refl _)
        rw [Nat.sub_self, hl] at q1 s1
        rw [range_getD_map (belowR gs g) (fun h => passN p (gsAt gs h))] at q1
        rw [range_getD_map (belowR gs g) (fun h => saveI ls p (gsAt gs h))] at s1
        simp only [List.range_zero, List.map_nil, List.sum_nil] at q1 s1
        have hQs : Q = ((belowR gs g).map (fun h => passN p (gsAt gs h))).sum := by
          rw [← hQ, ← hperm.countP_eq, flatMap_count]
          congr 1
          refine List.map_congr_left (fun h hh => ?_)
          unfold passN
          have := hF.sub g hg h hh
          rw [show (gsAt gs g).lvl - 1 = (gsAt gs h).lvl by omega]
        have hSs : s = ((belowR gs g).map (fun h => saveI ls p (gsAt gs h))).sum := by
          rw [← hs, ← perm_sum (hperm.map _), flatMap_sum]
          congr 1
          refine List.map_congr_left (fun h hh => ?_)
          unfold saveI
          have := hF.sub g hg h hh
          rw [show (gsAt gs g).lvl - 1 = (gsAt gs h).lvl by omega]
        rw [hl] at b2 b3
        rw [hce, hl]
        have e1 : sQ (belowR gs g).length (fun i => passN p (gsAt gs ((belowR gs g).getD i 0))) (belowR gs g).length = Q := by omega
        have e2 : sS (fun i => saveI ls p (gsAt gs ((belowR gs g).getD i 0))) (belowR gs g).length (belowR gs g).length = s := by omega
        rw [e1] at b2
        rw [e2] at b3
        refine ⟨by omega, ?_⟩
        rw [hSs]
        generalize belowR gs g = l
        induction l with
        | nil => simp
        | cons x r ih' =>
          rw [List.map_cons, List.sum_cons]
          have := save_nonneg hF p (gsAt gs x)
          have := ih'
          omega
    have := tab_bound (comeOf ls gs g) (decide ((gsAt gs g).lvl = (ls.length : Int) - 1)) (lvOf ls gs g).1 (lvOf ls gs g).2 hc0 hgood.1 key.1 key.2 (t := takeN p (gsAt gs g)) (by omega) (hp.enough g hg) hlast
    rw [show Q - takeN p (gsAt gs g) = passN p (gsAt gs g) by omega] at this
    rw [hsplit]
    exact this
end Go.Proofs.YtelklmdlodgdpaaGreat

/-! P8 -/
namespace Go.Proofs.YtelklmdlodgdpaaGreat
set_option linter.unusedVariables false
def outOf (ls : List (Int × Int)) (gs : List PGrp) (tabs : List (List Int)) (g : Nat) (P : Int) : Nat × Int × List Nat :=
  divTo (lvOf ls gs g).1 (lvOf ls gs g).2 P ((tabs.getD g []).getD P.toNat (-1)) ((belowR gs g).map (fun h => tabs.getD h [])) (belowR gs g).length
theorem passTo_succ (ls : List (Int × Int)) (gs : List PGrp) (tabs : List (List Int)) (k : Nat) : passTo ls gs tabs (k + 1) = fun h => match (belowR gs (gs.length - 1 - k)).idxOf? h with
    | some i => (((outOf ls gs tabs (gs.length - 1 - k) (passTo ls gs tabs k (gs.length - 1 - k))).2.2.getD i 0 : Nat) : Int)
    | none => passTo ls gs tabs k h := rfl
theorem mem_below {gs : List PGrp} {g h : Nat} : h ∈ belowR gs g ↔ h < gs.length ∧ (gsAt gs h).up = (g : Int) := by
  unfold belowR gsAt
  rw [List.mem_filter, List.mem_range, decide_eq_true_eq]
theorem below_nodup (gs : List PGrp) (g : Nat) : (belowR gs g).Nodup := by
  unfold belowR
  exact List.Nodup.sublist List.filter_sublist List.nodup_range
theorem idx_none {l : List Nat} {h : Nat} (hn : h ∉ l) : l.idxOf? h = none := by
  rw [List.idxOf?_eq_none_iff]; exact hn
theorem idx_some {l : List Nat} (hd : l.Nodup) {i : Nat} (hi : i < l.length) : l.idxOf? l[i] = some i := by
  induction l generalizing i with
  | nil => simp at hi
  | cons x r ih =>
    rw [List.nodup_cons] at hd
    cases i with
    | zero => simp [List.idxOf?_cons]
    | succ i =>
      have hi' : i < r.length := by simpa using hi
      have hne : x ≠ r[i] := fun e => hd.1 (by rw [e]; exact List.getElem_mem hi')
      rw [List.getElem_cons_succ, List.idxOf?_cons, ih hd.2 hi']
      simp [hne]
theorem pass_keep (ls : List (Int × Int)) (gs : List PGrp) (tabs : List (List Int)) (h : Nat) (k : Nat) : ∀ m, k ≤ m → (∀ j, k ≤ j → j < m → h ∉ belowR gs (gs.length - 1 - j)) → passTo ls gs tabs m h = passTo ls gs tabs k h
  | 0, hk, _ => by obtain rfl : k = 0 := by omega
                   rfl
  | m + 1, hk, hno => by
    by_cases e : k = m + 1
    · subst e; rfl
    · have ih := pass_keep ls gs tabs h k m (by omega) (fun j h1 h2 => hno j h1 (by omega))
      rw [passTo_succ]
      dsimp only
      rw [idx_none (hno m (by omega) (by omega))]
      exact ih
def passF (ls : List (Int × Int)) (gs : List PGrp) : Nat → Int := passTo ls gs (tabsTo ls gs gs.length) gs.length
/-- What a group passes on is set when its parent is divided, and stays. -/
theorem pass_own {ls : List (Int × Int)} {gs : List PGrp} (hF : Forest ls gs) {g : Nat} (hg : g < gs.length) : passTo ls gs (tabsTo ls gs gs.length) (gs.length - 1 - g) g = passF ls gs g := by
  unfold passF
  refine (pass_keep ls gs _ g (gs.length - 1 - g) gs.length (by omega) (fun j h1 h2 hm => ?_)).symm
  have := hF.below (gs.length - 1 - j) (by omega) g hm
  omega
theorem pass_sub {ls : List (Int × Int)} {gs : List PGrp} (hF : Forest ls gs) {g : Nat} (hg : g < gs.length) {i : Nat} (hi : i < (belowR gs g).length) :
    passF ls gs ((belowR gs g).getD i 0) = (((outOf ls gs (tabsTo ls gs gs.length) g (passF ls gs g)).2.2.getD i 0 : Nat) : Int) := by
  have e : (belowR gs g).getD i 0 = (belowR gs g)[i] := by rw [List.getD_eq_getElem?_getD, List.getElem?_eq_getElem hi]; rfl
  have hm := List.getElem_mem hi
  obtain ⟨_, hup⟩ := mem_below.1 hm
  have h1 : passF ls gs (belowR gs g)[i] = passTo ls gs (tabsTo ls gs gs.length) (gs.length - 1 - g + 1) (belowR gs g)[i] := by
    unfold passF
    refine pass_keep ls gs _ _ (gs.length - 1 - g + 1) gs.length (by omega) (fun j h1 h2 hm2 => ?_)
    obtain ⟨_, hup2⟩ := mem_below.1 hm2
    rw [hup] at hup2
    omega
  rw [e, h1, passTo_succ]
  dsimp only
  rw [show gs.length - 1 - (gs.length - 1 - g) = g by omega, idx_some (below_nodup gs g) hi, pass_own hF hg]
theorem pass_top (ls : List (Int × Int)) (gs : List PGrp) {g : Nat} (h : ∀ p, p < gs.length → g ∉ belowR gs p) : passF ls gs g = 0 := by
  unfold passF
  rw [pass_keep ls gs _ g 0 gs.length (Nat.zero_le _) (fun j h1 h2 => h _ (by omega))]
  rfl
end Go.Proofs.YtelklmdlodgdpaaGreat

/-! P9 -/
namespace Go.Proofs.YtelklmdlodgdpaaGreat
set_option linter.unusedVariables false
/-- The number of pieces that a group passes on. -/
def pN (ls : List (Int × Int)) (gs : List PGrp) (g : Nat) : Nat := (passF ls gs g).toNat
/-- The pieces that come to a group. -/
def qN (ls : List (Int × Int)) (gs : List PGrp) (g : Nat) : Nat := if (gsAt gs g).lvl = 0 then (gsAt gs g).items.length else ((belowR gs g).map (pN ls gs)).sum
/-- What the groups right below save. -/
def sN (ls : List (Int × Int)) (gs : List PGrp) (g : Nat) : Int := if (gsAt gs g).lvl = 0 then 0 else ((belowR gs g).map (fun h => ent (tabOf ls gs h) (pN ls gs h))).sum
structure PassOk (ls : List (Int × Int)) (gs : List PGrp) (g : Nat) : Prop where
  nn : 0 ≤ passF ls gs g
  poss : ent (tabOf ls gs g) (pN ls gs g) ≠ -1
structure PassEq (ls : List (Int × Int)) (gs : List PGrp) (g : Nat) : Prop where
  le : pN ls gs g ≤ qN ls gs g
  enough : qN ls gs g - pN ls gs g = 0 ∨ (lvOf ls gs g).1 ≤ ((qN ls gs g - pN ls gs g : Nat) : Int)
  val : ent (tabOf ls gs g) (pN ls gs g) = sN ls gs g + ((qN ls gs g - pN ls gs g : Nat) : Int) * (lvOf ls gs g).2
theorem saver_parts {mn cents : Int} {P c : Nat} (h : saverR mn cents (P : Nat) (c : Nat) ≠ -1) : P ≤ c ∧ (c - P = 0 ∨ mn ≤ ((c - P : Nat) : Int)) ∧ saverR mn cents (P : Nat) (c : Nat) = ((c - P : Nat) : Int) * cents := by
  unfold saverR at h ⊢
  split at h
  · exact absurd rfl h
  · rename_i hn
    rw [if_neg hn]
    refine ⟨by omega, by omega, ?_⟩
    congr 1; omega
theorem ent_zeros (n k : Nat) : ent (List.replicate n (-1) ++ [0]) k ≠ -1 → k = n ∧ ent (List.replicate n (-1) ++ [0]) k = 0 := by
  intro h
  unfold ent at h ⊢
  rw [List.getD_eq_getElem?_getD] at h ⊢
  by_cases h1 : k < n
  · rw [List.getElem?_append_left (by simpa using h1), List.getElem?_replicate, if_pos h1] at h
    exact absurd rfl h
  · by_cases h2 : k = n
    · subst h2
      rw [List.getElem?_append_right (by simp)]
      simp
    · rw [List.getElem?_eq_none (by simp; omega)] at h
      exact absurd rfl h
/-- A group whose number is possible: the parts. -/
theorem pass_parts {ls : List (Int × Int)} {gs : List PGrp} (hF : Forest ls gs) {g : Nat} (hg : g < gs.length) (hp : PassOk ls gs g) :
    PassEq ls gs g ∧ (0 < (gsAt gs g).lvl → ∀ h ∈ belowR gs g, PassOk ls gs h) := by
  obtain ⟨l0, l1⟩ := hF.lvl g hg
  have hc0 := lvOf_cents hF hg
  have hco := come_ok hF hg (subs_good hF hg)
  have hlt := ent_lt hp.poss
  have htab := tabOf_eq hF hg
  have hposs := hp.poss
  rw [htab] at hlt hposs
  rw [table_len] at hlt
  have hent := ent_table (comeOf ls gs g) (decide ((gsAt gs g).lvl = (ls.length : Int) - 1)) (lvOf ls gs g).1 (lvOf ls gs g).2 hlt
  rw [hent] at hposs
  obtain ⟨j, hj, a1, a2, a3⟩ := (cell_at (comeOf ls gs g) (lvOf ls gs g).1 (lvOf ls gs g).2 (pN ls gs g) hco.1 hc0 _).resolve_left hposs
  have hval : ent (tabOf ls gs g) (pN ls gs g) = ent (comeOf ls gs g) (pN ls gs g + j) + saverR (lvOf ls gs g).1 (lvOf ls gs g).2 (pN ls gs g : Nat) (pN ls gs g + j : Nat) := by rw [htab, hent, a3]
  by_cases h0 : (gsAt gs g).lvl = 0
  · have hce : comeOf ls gs g = List.replicate (gsAt gs g).items.length (-1) ++ [0] := by unfold comeOf comeR; rw [if_pos h0]
    rw [hce] at a2 hval
    obtain ⟨e1, e2⟩ := ent_zeros _ _ a2
    have hq : qN ls gs g = pN ls gs g + j := by unfold qN; rw [if_pos h0]; exact e1.symm
    obtain ⟨b1, b2, b3⟩ := saver_parts a1
    refine ⟨⟨by omega, by rw [hq]; exact b2, ?_⟩, fun h => by omega⟩
    rw [hval, e2, b3, hq]
    unfold sN
    rw [if_pos h0]
  · have hpos : 0 < (gsAt gs g).lvl := by omega
    obtain ⟨hperm, hne⟩ := hF.parts g hg hpos
    have hl : (subTabs ls gs g).length = (belowR gs g).length := by unfold subTabs; rw [List.length_map]
    have hce : comeOf ls gs g = mergedTo (subTabs ls gs g) (subTabs ls gs g).length := by
      unfold comeOf comeR
      rw [if_neg h0, if_neg (by rw [hl]; exact fun h => hne (List.length_eq_zero_iff.1 h))]
    have hPc : passF ls gs g = (pN ls gs g : Nat) := by unfold pN; have := hp.nn; omega
    have hdiv := div_inv (mn := (lvOf ls gs g).1) (cents := (lvOf ls gs g).2) (P := passF ls gs g) (most := ent (tabOf ls gs g) (pN ls gs g)) (subs_good hF hg)
      ⟨pN ls gs g + j, by rw [← hce]; exact a2, by rw [hPc]; exact a1, by rw [← hce, hPc]; exact hval.symm⟩ (subTabs ls gs g).length (Nat.le_refl _)
    have hout : divTo (lvOf ls gs g).1 (lvOf ls gs g).2 (passF ls gs g) (ent (tabOf ls gs g) (pN ls gs g)) (subTabs ls gs g) (subTabs ls gs g).length = outOf ls gs (tabsTo ls gs gs.length) g (passF ls gs g) := by
      unfold outOf
      rw [hl]
      rfl
    rw [hout] at hdiv
    obtain ⟨d1, d2, d3, d4, r, d5, d6, d7⟩ := hdiv
    have hr0 : r = 0 := by
      rw [Nat.sub_self] at d5
      have := ent_lt d5
      simpa [mergedTo] using this
    subst hr0
    rw [Nat.sub_self] at d5 d7
    have hz : ent (mergedTo (subTabs ls gs g) 0) 0 = 0 := rfl
    rw [hz] at d7
    rw [Nat.add_zero] at d6 d7
    rw [hl] at d1 d3 d4
    have hpn : ∀ i, i < (belowR gs g).length → pN ls gs ((belowR gs g).getD i 0) = (outOf ls gs (tabsTo ls gs gs.length) g (passF ls gs g)).2.2.getD i 0 := fun i hi => by
      unfold pN; rw [pass_sub hF hg hi]; rfl
    have htabs : ∀ i, i < (belowR gs g).length → tabAt (subTabs ls gs g) i = tabOf ls gs ((belowR gs g).getD i 0) := fun i hi => by
      unfold tabAt subTabs
      rw [List.getD_eq_getElem?_getD, List.getElem?_map, List.getD_eq_getElem?_getD, List.getElem?_eq_getElem hi]; rfl
    have hcome : (outOf ls gs (tabsTo ls gs gs.length) g (passF ls gs g)).1 = qN ls gs g := by
      rw [d2]
      unfold qN
      rw [if_neg h0, ← range_getD_map (belowR gs g) (pN ls gs)]
      have e : (outOf ls gs (tabsTo ls gs gs.length) g (passF ls gs g)).2.2 = (List.range (belowR gs g).length).map (fun i => (outOf ls gs (tabsTo ls gs gs.length) g (passF ls gs g)).2.2.getD i 0) := by
        rw [← d1]
        have := range_getD_map (outOf ls gs (tabsTo ls gs gs.length) g (passF ls gs g)).2.2 (fun x => x)
        rw [this]; simp
      rw [e]
      congr 1
      exact (List.map_congr_left (fun i hi => hpn i (List.mem_range.1 hi))).symm
    have hsave : (outOf ls gs (tabsTo ls gs gs.length) g (passF ls gs g)).2.1 = sN ls gs g := by
      rw [d4]
      unfold sN
      rw [if_neg h0, ← range_getD_map (belowR gs g) (fun h => ent (tabOf ls gs h) (pN ls gs h))]
      congr 1
      refine List.map_congr_left (fun i hi => ?_)
      have hi' := List.mem_range.1 hi
      rw [htabs i hi', hpn i hi']
    rw [hcome] at d6 d7
    rw [hsave] at d7
    rw [hPc] at d6 d7
    obtain ⟨b1, b2, b3⟩ := saver_parts d6
    refine ⟨⟨b1, b2, ?_⟩, fun _ h hh => ?_⟩
    · rw [← d7, b3]; omega
    · obtain ⟨i, hi, rfl⟩ := List.mem_iff_getElem.1 hh
      have e : (belowR gs g).getD i 0 = (belowR gs g)[i] := by rw [List.getD_eq_getElem?_getD, List.getElem?_eq_getElem hi]; rfl
      refine ⟨?_, ?_⟩
      · rw [← e, pass_sub hF hg hi]; omega
      · have := d3 i hi
        rw [htabs i hi, ← hpn i hi, e] at this
        exact this
end Go.Proofs.YtelklmdlodgdpaaGreat

/-! P10 -/
namespace Go.Proofs.YtelklmdlodgdpaaGreat
set_option linter.unusedVariables false
theorem pass_all {ls : List (Int × Int)} {gs : List PGrp} (hF : Forest ls gs) (htop : ∀ g, g < gs.length → (∀ p, p < gs.length → g ∉ belowR gs p) → ent (tabOf ls gs g) 0 ≠ -1) : ∀ m g, gs.length - g ≤ m → g < gs.length → PassOk ls gs g
  | 0, g, h, hg => by omega
  | m + 1, g, h, hg => by
    by_cases hex : ∃ p, p < gs.length ∧ g ∈ belowR gs p
    · obtain ⟨p, hp, hgp⟩ := hex
      have hlt := hF.below p hp g hgp
      have ih := pass_all hF htop m p (by omega) hp
      have hs := hF.sub p hp g hgp
      have h0 := (hF.lvl g hg).1
      exact (pass_parts hF hp ih).2 (by omega) g hgp
    · have hno : ∀ p, p < gs.length → g ∉ belowR gs p := fun p hp hm => hex ⟨p, hp, hm⟩
      have e := pass_top ls gs hno
      refine ⟨by rw [e]; exact Int.le_refl _, ?_⟩
      unfold pN
      rw [e]
      exact htop g hg hno
/-- Pieces in order. -/
theorem insI_perm (x : Int) : ∀ l : List Int, (insI x l).Perm (x :: l)
  | [] => List.Perm.refl _
  | y :: r => by
    unfold insI
    split
    · exact List.Perm.refl _
    · exact ((insI_perm x r).cons y).trans (List.Perm.swap x y r)
theorem sortI_perm : ∀ l : List Int, (sortI l).Perm l
  | [] => List.Perm.refl _
  | x :: l => by
    show (insI x (sortI l)).Perm (x :: l)
    exact (insI_perm x _).trans ((sortI_perm l).cons x)
/-- What the plan's loop holds behind k groups. -/
theorem planTo_succ (gs : List PGrp) (f : Nat → Int) (k : Nat) (p : List Int) : planTo gs f (k + 1) p =
    (((sortI ((if (gsAt gs k).lvl = 0 then (gsAt gs k).items else []) ++ (belowR gs k).flatMap (fun h => (planTo gs f k p).2.getD h []))).take ((sortI ((if (gsAt gs k).lvl = 0 then (gsAt gs k).items else []) ++ (belowR gs k).flatMap (fun h => (planTo gs f k p).2.getD h []))).length - (f k).toNat)).foldl (fun q i => q.set i.toNat (gsAt gs k).lvl) (planTo gs f k p).1,
      (planTo gs f k p).2 ++ [(sortI ((if (gsAt gs k).lvl = 0 then (gsAt gs k).items else []) ++ (belowR gs k).flatMap (fun h => (planTo gs f k p).2.getD h []))).drop ((sortI ((if (gsAt gs k).lvl = 0 then (gsAt gs k).items else []) ++ (belowR gs k).flatMap (fun h => (planTo gs f k p).2.getD h []))).length - (f k).toNat)]) := rfl
theorem plan_len (gs : List PGrp) (f : Nat → Int) (p : List Int) : ∀ k, (planTo gs f k p).2.length = k
  | 0 => rfl
  | k + 1 => by rw [planTo_succ]; simp [plan_len gs f p k]
def passedL (gs : List PGrp) (f : Nat → Int) (g : Nat) : List Int := (planTo gs f (g + 1) []).2.getD g []
theorem passed_stable (gs : List PGrp) (f : Nat → Int) (p p' : List Int) : ∀ k, (planTo gs f k p).2 = (planTo gs f k p').2
  | 0 => rfl
  | k + 1 => by rw [planTo_succ, planTo_succ, passed_stable gs f p p' k]
theorem passed_get (gs : List PGrp) (f : Nat → Int) (p : List Int) : ∀ k g, g < k → (planTo gs f k p).2.getD g [] = passedL gs f g
  | 0, g, h => absurd h (Nat.not_lt_zero _)
  | k + 1, g, h => by
    have hl := plan_len gs f p k
    by_cases e : g = k
    · subst e
      unfold passedL
      rw [passed_stable gs f p [] (g + 1)]
    · rw [← passed_get gs f p k g (by omega), planTo_succ]
      simp only [List.getD_eq_getElem?_getD]
      rw [List.getElem?_append_left (by omega)]
def comeL (gs : List PGrp) (f : Nat → Int) (g : Nat) : List Int := sortI ((if (gsAt gs g).lvl = 0 then (gsAt gs g).items else []) ++ (belowR gs g).flatMap (passedL gs f))
def tookL (gs : List PGrp) (f : Nat → Int) (g : Nat) : List Int := (comeL gs f g).take ((comeL gs f g).length - (f g).toNat)
theorem come_at {ls : List (Int × Int)} {gs : List PGrp} (hF : Forest ls gs) (f : Nat → Int) (p : List Int) {g : Nat} (hg : g < gs.length) :
    sortI ((if (gsAt gs g).lvl = 0 then (gsAt gs g).items else []) ++ (belowR gs g).flatMap (fun h => (planTo gs f g p).2.getD h [])) = comeL gs f g := by
  unfold comeL
  congr 2
  have : ∀ l : List Nat, (∀ h ∈ l, h < g) → l.flatMap (fun h => (planTo gs f g p).2.getD h []) = l.flatMap (passedL gs f) := fun l => by
    induction l with
    | nil => intro _; rfl
    | cons x r ih =>
      intro hl
      rw [List.flatMap_cons, List.flatMap_cons, ih (fun h hh => hl h (List.mem_cons_of_mem _ hh)), passed_get gs f p g x (hl x List.mem_cons_self)]
  exact this _ (fun h hh => hF.below g hg h hh)
theorem passed_eq {ls : List (Int × Int)} {gs : List PGrp} (hF : Forest ls gs) (f : Nat → Int) {g : Nat} (hg : g < gs.length) : passedL gs f g = (comeL gs f g).drop ((comeL gs f g).length - (f g).toNat) := by
  unfold passedL
  rw [planTo_succ, come_at hF f [] hg]
  simp only [List.getD_eq_getElem?_getD]
  rw [List.getElem?_append_right (by rw [plan_len]; exact Nat.le_refl _), plan_len, Nat.sub_self]
  rfl
theorem plan_step {ls : List (Int × Int)} {gs : List PGrp} (hF : Forest ls gs) (f : Nat → Int) (p : List Int) {g : Nat} (hg : g < gs.length) : (planTo gs f (g + 1) p).1 = (tookL gs f g).foldl (fun q i => q.set i.toNat (gsAt gs g).lvl) (planTo gs f g p).1 := by
  rw [planTo_succ, come_at hF f p hg]; rfl
theorem split_come (gs : List PGrp) {ls : List (Int × Int)} (hF : Forest ls gs) (f : Nat → Int) {g : Nat} (hg : g < gs.length) : tookL gs f g ++ passedL gs f g = comeL gs f g := by
  rw [passed_eq hF f hg]
  exact List.take_append_drop _ _
/-- What comes to a group, with what has been taken below it, are the pieces of the group. -/
theorem come_len {ls : List (Int × Int)} {gs : List PGrp} (hF : Forest ls gs) (hp : ∀ g, g < gs.length → PassOk ls gs g) : ∀ g, g < gs.length → (comeL gs (passF ls gs) g).length = qN ls gs g ∧ (passedL gs (passF ls gs) g).length = pN ls gs g := by
  intro g
  induction g using Nat.strongRecOn with
  | ind g ih =>
    intro hg
    have hle := (pass_parts hF hg (hp g hg)).1.le
    have h1 : (comeL gs (passF ls gs) g).length = qN ls gs g := by
      unfold comeL
      rw [(sortI_perm _).length_eq]
      by_cases h0 : (gsAt gs g).lvl = 0
      · rw [if_pos h0]
        unfold qN
        rw [if_pos h0]
        have hnil : belowR gs g = [] := by
          rw [List.eq_nil_iff_forall_not_mem]
          intro h hh
          have := hF.sub g hg h hh
          have h2 := (hF.lvl h (by have := hF.below g hg h hh; omega)).1
          omega
        rw [hnil]; simp
      · rw [if_neg h0]
        unfold qN
        rw [if_neg h0, List.nil_append, List.length_flatMap]
        congr 1
        refine List.map_congr_left (fun h hh => ?_)
        have hb := hF.below g hg h hh
        exact (ih h hb (by omega)).2
    refine ⟨h1, ?_⟩
    rw [passed_eq hF _ hg, List.length_drop, h1]
    show qN ls gs g - (qN ls gs g - pN ls gs g) = _
    omega
end Go.Proofs.YtelklmdlodgdpaaGreat

/-! P11 -/
namespace Go.Proofs.YtelklmdlodgdpaaGreat
set_option linter.unusedVariables false
/-- More that is known of the groups of n pieces. -/
structure Forest2 (ls : List (Int × Int)) (gs : List PGrp) (n : Nat) : Prop extends Forest ls gs where
  nodup : ∀ g, g < gs.length → (gsAt gs g).items.Nodup
  alone : ∀ g, g < gs.length → ∀ g', g' < gs.length → (gsAt gs g).lvl = (gsAt gs g').lvl → ∀ i, i ∈ (gsAt gs g).items → i ∈ (gsAt gs g').items → g = g'
  range : ∀ g, g < gs.length → ∀ i ∈ (gsAt gs g).items, 0 ≤ i ∧ i < (n : Int)
variable {ls : List (Int × Int)} {gs : List PGrp} {n : Nat} {f : Nat → Int}
theorem passed_sub (hF : Forest2 ls gs n) {g : Nat} (hg : g < gs.length) {i : Int} (h : i ∈ passedL gs f g) : i ∈ comeL gs f g := by
  rw [← split_come gs hF.toForest f hg]; exact List.mem_append_right _ h
theorem took_sub (hF : Forest2 ls gs n) {g : Nat} (hg : g < gs.length) {i : Int} (h : i ∈ tookL gs f g) : i ∈ comeL gs f g := by
  rw [← split_come gs hF.toForest f hg]; exact List.mem_append_left _ h
theorem come_from {g : Nat} {i : Int} (h : i ∈ comeL gs f g) : ((gsAt gs g).lvl = 0 ∧ i ∈ (gsAt gs g).items) ∨ ∃ h ∈ belowR gs g, i ∈ passedL gs f h := by
  unfold comeL at h
  rw [(sortI_perm _).mem_iff, List.mem_append] at h
  rcases h with h | h
  · by_cases h0 : (gsAt gs g).lvl = 0
    · rw [if_pos h0] at h; exact .inl ⟨h0, h⟩
    · rw [if_neg h0] at h; cases h
  · obtain ⟨x, hx, hi⟩ := List.mem_flatMap.1 h
    exact .inr ⟨x, hx, hi⟩
theorem mem_come (hF : Forest2 ls gs n) : ∀ g, g < gs.length → ∀ i ∈ comeL gs f g, i ∈ (gsAt gs g).items := by
  intro g
  induction g using Nat.strongRecOn with
  | ind g ih =>
    intro hg i hi
    rcases come_from hi with ⟨_, h⟩ | ⟨h, hh, hp⟩
    · exact h
    · have hb := hF.below g hg h hh
      have hs := hF.sub g hg h hh
      have hl := (hF.lvl h (by omega)).1
      have := ih h hb (by omega) i (passed_sub hF (by omega) hp)
      exact (hF.parts g hg (by omega)).1.mem_iff.1 (List.mem_flatMap.2 ⟨h, hh, this⟩)
theorem flatMap_nodup {l : List Nat} {F : Nat → List Int} (hl : l.Nodup) (h1 : ∀ h ∈ l, (F h).Nodup) (h2 : ∀ h ∈ l, ∀ h' ∈ l, ∀ i, i ∈ F h → i ∈ F h' → h = h') : (l.flatMap F).Nodup := by
  induction l with
  | nil => simp
  | cons x r ih =>
    rw [List.nodup_cons] at hl
    rw [List.flatMap_cons, List.nodup_append]
    refine ⟨h1 x List.mem_cons_self, ih hl.2 (fun h hh => h1 h (List.mem_cons_of_mem _ hh)) (fun h hh h' hh' => h2 h (List.mem_cons_of_mem _ hh) h' (List.mem_cons_of_mem _ hh')), fun a ha b hb e => ?_⟩
    subst e
    obtain ⟨y, hy, hy'⟩ := List.mem_flatMap.1 hb
    have := h2 x List.mem_cons_self y (List.mem_cons_of_mem _ hy) a ha hy'
    subst this
    exact hl.1 hy
theorem come_nodup (hF : Forest2 ls gs n) : ∀ g, g < gs.length → (comeL gs f g).Nodup := by
  intro g
  induction g using Nat.strongRecOn with
  | ind g ih =>
    intro hg
    unfold comeL
    rw [(sortI_perm _).nodup_iff]
    by_cases h0 : (gsAt gs g).lvl = 0
    · rw [if_pos h0]
      have hnil : belowR gs g = [] := by
        rw [List.eq_nil_iff_forall_not_mem]
        intro h hh
        have := hF.sub g hg h hh
        have h2 := (hF.lvl h (by have := hF.below g hg h hh; omega)).1
        omega
      rw [hnil]
      simpa using hF.nodup g hg
    · rw [if_neg h0, List.nil_append]
      refine flatMap_nodup (below_nodup gs g) (fun h hh => ?_) (fun h hh h' hh' i hi hi' => ?_)
      · have hb := hF.below g hg h hh
        rw [passed_eq hF.toForest f (by omega)]
        exact (ih h hb (by omega)).sublist (List.drop_sublist _ _)
      · have hb := hF.below g hg h hh
        have hb' := hF.below g hg h' hh'
        have hs := hF.sub g hg h hh
        have hs' := hF.sub g hg h' hh'
        exact hF.alone h (by omega) h' (by omega) (by omega) i (mem_come hF h (by omega) i (passed_sub hF (by omega) hi)) (mem_come hF h' (by omega) i (passed_sub hF (by omega) hi'))
theorem took_not_passed (hF : Forest2 ls gs n) {g : Nat} (hg : g < gs.length) {i : Int} (h1 : i ∈ tookL gs f g) (h2 : i ∈ passedL gs f g) : False := by
  have := come_nodup (f := f) hF g hg
  rw [← split_come gs hF.toForest f hg, List.nodup_append] at this
  exact this.2.2 i h1 i h2 rfl
/-- What comes to a group was passed on by all groups below that have it. -/
theorem came_by (hF : Forest2 ls gs n) : ∀ g', g' < gs.length → ∀ i ∈ comeL gs f g', ∀ g, g < gs.length → (gsAt gs g).lvl < (gsAt gs g').lvl → i ∈ (gsAt gs g).items → i ∈ passedL gs f g := by
  intro g'
  induction g' using Nat.strongRecOn with
  | ind g' ih =>
    intro hg' i hi g hg hlt hig
    rcases come_from hi with ⟨h0, _⟩ | ⟨h, hh, hp⟩
    · have := (hF.lvl g hg).1
      omega
    · have hb := hF.below g' hg' h hh
      have hs := hF.sub g' hg' h hh
      have hc := passed_sub (f := f) hF (by omega) hp
      by_cases e : (gsAt gs g).lvl = (gsAt gs h).lvl
      · have := hF.alone g hg h (by omega) e i hig (mem_come hF h (by omega) i hc)
        subst this
        exact hp
      · exact ih h hb (by omega) i hc g hg (by omega) hig
theorem took_alone (hF : Forest2 ls gs n) {g g' : Nat} (hg : g < gs.length) (hg' : g' < gs.length) {i : Int} (h1 : i ∈ tookL gs f g) (h2 : i ∈ tookL gs f g') : g = g' := by
  have c1 := took_sub hF hg h1
  have c2 := took_sub hF hg' h2
  have m1 := mem_come hF g hg i c1
  have m2 := mem_come hF g' hg' i c2
  rcases Int.lt_trichotomy (gsAt gs g).lvl (gsAt gs g').lvl with h | h | h
  · exact (took_not_passed hF hg h1 (came_by hF g' hg' i c2 g hg h m1)).elim
  · exact hF.alone g hg g' hg' h i m1 m2
  · exact (took_not_passed hF hg' h2 (came_by hF g hg i c1 g' hg' h m2)).elim
/-- Numbers stored at some places. -/
theorem fold_set (x : Int) : ∀ (l : List Int) (q : List Int), (∀ i ∈ l, 0 ≤ i) → (l.foldl (fun q i => q.set i.toNat x) q).length = q.length ∧ ∀ i : Int, 0 ≤ i → i.toNat < q.length → (l.foldl (fun q i => q.set i.toNat x) q).getD i.toNat 0 = if i ∈ l then x else q.getD i.toNat 0
  | [], q, _ => ⟨rfl, fun i _ _ => by simp⟩
  | y :: l, q, h => by
    obtain ⟨a, b⟩ := fold_set x l (q.set y.toNat x) (fun i hi => h i (List.mem_cons_of_mem _ hi))
    rw [List.length_set] at a b
    refine ⟨a, fun i hi hl => ?_⟩
    rw [List.foldl_cons, b i hi hl]
    have hy := h y List.mem_cons_self
    by_cases h1 : i ∈ l
    · rw [if_pos h1, if_pos (List.mem_cons_of_mem _ h1)]
    · rw [if_neg h1]
      by_cases h2 : i = y
      · subst h2
        rw [if_pos List.mem_cons_self, List.getD_eq_getElem?_getD, List.getElem?_set_self hl]
        rfl
      · rw [if_neg (fun hm => by rcases List.mem_cons.1 hm with e | e; exact h2 e; exact h1 e)]
        rw [List.getD_eq_getElem?_getD, List.getElem?_set_ne (by omega), ← List.getD_eq_getElem?_getD]
theorem plan_at (hF : Forest2 ls gs n) (p : List Int) (hpl : p.length = n) : ∀ k, k ≤ gs.length → (planTo gs f k p).1.length = n ∧ ∀ i : Int, 0 ≤ i → i < (n : Int) →
    ((∀ g, g < k → i ∉ tookL gs f g) → (planTo gs f k p).1.getD i.toNat 0 = p.getD i.toNat 0) ∧ ∀ g, g < k → i ∈ tookL gs f g → (planTo gs f k p).1.getD i.toNat 0 = (gsAt gs g).lvl
  | 0, _ => ⟨hpl, fun i _ _ => ⟨fun _ => rfl, fun g h => absurd h (Nat.not_lt_zero _)⟩⟩
  | k + 1, hk => by
    obtain ⟨a, b⟩ := plan_at hF p hpl k (by omega)
    have hnn : ∀ i ∈ tookL gs f k, 0 ≤ i := fun i hi => (hF.range k (by omega) i (mem_come hF k (by omega) i (took_sub hF (by omega) hi))).1
    obtain ⟨c, d⟩ := fold_set (gsAt gs k).lvl (tookL gs f k) (planTo gs f k p).1 hnn
    rw [plan_step hF.toForest f p (by omega)]
    refine ⟨by rw [c, a], fun i h0 h1 => ?_⟩
    have hd := d i h0 (by rw [a]; omega)
    obtain ⟨b1, b2⟩ := b i h0 h1
    refine ⟨fun hno => ?_, fun g hg hi => ?_⟩
    · rw [hd, if_neg (hno k (by omega))]
      exact b1 (fun g hg => hno g (by omega))
    · by_cases e : g = k
      · subst e; rw [hd, if_pos hi]
      · rw [hd, if_neg (fun hk' => e (took_alone hF (by omega) (by omega) hi hk'))]
        exact b2 g (by omega) hi
end Go.Proofs.YtelklmdlodgdpaaGreat

/-! P12 -/
namespace Go.Proofs.YtelklmdlodgdpaaGreat
set_option linter.unusedVariables false
variable {ls : List (Int × Int)} {gs : List PGrp} {n : Nat}
def planP (ls : List (Int × Int)) (gs : List PGrp) (n : Nat) (i : Int) : Int := (planR ls gs n).getD i.toNat 0
theorem planR_eq (ls : List (Int × Int)) (gs : List PGrp) (n : Nat) : planR ls gs n = (planTo gs (passF ls gs) gs.length (List.replicate n 0)).1 := rfl
theorem plan_took (hF : Forest2 ls gs n) {g : Nat} (hg : g < gs.length) {i : Int} (h : i ∈ tookL gs (passF ls gs) g) : planP ls gs n i = (gsAt gs g).lvl := by
  have hr := hF.range g hg i (mem_come hF g hg i (took_sub hF hg h))
  unfold planP
  rw [planR_eq]
  exact ((plan_at hF (List.replicate n 0) (by simp) gs.length (Nat.le_refl _)).2 i hr.1 hr.2).2 g hg h
theorem come_split (hF : Forest2 ls gs n) {f : Nat → Int} {g : Nat} (hg : g < gs.length) {i : Int} (h : i ∈ comeL gs f g) : i ∈ tookL gs f g ∨ i ∈ passedL gs f g := by
  rw [← split_come gs hF.toForest f hg] at h
  exact List.mem_append.1 h
/-- A piece of a group is taken there or below, or passed on. -/
theorem stands (hF : Forest2 ls gs n) {f : Nat → Int} : ∀ g, g < gs.length → ∀ i ∈ (gsAt gs g).items, (∃ g', g' < gs.length ∧ (gsAt gs g').lvl ≤ (gsAt gs g).lvl ∧ i ∈ tookL gs f g') ∨ i ∈ passedL gs f g := by
  intro g
  induction g using Nat.strongRecOn with
  | ind g ih =>
    intro hg i hi
    have hcome : i ∈ comeL gs f g → (∃ g', g' < gs.length ∧ (gsAt gs g').lvl ≤ (gsAt gs g).lvl ∧ i ∈ tookL gs f g') ∨ i ∈ passedL gs f g := fun hc => by
      rcases come_split hF hg hc with h | h
      · exact .inl ⟨g, hg, Int.le_refl _, h⟩
      · exact .inr h
    by_cases h0 : (gsAt gs g).lvl = 0
    · refine hcome ?_
      unfold comeL
      rw [(sortI_perm _).mem_iff, List.mem_append, if_pos h0]
      exact .inl hi
    · have hpos : 0 < (gsAt gs g).lvl := by have := (hF.lvl g hg).1; omega
      obtain ⟨h, hh, hih⟩ := List.mem_flatMap.1 ((hF.parts g hg hpos).1.mem_iff.2 hi)
      have hb := hF.below g hg h hh
      have hs := hF.sub g hg h hh
      rcases ih h hb (by omega) i hih with ⟨g', h1, h2, h3⟩ | hp
      · exact .inl ⟨g', h1, by omega, h3⟩
      · refine hcome ?_
        unfold comeL
        rw [(sortI_perm _).mem_iff, List.mem_append]
        exact .inr (List.mem_flatMap.2 ⟨h, hh, hp⟩)
/-- What is passed on is taken above. -/
theorem passed_taken (hF : Forest2 ls gs n) : ∀ m g, gs.length - g ≤ m → g < gs.length → ∀ i ∈ passedL gs (passF ls gs) g, ∃ g', g' < gs.length ∧ (gsAt gs g).lvl < (gsAt gs g').lvl ∧ i ∈ tookL gs (passF ls gs) g'
  | 0, g, h, hg, i, hi => by omega
  | m + 1, g, h, hg, i, hi => by
    by_cases hex : ∃ p, p < gs.length ∧ g ∈ belowR gs p
    · obtain ⟨p, hp, hgp⟩ := hex
      have hlt := hF.below p hp g hgp
      have hs := hF.sub p hp g hgp
      have hc : i ∈ comeL gs (passF ls gs) p := by
        unfold comeL
        rw [(sortI_perm _).mem_iff, List.mem_append]
        exact .inr (List.mem_flatMap.2 ⟨g, hgp, hi⟩)
      rcases come_split hF hp hc with h1 | h1
      · exact ⟨p, hp, by omega, h1⟩
      · obtain ⟨g', a, b, c⟩ := passed_taken hF m p (by omega) hp i h1
        exact ⟨g', a, by omega, c⟩
    · have e := pass_top ls gs (fun p hp hm => hex ⟨p, hp, hm⟩)
      rw [passed_eq hF.toForest _ hg, e] at hi
      simp at hi
theorem plan_is (hF : Forest2 ls gs n) {g : Nat} (hg : g < gs.length) {i : Int} (hi : i ∈ (gsAt gs g).items) :
    (planP ls gs n i = (gsAt gs g).lvl ↔ i ∈ tookL gs (passF ls gs) g) ∧ ((gsAt gs g).lvl < planP ls gs n i ↔ i ∈ passedL gs (passF ls gs) g) ∧ 0 ≤ planP ls gs n i ∧ planP ls gs n i < (ls.length : Int) := by
  rcases stands (f := passF ls gs) hF g hg i hi with ⟨g', h1, h2, h3⟩ | hp
  · have e := plan_took hF h1 h3
    have hl := hF.lvl g' h1
    have hnp : i ∉ passedL gs (passF ls gs) g := fun hp => by
      obtain ⟨g'', a, b, c⟩ := passed_taken hF gs.length g (by omega) hg i hp
      have := took_alone hF h1 a h3 c
      subst this
      omega
    refine ⟨⟨fun h => ?_, fun h => plan_took hF hg h⟩, ⟨fun h => by omega, fun h => absurd h hnp⟩, by omega, by omega⟩
    have hm := mem_come hF g' h1 i (took_sub hF h1 h3)
    have := hF.alone g' h1 g hg (by omega) i hm hi
    subst this
    exact h3
  · obtain ⟨g'', a, b, c⟩ := passed_taken hF gs.length g (by omega) hg i hp
    have e := plan_took hF a c
    have hl := hF.lvl g'' a
    have hl0 := hF.lvl g hg
    refine ⟨⟨fun h => by omega, fun h => (took_not_passed hF hg h hp).elim⟩, ⟨fun _ => hp, fun _ => by omega⟩, by omega, by omega⟩
theorem count_mem {l t : List Int} (hl : l.Nodup) (ht : t.Nodup) (hs : ∀ i ∈ t, i ∈ l) (p : Int → Bool) (hp : ∀ i ∈ l, p i = true ↔ i ∈ t) : l.countP p = t.length := by
  rw [List.countP_eq_length_filter]
  refine List.Perm.length_eq ?_
  rw [List.perm_ext_iff_of_nodup (hl.filter _) ht]
  intro i
  rw [List.mem_filter]
  exact ⟨fun h => (hp i h.1).1 h.2, fun h => ⟨hs i h, (hp i (hs i h)).2 h⟩⟩
theorem plan_counts (hF : Forest2 ls gs n) (hp : ∀ g, g < gs.length → PassOk ls gs g) {g : Nat} (hg : g < gs.length) :
    takeN (planP ls gs n) (gsAt gs g) = qN ls gs g - pN ls gs g ∧ passN (planP ls gs n) (gsAt gs g) = pN ls gs g := by
  obtain ⟨c1, c2⟩ := come_len hF.toForest hp g hg
  have hle := (pass_parts hF.toForest hg (hp g hg)).1.le
  have hnd := come_nodup (f := passF ls gs) hF g hg
  have hsplit := split_come gs hF.toForest (passF ls gs) hg
  have hlen : (tookL gs (passF ls gs) g).length = qN ls gs g - pN ls gs g := by
    have := congrArg List.length hsplit
    rw [List.length_append, c1, c2] at this
    omega
  rw [← hsplit, List.nodup_append] at hnd
  constructor
  · rw [← hlen]
    exact count_mem (hF.nodup g hg) hnd.1 (fun i hi => mem_come hF g hg i (took_sub hF hg hi)) _ (fun i hi => by rw [decide_eq_true_eq]; exact (plan_is hF hg hi).1)
  · rw [← c2]
    exact count_mem (hF.nodup g hg) hnd.2.1 (fun i hi => mem_come hF g hg i (passed_sub hF hg hi)) _ (fun i hi => by rw [decide_eq_true_eq]; exact (plan_is hF hg hi).2.1)
/-- THE PLAN MAY BE. -/
theorem plan_ok (hF : Forest2 ls gs n) (hp : ∀ g, g < gs.length → PassOk ls gs g) : PlanOk ls gs (planP ls gs n) :=
  ⟨fun g hg i hi => ⟨(plan_is hF hg hi).2.2.1, (plan_is hF hg hi).2.2.2⟩, fun g hg => by
    have h := (pass_parts hF.toForest hg (hp g hg)).1.enough
    have := (plan_counts hF hp hg).1
    rw [← this] at h
    exact h⟩
/-- THE PLAN SAVES WHAT THE TABLES SAY. -/
theorem plan_saves (hF : Forest2 ls gs n) (hp : ∀ g, g < gs.length → PassOk ls gs g) : ∀ g, g < gs.length → saveI ls (planP ls gs n) (gsAt gs g) = ent (tabOf ls gs g) (pN ls gs g) := by
  intro g
  induction g using Nat.strongRecOn with
  | ind g ih =>
    intro hg
    have hv := (pass_parts hF.toForest hg (hp g hg)).1.val
    have hsplit : saveI ls (planP ls gs n) (gsAt gs g) = ((gsAt gs g).items.map (fun i => if planP ls gs n i ≤ (gsAt gs g).lvl - 1 then centI ls (planP ls gs n i) else 0)).sum + (takeN (planP ls gs n) (gsAt gs g) : Int) * (lvOf ls gs g).2 := by
      unfold saveI takeN; rw [lv_cent]; exact save_split ls _ _ _
    rw [hv, hsplit, (plan_counts hF hp hg).1]
    congr 1
    unfold sN
    by_cases h0 : (gsAt gs g).lvl = 0
    · rw [if_pos h0]
      have : (gsAt gs g).items.map (fun i => if planP ls gs n i ≤ (gsAt gs g).lvl - 1 then centI ls (planP ls gs n i) else 0) = (gsAt gs g).items.map (fun _ => (0 : Int)) := List.map_congr_left (fun i hi => by
        have := (plan_is hF hg hi).2.2.1
        rw [if_neg (by omega)])
      rw [this]
      generalize (gsAt gs g).items = l
      induction l with
      | nil => rfl
      | cons x r ih => simpa using ih
    · rw [if_neg h0]
      have hpos : 0 < (gsAt gs g).lvl := by have := (hF.lvl g hg).1; omega
      rw [← perm_sum ((hF.parts g hg hpos).1.map _), flatMap_sum]
      congr 1
      refine List.map_congr_left (fun h hh => ?_)
      have hb := hF.below g hg h hh
      have hs := hF.sub g hg h hh
      rw [← ih h hb (by omega)]
      unfold saveI
      rw [show (gsAt gs g).lvl - 1 = (gsAt gs h).lvl by omega]
end Go.Proofs.YtelklmdlodgdpaaGreat

/-! P13 -/
namespace Go.Proofs.YtelklmdlodgdpaaGreat
set_option linter.unusedVariables false
/-- All that is known of the groups of n pieces at a right scheme. -/
structure Forest3 (ls : List (Int × Int)) (gs : List PGrp) (n : Nat) : Prop extends Forest2 ls gs n where
  tops : ∀ g, g < gs.length → (∀ p, p < gs.length → g ∉ belowR gs p) → (gsAt gs g).lvl = (ls.length : Int) - 1
  last : ∀ g, g < gs.length → (gsAt gs g).lvl = (ls.length : Int) - 1 → (lvOf ls gs g).1 ≤ 0
  cover : ∀ i : Int, 0 ≤ i → i < (n : Int) → ∃ g, g < gs.length ∧ (gsAt gs g).lvl = (ls.length : Int) - 1 ∧ i ∈ (gsAt gs g).items
variable {ls : List (Int × Int)} {gs : List PGrp} {n : Nat}
/-- The plan in which the last level has all pieces may be. -/
theorem last_ok (hF : Forest3 ls gs n) : PlanOk ls gs (fun _ => (ls.length : Int) - 1) := by
  refine ⟨fun g hg i hi => ?_, fun g hg => ?_⟩
  · have := hF.lvl g hg
    exact ⟨by omega, by omega⟩
  · by_cases h : (gsAt gs g).lvl = (ls.length : Int) - 1
    · right
      have := hF.last g hg h
      omega
    · left
      unfold takeN
      rw [List.countP_eq_zero]
      intro i _
      simp
      omega
theorem all_pass (hF : Forest3 ls gs n) : ∀ g, g < gs.length → PassOk ls gs g := fun g hg =>
  pass_all hF.toForest (fun g hg hno => by
    have hl := hF.tops g hg hno
    have hb := plan_bound hF.toForest (last_ok hF) g hg
    have h0 : passN (fun _ => (ls.length : Int) - 1) (gsAt gs g) = 0 := by
      unfold passN
      rw [List.countP_eq_zero]
      intro i _
      simp
      omega
    rw [h0] at hb
    have := save_nonneg hF.toForest (fun _ => (ls.length : Int) - 1) (gsAt gs g)
    omega) gs.length g (by omega) hg
theorem planP_ok (hF : Forest3 ls gs n) : PlanOk ls gs (planP ls gs n) := plan_ok hF.toForest2 (all_pass hF)
/-- At each group of the last level no plan that may be saves more. -/
theorem plan_best (hF : Forest3 ls gs n) {p : Int → Int} (hp : PlanOk ls gs p) {g : Nat} (hg : g < gs.length) (hl : (gsAt gs g).lvl = (ls.length : Int) - 1) : saveI ls p (gsAt gs g) ≤ saveI ls (planP ls gs n) (gsAt gs g) := by
  rw [plan_saves hF.toForest2 (all_pass hF) g hg]
  have hb := plan_bound hF.toForest hp g hg
  have h0 : passN p (gsAt gs g) = 0 := by
    unfold passN
    rw [List.countP_eq_zero]
    intro i hi
    have := (hp.num g hg i hi).2
    simp
    omega
  have h1 : pN ls gs g = 0 := by
    rw [← (plan_counts hF.toForest2 (all_pass hF) hg).2]
    unfold passN
    rw [List.countP_eq_zero]
    intro i hi
    have := ((planP_ok hF).num g hg i hi).2
    simp
    omega
  rw [h0] at hb
  rw [h1]
  exact hb
/-- The groups of the last level, in order. -/
def topsL (ls : List (Int × Int)) (gs : List PGrp) : List Nat := (List.range gs.length).filter (fun g => decide ((gsAt gs g).lvl = (ls.length : Int) - 1))
theorem tops_perm (hF : Forest3 ls gs n) : ((topsL ls gs).flatMap (fun g => (gsAt gs g).items)).Perm ((List.range n).map Int.ofNat) := by
  have hnd : ((topsL ls gs).flatMap (fun g => (gsAt gs g).items)).Nodup := by
    refine flatMap_nodup (List.Nodup.sublist List.filter_sublist List.nodup_range) (fun g hg => ?_) (fun g hg g' hg' i hi hi' => ?_)
    · exact hF.nodup g (List.mem_range.1 (List.mem_filter.1 hg).1)
    · have a := List.mem_filter.1 hg
      have b := List.mem_filter.1 hg'
      have e1 := of_decide_eq_true a.2
      have e2 := of_decide_eq_true b.2
      exact hF.alone g (List.mem_range.1 a.1) g' (List.mem_range.1 b.1) (by rw [e1, e2]) i hi hi'
  have hnd2 : ((List.range n).map Int.ofNat).Nodup := by
    rw [List.nodup_iff_pairwise_ne, List.pairwise_map]
    exact List.nodup_range.imp (fun h e => h (Int.ofNat.inj e))
  rw [List.perm_ext_iff_of_nodup hnd hnd2]
  intro i
  constructor
  · intro h
    obtain ⟨g, hg, hi⟩ := List.mem_flatMap.1 h
    have hr := hF.range g (List.mem_range.1 (List.mem_filter.1 hg).1) i hi
    exact List.mem_map.2 ⟨i.toNat, List.mem_range.2 (by omega), by simp; omega⟩
  · intro h
    obtain ⟨k, hk, rfl⟩ := List.mem_map.1 h
    have hk' := List.mem_range.1 hk
    obtain ⟨g, hg, hl, hi⟩ := hF.cover (Int.ofNat k) (by simp) (by simp; omega)
    exact List.mem_flatMap.2 ⟨g, List.mem_filter.2 ⟨List.mem_range.2 hg, decide_eq_true hl⟩, hi⟩
/-- What a plan saves in all. -/
def totalI (ls : List (Int × Int)) (p : Int → Int) (n : Nat) : Int := (((List.range n).map Int.ofNat).map (fun i => centI ls (p i))).sum
theorem total_tops (hF : Forest3 ls gs n) {p : Int → Int} (hp : PlanOk ls gs p) : totalI ls p n = ((topsL ls gs).map (fun g => saveI ls p (gsAt gs g))).sum := by
  unfold totalI
  rw [← perm_sum ((tops_perm hF).map _), flatMap_sum]
  congr 1
  refine List.map_congr_left (fun g hg => ?_)
  have a := List.mem_filter.1 hg
  have e1 := of_decide_eq_true a.2
  unfold saveI
  congr 1
  refine List.map_congr_left (fun i hi => ?_)
  have := (hp.num g (List.mem_range.1 a.1) i hi).2
  rw [if_pos (by omega)]
/-- THE PLAN IS THE BEST. -/
theorem plan_total (hF : Forest3 ls gs n) {p : Int → Int} (hp : PlanOk ls gs p) : totalI ls p n ≤ totalI ls (planP ls gs n) n := by
  rw [total_tops hF hp, total_tops hF (planP_ok hF)]
  have : ∀ l : List Nat, (∀ g ∈ l, g ∈ topsL ls gs) → (l.map (fun g => saveI ls p (gsAt gs g))).sum ≤ (l.map (fun g => saveI ls (planP ls gs n) (gsAt gs g))).sum := fun l => by
    induction l with
    | nil => intro _; exact Int.le_refl _
    | cons g r ih =>
      intro h
      have a := List.mem_filter.1 (h g List.mem_cons_self)
      have := plan_best hF hp (List.mem_range.1 a.1) (of_decide_eq_true a.2)
      have := ih (fun x hx => h x (List.mem_cons_of_mem _ hx))
      simp only [List.map_cons, List.sum_cons]
      omega
  exact this _ (fun g hg => hg)
end Go.Proofs.YtelklmdlodgdpaaGreat
