import Derived.Test.YtelklmdlodgdpaaGreatGE
/-! T0 -/
namespace Go.Proofs.YtelklmdlodgdpaaGreat
open Go.RowKit
set_option linter.unusedVariables false
set_option maxRecDepth 100000
structure Pck where
  pieces : Int
  grams : Int
  bundles : Int
  trays : Int
structure Bun where
  lvl : Int
  grp : ByteArray
  ids : List Int
  grams : Int
structure Tra where
  lvl : Int
  grp : ByteArray
  bs : List Int
structure Con where
  lvl : Int
  ts : List Int
structure Lod where
  buns : List Bun
  tras : List Tra
  cons : List Con
def noPce : Pce := ⟨0, 0, ⟨#[]⟩, 0, false⟩
def pcAt (ps : List Pce) (i : Int) : Pce := ps.getD i.toNat noPce
def gramsOf (ps : List Pce) (l : List Int) : Int := (l.map (fun i => (pcAt ps i).grams)).sum
theorem gramsOf_snoc (ps : List Pce) (l : List Int) (i : Int) : gramsOf ps (l ++ [i]) = gramsOf ps l + (pcAt ps i).grams := by unfold gramsOf; simp
theorem gramsOf_one (ps : List Pce) (i : Int) : gramsOf ps [i] = (pcAt ps i).grams := by unfold gramsOf; simp
/-- Has a bundle with these pieces room for one more? -/
def fitsP (k : Pck) (ps : List Pce) (l : List Int) (i : Int) : Prop := (l.length : Int) < k.pieces ∧ gramsOf ps l + (pcAt ps i).grams ≤ k.grams
instance (k : Pck) (ps : List Pce) (l : List Int) (i : Int) : Decidable (fitsP k ps l i) := by unfold fitsP; exact inferInstance
def cutStep (k : Pck) (ps : List Pce) (st : List (List Int) × List Int) (i : Int) : List (List Int) × List Int := if fitsP k ps st.2 i then (st.1, st.2 ++ [i]) else (st.1 ++ [st.2], [i])
def cutTo (k : Pck) (ps : List Pce) (I : List Int) : List (List Int) × List Int := I.foldl (cutStep k ps) ([], [])
theorem cutTo_snoc (k : Pck) (ps : List Pce) (I : List Int) (i : Int) : cutTo k ps (I ++ [i]) = cutStep k ps (cutTo k ps I) i := by unfold cutTo; rw [List.foldl_append]; rfl
def cuts (k : Pck) (ps : List Pce) (I : List Int) : List (List Int) := if 0 < (cutTo k ps I).2.length then (cutTo k ps I).1 ++ [(cutTo k ps I).2] else (cutTo k ps I).1
/-- What is known of the parts so far. -/
structure CutOk (k : Pck) (ps : List Pce) (I : List Int) (st : List (List Int) × List Int) : Prop where
  all : st.1.flatten ++ st.2 = I
  some : I ≠ [] → st.2 ≠ []
  none : I = [] → st.1 = []
  part : ∀ l ∈ st.1, l ≠ [] ∧ (l.length : Int) ≤ k.pieces ∧ gramsOf ps l ≤ k.grams
  last : (st.2.length : Int) ≤ k.pieces ∧ gramsOf ps st.2 ≤ k.grams
  full : ∀ A a b C, st.1 ++ [st.2] = A ++ a :: b :: C → ∀ i, b.head? = Option.some i → ¬ fitsP k ps a i
theorem snoc_split {α : Type} {X : List α} {z : α} {A : List α} {a b : α} {C : List α} (h : X ++ [z] = A ++ a :: b :: C) : (C = [] ∧ b = z ∧ X = A ++ [a]) ∨ ∃ C', C = C' ++ [z] ∧ X = A ++ a :: b :: C' := by
  rcases List.eq_nil_or_concat C with rfl | ⟨C', y, rfl⟩
  · refine .inl ⟨rfl, ?_⟩
    have h' : X ++ [z] = (A ++ [a]) ++ [b] := by rw [h]; simp
    obtain ⟨h1, h2⟩ := List.append_inj' h' rfl
    exact ⟨by simpa using h2.symm, h1⟩
  · refine .inr ⟨C', ?_⟩
    have h' : X ++ [z] = (A ++ a :: b :: C') ++ [y] := by rw [h]; simp
    obtain ⟨h1, h2⟩ := List.append_inj' h' rfl
    have : z = y := by simpa using h2
    subst this
    exact ⟨by simp, h1⟩
theorem snoc_indT {P : List Int → Prop} (h0 : P []) (hs : ∀ l i, P l → P (l ++ [i])) (l : List Int) : P l := by
  have h : ∀ l : List Int, P l.reverse := fun l => by
    induction l with
    | nil => exact h0
    | cons x r ih => rw [List.reverse_cons]; exact hs _ _ ih
  have := h l.reverse
  rwa [List.reverse_reverse] at this
theorem cut_ok {k : Pck} {ps : List Pce} (hk : 1 ≤ k.pieces) (hg0 : 0 ≤ k.grams) (I : List Int) (hg : ∀ i ∈ I, (pcAt ps i).grams ≤ k.grams) : CutOk k ps I (cutTo k ps I) := by
  revert hg
  refine snoc_indT (P := fun I => (∀ i ∈ I, (pcAt ps i).grams ≤ k.grams) → CutOk k ps I (cutTo k ps I)) ?_ ?_ I
  · intro hg
    show CutOk k ps [] ([], [])
    refine ⟨rfl, fun h => absurd rfl h, fun _ => rfl, fun l hl => (by cases hl), ⟨by show ((0 : Nat) : Int) ≤ _; omega, by show (0 : Int) ≤ _; exact hg0⟩, fun A a b C h => ?_⟩
    have := congrArg List.length h
    simp at this
    omega
  · intro I i ih hg
    show CutOk k ps (I ++ [i]) (cutTo k ps (I ++ [i]))
    have ih := ih (fun j hj => hg j (List.mem_append_left _ hj))
    have hgi := hg i (by simp)
    rw [cutTo_snoc]
    obtain ⟨h1, h2, h3, h4, h5, h6⟩ := ih
    unfold cutStep
    by_cases hf : fitsP k ps (cutTo k ps I).2 i
    · rw [if_pos hf]
      refine ⟨?_, fun _ => by simp, fun h => by simp at h, h4, ?_, ?_⟩
      · rw [← List.append_assoc, h1]
      · unfold fitsP at hf
        rw [gramsOf_snoc, List.length_append]
        refine ⟨?_, hf.2⟩
        have := hf.1
        simp
        omega
      · intro A a b C h q hq
        rcases snoc_split h with ⟨rfl, rfl, hX⟩ | ⟨C', rfl, hX⟩
        · have hne : I ≠ [] := fun e => by
            rw [h3 e] at hX
            simp at hX
          have hl := h2 hne
          obtain ⟨x, r, hx⟩ := List.exists_cons_of_ne_nil hl
          refine h6 A a (cutTo k ps I).2 [] (by rw [hX]; simp) q ?_
          rw [hx] at hq ⊢
          exact hq
        · exact h6 A a b (C' ++ [(cutTo k ps I).2]) (by rw [hX]; simp) q hq
    · rw [if_neg hf]
      refine ⟨?_, fun _ => by simp, fun h => by simp at h, ?_, ?_, ?_⟩
      · rw [List.flatten_append, List.flatten_singleton, h1]
      · intro l hl
        rcases List.mem_append.1 hl with hl | hl
        · exact h4 l hl
        · rw [List.mem_singleton.1 hl]
          refine ⟨fun e => hf ?_, h5⟩
          unfold fitsP
          rw [e]
          refine ⟨by show ((0 : Nat) : Int) < _; omega, ?_⟩
          show (0 : Int) + _ ≤ _
          omega
      · refine ⟨by show ((1 : Nat) : Int) ≤ _; omega, by show gramsOf ps [i] ≤ _; rw [gramsOf_one]; exact hgi⟩
      · intro A a b C h q hq
        rcases snoc_split h with ⟨rfl, rfl, hX⟩ | ⟨C', rfl, hX⟩
        · obtain ⟨_, h8⟩ := List.append_inj' hX rfl
          have ha : (cutTo k ps I).2 = a := by simpa using h8
          have hqi : i = q := by simpa using hq
          rw [← ha, ← hqi]
          exact hf
        · exact h6 A a b C' hX q hq
/-- The bundles of a group: all its pieces in order, none of them empty or too large, and none could have had the next one's first piece. -/
theorem cuts_ok {k : Pck} {ps : List Pce} (hk : 1 ≤ k.pieces) (hg0 : 0 ≤ k.grams) (I : List Int) (hg : ∀ i ∈ I, (pcAt ps i).grams ≤ k.grams) :
    (cuts k ps I).flatten = I ∧ (∀ l ∈ cuts k ps I, l ≠ [] ∧ (l.length : Int) ≤ k.pieces ∧ gramsOf ps l ≤ k.grams) ∧ ∀ A a b C, cuts k ps I = A ++ a :: b :: C → ∀ i, b.head? = Option.some i → ¬ fitsP k ps a i := by
  obtain ⟨h1, h2, h3, h4, h5, h6⟩ := cut_ok hk hg0 I hg
  unfold cuts
  by_cases hl : 0 < (cutTo k ps I).2.length
  · rw [if_pos hl]
    refine ⟨by rw [List.flatten_append, List.flatten_singleton]; exact h1, fun l hm => ?_, h6⟩
    rcases List.mem_append.1 hm with hm | hm
    · exact h4 l hm
    · rw [List.mem_singleton.1 hm]
      exact ⟨fun e => by rw [e] at hl; simp at hl, h5⟩
  · rw [if_neg hl]
    have hn : (cutTo k ps I).2 = [] := List.length_eq_zero_iff.1 (by omega)
    have hI : I = [] := Classical.byContradiction (fun e => h2 e hn)
    rw [h3 hI]
    refine ⟨by rw [hI]; rfl, fun l hm => absurd hm (by simp), fun A a b C h => ?_⟩
    have := congrArg List.length h
    simp at this
end Go.Proofs.YtelklmdlodgdpaaGreat

/-! T1 -/
namespace Go.Proofs.YtelklmdlodgdpaaGreat
open Go.RowKit
set_option linter.unusedVariables false
set_option maxRecDepth 100000
/-- The numbers from a to b (without it). -/
def numsR (a b : Nat) : List Int := (List.range (b - a)).map (fun q : Nat => ((a + q : Nat) : Int))
theorem numsR_len (a b : Nat) : (numsR a b).length = b - a := by unfold numsR; simp
theorem numsR_at {a b i : Nat} (h : i < (numsR a b).length) : (numsR a b)[i] = ((a + i : Nat) : Int) := by simp only [numsR, List.getElem_map, List.getElem_range]
theorem numsR_snoc {a b : Nat} (h : a ≤ b) : numsR a (b + 1) = numsR a b ++ [(b : Int)] := by
  unfold numsR
  rw [show b + 1 - a = (b - a) + 1 by omega, List.range_succ, List.map_append]
  simp
  omega
theorem numsR_nil (a : Nat) : numsR a a = [] := by unfold numsR; simp
theorem numsR_app {a b c : Nat} (h1 : a ≤ b) (h2 : b ≤ c) : numsR a b ++ numsR b c = numsR a c := by
  refine List.ext_getElem (by rw [List.length_append, numsR_len, numsR_len, numsR_len]; omega) (fun i hi hi' => ?_)
  by_cases h : i < (numsR a b).length
  · rw [List.getElem_append_left h, numsR_at, numsR_at]
  · rw [List.getElem_append_right (by omega), numsR_at, numsR_at, numsR_len]
    rw [numsR_len] at h
    congr 1
    omega
/-- How many shares there are. -/
def shareN (f t len : Nat) : Nat := (t - f + len - 1) / len
def shareAt (f t len q : Nat) : List Int := numsR (f + q * len) (min (f + (q + 1) * len) t)
def shareR (f t len : Nat) : List (List Int) := (List.range (shareN f t len)).map (shareAt f t len)
theorem shareN_lt {f t len q : Nat} (hl : 1 ≤ len) : q < shareN f t len ↔ f + q * len < t := by
  unfold shareN
  have h1 := Nat.div_add_mod (t - f + len - 1) len
  have h2 := Nat.mod_lt (t - f + len - 1) (show 0 < len by omega)
  obtain ⟨D, hD⟩ : ∃ D, D = (t - f + len - 1) / len := ⟨_, rfl⟩
  rw [← hD] at h1 ⊢
  constructor
  · intro h
    have h3 : (q + 1) * len ≤ len * D := by rw [Nat.mul_comm len D]; exact Nat.mul_le_mul_right _ h
    rw [Nat.add_mul] at h3
    omega
  · intro h
    refine Nat.lt_of_not_le (fun h3 => ?_)
    have h4 : len * D ≤ q * len := by rw [Nat.mul_comm len D]; exact Nat.mul_le_mul_right _ h3
    omega
theorem shareR_len (f t len : Nat) : (shareR f t len).length = shareN f t len := by unfold shareR; simp
theorem shareR_at {f t len q : Nat} (h : q < (shareR f t len).length) : (shareR f t len)[q] = shareAt f t len q := by simp only [shareR, List.getElem_map, List.getElem_range]
theorem shareAt_len {f t len q : Nat} (hl : 1 ≤ len) (h : q < shareN f t len) : 1 ≤ (shareAt f t len q).length ∧ (shareAt f t len q).length ≤ len := by
  have := (shareN_lt hl).1 h
  unfold shareAt
  rw [numsR_len, Nat.add_mul]
  omega
theorem shareAt_full {f t len q : Nat} (hl : 1 ≤ len) (h : q + 1 < shareN f t len) : (shareAt f t len q).length = len := by
  have := (shareN_lt hl).1 h
  unfold shareAt
  rw [numsR_len]
  rw [Nat.add_mul] at this ⊢
  omega
theorem share_flat {f t len : Nat} (hl : 1 ≤ len) (hft : f ≤ t) : (shareR f t len).flatten = numsR f t := by
  have h : ∀ n, n ≤ shareN f t len → ((List.range n).map (shareAt f t len)).flatten = numsR f (min (f + n * len) t) := fun n => by
    induction n with
    | zero =>
      intro _
      simp
      rw [Nat.min_eq_left hft, numsR_nil]
    | succ n ih =>
      intro hn
      have hlt := (shareN_lt hl).1 (show n < shareN f t len by omega)
      rw [List.range_succ, List.map_append, List.flatten_append, ih (by omega)]
      simp only [List.map_cons, List.map_nil, List.flatten_cons, List.flatten_nil, List.append_nil]
      unfold shareAt
      rw [Nat.min_eq_left (Nat.le_of_lt hlt)]
      refine numsR_app (by omega) ?_
      rw [Nat.add_mul]
      omega
  have h1 := h _ (Nat.le_refl _)
  have h2 : ¬ (f + shareN f t len * len < t) := fun hc => absurd ((shareN_lt hl).2 hc) (Nat.lt_irrefl _)
  rw [Nat.min_eq_right (by omega)] at h1
  exact h1
/-- The pieces of a group that take its level. -/
def takesOf (zs : List Int) (x : Grp) : List Int := x.items.filter (fun i => decide (zs.getD i.toNat (-1) = x.lvl))
def bunOf (ps : List Pce) (x : Grp) (l : List Int) : Bun := ⟨x.lvl, x.name, l.map (fun i => (pcAt ps i).id), gramsOf ps l⟩
def bunsOf (k : Pck) (ps : List Pce) (zs : List Int) (x : Grp) : List Bun := (cuts k ps (takesOf zs x)).map (bunOf ps x)
structure PkS where
  buns : List Bun
  tras : List Tra
  cons : List Con
  beg : Nat
/-- Is the next group of another level (or none)? -/
def endsL (Gs : List Grp) (j : Nat) : Prop := ∀ h : j + 1 < Gs.length, Gs[j + 1].lvl ≠ (Gs[j]'(by omega)).lvl
open Classical in
noncomputable def pkStep (k : Pck) (ps : List Pce) (zs : List Int) (Gs : List Grp) (st : PkS) (j : Nat) : PkS :=
  if hj : j < Gs.length then
    let bs := st.buns ++ bunsOf k ps zs Gs[j]
    let ts := st.tras ++ (shareR st.buns.length bs.length k.bundles.toNat).map (fun l => ⟨Gs[j].lvl, Gs[j].name, l⟩)
    if endsL Gs j then ⟨bs, ts, st.cons ++ (shareR st.beg ts.length k.trays.toNat).map (fun l => ⟨Gs[j].lvl, l⟩), ts.length⟩ else ⟨bs, ts, st.cons, st.beg⟩
  else st
noncomputable def pkTo (k : Pck) (ps : List Pce) (zs : List Int) (Gs : List Grp) (n : Nat) : PkS := (List.range n).foldl (pkStep k ps zs Gs) ⟨[], [], [], 0⟩
theorem pkTo_succ (k : Pck) (ps : List Pce) (zs : List Int) (Gs : List Grp) (n : Nat) : pkTo k ps zs Gs (n + 1) = pkStep k ps zs Gs (pkTo k ps zs Gs n) n := by
  unfold pkTo
  rw [List.range_succ, List.foldl_append]; rfl
/-- Right packings. -/
def pckB (k : Pck) : Bool := decide (1 ≤ k.pieces ∧ k.pieces ≤ 2000 ∧ 1 ≤ k.grams ∧ k.grams ≤ 1000000) && decide (1 ≤ k.bundles ∧ k.bundles ≤ 200 ∧ 1 ≤ k.trays ∧ k.trays ≤ 200)
end Go.Proofs.YtelklmdlodgdpaaGreat
