/-
  Plain laws of SchemeLabels: a label more; levels of the call's own, changed.
-/
import Derived.Test.YtdahgfopighhlaaV3
namespace Go.Proofs.Ytdahgfopighhlaa
open Go.RowKit
set_option linter.unusedVariables false
set_option maxRecDepth 100000
def ownG : ByteArray := ⟨#[111, 119, 110]⟩
/-- Is there room for the label behind these? -/
def endB (p : ByteArray) (st : List Lab) : Bool := match st.getLast? with | none => true | some x => ltB x.pre p
def insA (p : ByteArray) (st : List Lab) (o : Lab) : List Lab := if ltB p o.pre && endB p st then st ++ [⟨p, ownG⟩] else st
def insTo (p : ByteArray) (labs : List Lab) (j : Nat) : List Lab := (labs.take j).foldl (fun st o => insA p st o ++ [o]) []
def insFin (p : ByteArray) (st : List Lab) : List Lab := if endB p st then st ++ [⟨p, ownG⟩] else st
def insL (p : ByteArray) (labs : List Lab) : List Lab := insFin p (insTo p labs labs.length)
theorem insTo_succ (p : ByteArray) (labs : List Lab) (j : Nat) (h : j < labs.length) : insTo p labs (j + 1) = insA p (insTo p labs j) labs[j] ++ [labs[j]] := by
  unfold insTo; rw [List.take_succ_eq_append_getElem h, List.foldl_append]; rfl
theorem insA_len (p : ByteArray) (st : List Lab) (o : Lab) : (insA p st o).length ≤ st.length + 1 := by unfold insA; split <;> simp
theorem insTo_len (p : ByteArray) (labs : List Lab) : ∀ j, j ≤ labs.length → (insTo p labs j).length ≤ 2 * j := by
  intro j
  induction j with
  | zero => intro _; simp [insTo]
  | succ j ih =>
    intro h
    rw [insTo_succ p labs j h, List.length_append]
    have := insA_len p (insTo p labs j) labs[j]
    have := ih (by omega)
    simp
    omega
theorem insFin_len (p : ByteArray) (st : List Lab) : (insFin p st).length ≤ st.length + 1 := by unfold insFin; split <;> simp
/-- Another prefix's group is as it was. -/
theorem labOf_other {p q : ByteArray} (hq : q ≠ p) (labs : List Lab) : labOf (insL p labs) q = labOf labs q := by
  have hA : ∀ st o, labOf (insA p st o) q = labOf st q := fun st o => by
    unfold insA
    split
    · unfold labOf
      rw [List.find?_append]
      have : ([⟨p, ownG⟩] : List Lab).find? (fun x => decide (x.pre = q)) = none := by
        rw [List.find?_cons_of_neg (by simpa using fun h => hq h.symm)]; rfl
      rw [this]
      simp
    · rfl
  have hT : ∀ j, j ≤ labs.length → labOf (insTo p labs j) q = labOf (labs.take j) q := by
    intro j
    induction j with
    | zero => intro _; rfl
    | succ j ih =>
      intro h
      rw [insTo_succ p labs j h, List.take_succ_eq_append_getElem h]
      have h1 := hA (insTo p labs j) labs[j]
      have h2 := ih (by omega)
      unfold labOf at h1 h2 ⊢
      rw [List.find?_append, List.find?_append]
      rw [h2] at h1
      cases e1 : (insA p (insTo p labs j) labs[j]).find? (fun x => decide (x.pre = q)) <;> cases e2 : (labs.take j).find? (fun x => decide (x.pre = q)) <;> rw [e1, e2] at h1 <;> simp at h1 <;> simp [h1]
  unfold insL
  have e : labOf (insFin p (insTo p labs labs.length)) q = labOf (insTo p labs labs.length) q := by
    unfold insFin
    split
    · unfold labOf
      rw [List.find?_append]
      have : ([⟨p, ownG⟩] : List Lab).find? (fun x => decide (x.pre = q)) = none := by
        rw [List.find?_cons_of_neg (by simpa using fun h => hq h.symm)]; rfl
      rw [this]
      simp
    · rfl
  rw [e, hT labs.length (Nat.le_refl _), List.take_of_length_le (Nat.le_refl _)]
/-- The label's own prefix has its group, alone. -/
def ownC (p : ByteArray) (labs : List Lab) : Bool := labs.any (fun x => decide (x.pre = p)) && labs.all (fun x => !decide (x.pre = p) || decide (x.grp = ownG))
theorem labOf_own {p : ByteArray} {labs : List Lab} (h : ownC p labs = true) : labOf labs p = some ownG := by
  unfold ownC at h
  rw [Bool.and_eq_true] at h
  unfold labOf
  cases e : labs.find? (fun x => decide (x.pre = p)) with
  | none =>
    rw [List.find?_eq_none] at e
    obtain ⟨x, hx, hp⟩ := List.any_eq_true.1 h.1
    exact absurd hp (e x hx)
  | some x =>
    have h1 := List.find?_some e
    have h2 := List.all_eq_true.1 h.2 x (List.mem_of_find?_eq_some e)
    rw [h1] at h2
    simp at h2
    simp [h2]
def pres27 : List ByteArray := [49, 50, 51].flatMap (fun a => [48, 49, 50].flatMap (fun b => [48, 49, 50].map (fun c => (⟨#[a, b, c]⟩ : ByteArray))))
def hasC (p : ByteArray) (labs : List Lab) : Bool := labs.any (fun x => decide (x.pre = p))
def chkI (p : ByteArray) (labs : List Lab) : Bool := hasC p labs || (chk3 (insL p labs) && ownC p (insL p labs) && decide ((insL p labs).length ≤ 7))
theorem okI (b : Nat → Bool) : (pres27.all fun p => chkI p (sel pre3 lab3 b 6)) = true := sel_all (P := fun labs => pres27.all fun p => chkI p labs) lab3 pre3 6 rfl (by kernel_rfl) b
theorem pre_27 (a : UInt8) : (code5 a).extract 0 3 ∈ pres27 := by
  have h : (List.range 256).all (fun n => pres27.any (fun x => decide (x = (code5 (UInt8.ofNat n)).extract 0 3))) = true := by kernel_rfl
  have h2 := List.all_eq_true.1 h a.toNat (List.mem_range.2 a.toNat_lt)
  obtain ⟨x, hx, he⟩ := List.any_eq_true.1 h2
  have := of_decide_eq_true he
  rw [this] at hx
  simpa using hx
def updL (p : ByteArray) (l : Lev) : Lev := if l.pre = 3 then { l with labs := insL p l.labs } else l
theorem made_gen7 (f5 f3 f1 : Bool) (labs5 labs3 labs1 : List Lab) (h5 : chk5 labs5 = true) (h3 : chk3 labs3 = true) (h1 : chk1 labs1 = true) (s5 : labs5.length ≤ 5) (s3 : labs3.length ≤ 7) (s1 : labs1.length ≤ 3) (m5 m3 m1 c5 c3 c1 c0 : Int) (hm5 : 1 ≤ m5 ∧ m5 ≤ 2000) (hm3 : 1 ≤ m3 ∧ m3 ≤ 2000) (hm1 : 1 ≤ m1 ∧ m1 ≤ 2000) (hc5 : 0 ≤ c5 ∧ c5 ≤ 1000000) (hc3 : 0 ≤ c3 ∧ c3 ≤ 1000000) (hc1 : 0 ≤ c1 ∧ c1 ≤ 1000000) (hc0 : 0 ≤ c0 ∧ c0 ≤ 1000000) :
    rightC ((if f5 then [⟨⟨#[102, 105, 118, 101]⟩, 5, labs5, m5, c5⟩] else []) ++ (if f3 then [⟨⟨#[116, 104, 114, 101, 101]⟩, 3, labs3, m3, c3⟩] else []) ++ (if f1 then [⟨⟨#[111, 110, 101]⟩, 1, labs1, m1, c1⟩] else []) ++ [⟨⟨#[97, 108, 108]⟩, 0, [], 0, c0⟩]) = true := by
  obtain ⟨a0, a1, a2, a3⟩ := chk5_parts h5
  obtain ⟨b0, b1, b2⟩ := chk3_parts h3
  obtain ⟨d0, d1⟩ := chk1_parts h1
  have L5 : levelC ⟨⟨#[102, 105, 118, 101]⟩, 5, labs5, m5, c5⟩ false = true := level_labs (by kernel_rfl) ⟨by show (0 : Int) ≤ 5; decide, by show (5 : Int) ≤ 10; decide⟩ hm5 hc5 a0
  have L3 : levelC ⟨⟨#[116, 104, 114, 101, 101]⟩, 3, labs3, m3, c3⟩ false = true := level_labs (by kernel_rfl) ⟨by show (0 : Int) ≤ 3; decide, by show (3 : Int) ≤ 10; decide⟩ hm3 hc3 b0
  have L1 : levelC ⟨⟨#[111, 110, 101]⟩, 1, labs1, m1, c1⟩ false = true := level_labs (by kernel_rfl) ⟨by show (0 : Int) ≤ 1; decide, by show (1 : Int) ≤ 10; decide⟩ hm1 hc1 d0
  have L0 : levelC ⟨⟨#[97, 108, 108]⟩, 0, [], 0, c0⟩ true = true := by
    unfold levelC headB
    have : nameB ⟨#[97, 108, 108]⟩ = true := by kernel_rfl
    simp [this, hc0.1, hc0.2]
  have N53 : nestC ⟨⟨#[102, 105, 118, 101]⟩, 5, labs5, m5, c5⟩ ⟨⟨#[116, 104, 114, 101, 101]⟩, 3, labs3, m3, c3⟩ = true := nest_alike a1
  have N51 : nestC ⟨⟨#[102, 105, 118, 101]⟩, 5, labs5, m5, c5⟩ ⟨⟨#[111, 110, 101]⟩, 1, labs1, m1, c1⟩ = true := nest_alike a2
  have N50 : nestC ⟨⟨#[102, 105, 118, 101]⟩, 5, labs5, m5, c5⟩ ⟨⟨#[97, 108, 108]⟩, 0, [], 0, c0⟩ = true := nest_alike a3
  have N31 : nestC ⟨⟨#[116, 104, 114, 101, 101]⟩, 3, labs3, m3, c3⟩ ⟨⟨#[111, 110, 101]⟩, 1, labs1, m1, c1⟩ = true := nest_alike b1
  have N30 : nestC ⟨⟨#[116, 104, 114, 101, 101]⟩, 3, labs3, m3, c3⟩ ⟨⟨#[97, 108, 108]⟩, 0, [], 0, c0⟩ = true := nest_alike b2
  have N10 : nestC ⟨⟨#[111, 110, 101]⟩, 1, labs1, m1, c1⟩ ⟨⟨#[97, 108, 108]⟩, 0, [], 0, c0⟩ = true := nest_alike d1
  have e1 : decide ((⟨#[102, 105, 118, 101]⟩ : ByteArray) = ⟨#[116, 104, 114, 101, 101]⟩) = false := by kernel_rfl
  have e2 : decide ((⟨#[102, 105, 118, 101]⟩ : ByteArray) = ⟨#[111, 110, 101]⟩) = false := by kernel_rfl
  have e3 : decide ((⟨#[102, 105, 118, 101]⟩ : ByteArray) = ⟨#[97, 108, 108]⟩) = false := by kernel_rfl
  have e4 : decide ((⟨#[116, 104, 114, 101, 101]⟩ : ByteArray) = ⟨#[111, 110, 101]⟩) = false := by kernel_rfl
  have e5 : decide ((⟨#[116, 104, 114, 101, 101]⟩ : ByteArray) = ⟨#[97, 108, 108]⟩) = false := by kernel_rfl
  have e6 : decide ((⟨#[111, 110, 101]⟩ : ByteArray) = ⟨#[97, 108, 108]⟩) = false := by kernel_rfl
  cases f5 <;> cases f3 <;> cases f1
  all_goals
    simp only [Bool.false_eq_true, if_false, if_true, List.nil_append, List.cons_append]
    unfold rightC
    simp only [levelsC, namesC, chainC, L5, L3, L1, L0, N53, N51, N50, N31, N30, N10, e1, e2, e3, e4, e5, e6, List.all_cons, List.all_nil, Bool.not_false, Bool.and_true, Bool.and_self]
    simp
    try omega
theorem hasC_false {p : ByteArray} {labs : List Lab} : hasC p labs = false ↔ ∀ o ∈ labs, o.pre ≠ p := by
  unfold hasC
  rw [List.any_eq_false]
  simp
/-- The made levels, each told. -/
theorem made_told (B : Bits) : madeR B [] [] = (if B.f5 then [⟨⟨#[102, 105, 118, 101]⟩, 5, sel pre5 lab5 B.b5 5, 1, 0⟩] else []) ++ (if B.f3 then [⟨⟨#[116, 104, 114, 101, 101]⟩, 3, sel pre3 lab3 B.b3 6, 1, 0⟩] else []) ++ (if B.f1 then [⟨⟨#[111, 110, 101]⟩, 1, sel pre1 lab1 B.b1 3, 1, 0⟩] else []) ++ [⟨⟨#[97, 108, 108]⟩, 0, [], 0, 0⟩] := by
  unfold madeR mk3 mk2 mk1 addL lev5 lev3 lev1
  cases B.f5 <;> cases B.f3 <;> cases B.f1 <;> simp
theorem upd_told (B : Bits) (p : ByteArray) : (madeR B [] []).map (updL p) = (if B.f5 then [⟨⟨#[102, 105, 118, 101]⟩, 5, sel pre5 lab5 B.b5 5, 1, 0⟩] else []) ++ (if B.f3 then [⟨⟨#[116, 104, 114, 101, 101]⟩, 3, insL p (sel pre3 lab3 B.b3 6), 1, 0⟩] else []) ++ (if B.f1 then [⟨⟨#[111, 110, 101]⟩, 1, sel pre1 lab1 B.b1 3, 1, 0⟩] else []) ++ [⟨⟨#[97, 108, 108]⟩, 0, [], 0, 0⟩] := by
  rw [made_told]
  cases B.f5 <;> cases B.f3 <;> cases B.f1 <;> simp [updL]
theorem told_pre3 {B : Bits} {l : Lev} (hl : l ∈ madeR B [] []) (h3 : l.pre = 3) : B.f3 = true ∧ l.labs = sel pre3 lab3 B.b3 6 := by
  rw [made_told] at hl
  simp only [List.mem_append] at hl
  rcases hl with ((hl | hl) | hl) | hl
  · cases hB : B.f5
    · rw [hB] at hl; simp at hl
    · rw [hB] at hl; simp at hl; subst hl; simp at h3
  · cases hB : B.f3
    · rw [hB] at hl; simp at hl
    · rw [hB] at hl; simp at hl; subst hl; exact ⟨rfl, rfl⟩
  · cases hB : B.f1
    · rw [hB] at hl; simp at hl
    · rw [hB] at hl; simp at hl; subst hl; simp at h3
  · simp at hl; subst hl; simp at h3
theorem upd_right (B : Bits) {p : ByteArray} (hp : p ∈ pres27) (h : ∀ l ∈ madeR B [] [], l.pre = 3 → ∀ o ∈ l.labs, o.pre ≠ p) : rightB ((madeR B [] []).map (updL p)) = true ∧ ∀ l ∈ madeR B [] [], l.pre = 3 → ownC p (insL p l.labs) = true := by
  have hI := List.all_eq_true.1 (okI B.b3) p hp
  have hn : B.f3 = true → hasC p (sel pre3 lab3 B.b3 6) = false := fun hf => hasC_false.2 (h ⟨⟨#[116, 104, 114, 101, 101]⟩, 3, sel pre3 lab3 B.b3 6, 1, 0⟩ (by rw [made_told, hf]; simp) rfl)
  unfold chkI at hI
  cases hf : B.f3 with
  | false =>
    have e : (madeR B [] []).map (updL p) = madeR B [] [] := by rw [upd_told, made_told, hf]; rfl
    rw [e]
    refine ⟨made_right B [] [], fun l hl h3 => ?_⟩
    have := (told_pre3 hl h3).1
    rw [hf] at this
    cases this
  | true =>
    rw [hn hf] at hI
    simp only [Bool.false_or, Bool.and_eq_true, decide_eq_true_eq] at hI
    obtain ⟨⟨h1, h2⟩, h3⟩ := hI
    constructor
    · rw [rightB_eq, upd_told]
      exact made_gen7 B.f5 B.f3 B.f1 _ _ _ (ok5 _) h1 (ok1 _) (sel_len _ _ _ _) h3 (sel_len _ _ _ _) _ _ _ _ _ _ _ (by decide) (by decide) (by decide) (by decide) (by decide) (by decide) (by decide)
    · intro l hl hl3
      rw [(told_pre3 hl hl3).2]
      exact h2
/-- The groups with the label more. -/
theorem upd_grp {l : Lev} {p c : ByteArray} (h : l.pre = 3 → ownC p (insL p l.labs) = true) : grpOf (updL p l) c = if l.pre = 3 ∧ c.extract 0 3 = p then ownG else grpOf l c := by
  unfold updL
  by_cases h3 : l.pre = 3
  · rw [if_pos h3]
    unfold grpOf
    dsimp only
    rw [h3]
    by_cases hc : c.extract 0 3 = p
    · rw [if_pos ⟨rfl, hc⟩]
      have e : c.extract 0 (3 : Int).toNat = p := hc
      rw [e, labOf_own (h h3)]
      rfl
    · rw [if_neg (fun h => hc h.2)]
      have e : c.extract 0 (3 : Int).toNat = c.extract 0 3 := rfl
      rw [e, labOf_other hc]
  · rw [if_neg h3, if_neg (fun h => h3 h.1)]
def updTo (p : ByteArray) (ls : List Lev) (i : Nat) : List Lev := (ls.take i).map (updL p) ++ ls.drop i
theorem updTo_len (p : ByteArray) (ls : List Lev) (i : Nat) : (updTo p ls i).length = ls.length := by unfold updTo; simp; omega
theorem updTo_get (p : ByteArray) (ls : List Lev) (i : Nat) (h : i < ls.length) : (updTo p ls i)[i]'(by rw [updTo_len]; exact h) = ls[i] := by
  unfold updTo
  rw [List.getElem_append_right (by simp; omega)]
  simp
  congr 1
  omega
theorem updTo_succ (p : ByteArray) (ls : List Lev) (i : Nat) (h : i < ls.length) : updTo p ls (i + 1) = (updTo p ls i).set i (updL p ls[i]) := by
  unfold updTo
  rw [List.take_succ_eq_append_getElem h, List.set_append_right _ _ (by simp; omega), List.map_append]
  have : i - (List.map (updL p) (List.take i ls)).length = 0 := by simp; omega
  rw [this, List.drop_eq_getElem_cons h, List.set_cons_zero, List.append_assoc]
  rfl
theorem updTo_end (p : ByteArray) (ls : List Lev) : updTo p ls ls.length = ls.map (updL p) := by unfold updTo; simp
/-- A field of a level is stored. -/
theorem lCells_set (L : List (Lev × Value)) (k j : Nat) (h : k < L.length) (hj : j < 5) (u : Value) (p' : Lev × Value) (hp : lCell p' = (lCell L[k]).set j u) : (L.flatMap lCell).set (k * 5 + j) u = (L.set k p').flatMap lCell := by
  induction L generalizing k with
  | nil => simp at h
  | cons p r ih =>
    have hl : (lCell p).length = 5 := rfl
    cases k with
    | zero =>
      rw [List.flatMap_cons, Nat.zero_mul, Nat.zero_add, List.set_append_left _ _ (by omega), List.set_cons_zero, List.flatMap_cons, hp]
      rfl
    | succ k =>
      rw [List.flatMap_cons, List.set_append_right _ _ (by rw [hl]; omega), hl, show (k + 1) * 5 + j - 5 = k * 5 + j by omega, ih k (by simpa using h) hp]
      rfl
theorem OwnsLv.put {w : World} {base g cap n : Nat} {ls : List Lev} (h : OwnsLv w base (.slice (some ⟨g, 0, none⟩) n cap) ls) (i j : Nat) (hi : i < ls.length) (hj : j < 5) (l' : Lev) (u : Value)
    (hu : (j ≠ 2 ∧ l'.labs = ls[i].labs ∧ ∀ sv, lCell (l', sv) = (lCell (ls[i], sv)).set j u) ∨ (j = 2 ∧ OwnsLab w base u l'.labs ∧ ∀ sv, lCell (l', u) = (lCell (ls[i], sv)).set 2 u)) :
    OwnsLv (w.setCell ⟨g, i * 5 + j, none⟩ u) base (.slice (some ⟨g, 0, none⟩) n cap) (ls.set i l') ∧ w.cell? ⟨g, i * 5 + j, none⟩ ≠ none ∧ w.frozen? ⟨g, i * 5 + j, none⟩ = false ∧ base ≤ g ∧ g < w.heap.size := by
  obtain ⟨L, hL, hLr, hLo⟩ := h
  obtain rfl : n = L.length := by
    rcases Joins.ownsRow_forms hLo with ⟨e, _⟩ | ⟨_, _, e⟩
    · cases e
    · injection e
  have hi' : i < L.length := by rw [← hL] at hi; simpa using hi
  have hLi : L[i].1 = ls[i] := by simp only [← hL]; simp
  have hgl := hLo.lt g rfl
  have hL5 : (L.flatMap lCell).length = L.length * 5 := hLo.1
  have hcell : w.cell? ⟨g, i * 5 + j, none⟩ = (L.flatMap lCell)[i * 5 + j]? := hLo.cellAt _ (by omega)
  obtain ⟨p', hp1, hp2, hp3⟩ : ∃ p' : Lev × Value, p'.1 = l' ∧ OwnsLab w base p'.2 p'.1.labs ∧ lCell p' = (lCell L[i]).set j u := by
    have e : L[i] = (ls[i], L[i].2) := by rw [← hLi]
    rcases hu with ⟨h1, h2, h3⟩ | ⟨h1, h2, h3⟩
    · refine ⟨(l', L[i].2), rfl, ?_, ?_⟩
      · show OwnsLab w base L[i].2 l'.labs
        rw [h2, ← hLi]
        exact hLr _ (List.getElem_mem hi')
      · rw [e]; exact h3 _
    · subst h1
      refine ⟨(l', u), rfl, h2, ?_⟩
      rw [e]; exact h3 _
  have hgr := set_grown w ⟨g, i * 5 + j, none⟩ u
  have nA := own_not hLo (T := 47) (by decide)
  have hst := (hLo.stored (i * 5 + j) u).1
  refine ⟨⟨L.set i p', ?_, ?_, ?_⟩, by rw [hcell, List.getElem?_eq_getElem (by rw [hL5]; omega)]; simp, hLo.frozenAt _, hgl.1, hgl.2⟩
  · rw [List.map_set, hL, hp1]
  · intro p hp
    have hk : OwnsLab w base p.2 p.1.labs := by
      rcases List.mem_or_eq_of_mem_set hp with hp | rfl
      · exact hLr p hp
      · exact hp2
    exact kept_typed hk hgr (fun g' e => nA g' e)
  · rw [List.length_set, ← lCells_set L i j hi' hj u p' hp3]
    exact hst
end Go.Proofs.Ytdahgfopighhlaa
