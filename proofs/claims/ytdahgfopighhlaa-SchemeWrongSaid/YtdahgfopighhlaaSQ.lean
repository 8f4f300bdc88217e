/-
  Plain laws: schemes that Made makes are right; codes that share a group share all later ones.
-/
import Derived.Test.YtdahgfopighhlaaSO
import Derived.Test.YtdahgfopighhlaaSI
namespace Go.Proofs.Ytdahgfopighhlaa
open Go.RowKit
set_option linter.unusedVariables false
/-- All lists of Booleans of a length. -/
def bools : Nat → List (List Bool)
  | 0 => [[]]
  | n + 1 => (bools n).flatMap (fun l => [false :: l, true :: l])
theorem mem_bools : ∀ l : List Bool, l ∈ bools l.length
  | [] => by simp [bools]
  | b :: l => by
    rw [List.length_cons]
    unfold bools
    rw [List.mem_flatMap]
    refine ⟨l, mem_bools l, ?_⟩
    cases b <;> simp
def selL (f : ByteArray → Lab) : List ByteArray → List Bool → List Lab
  | c :: cs, b :: bs => if b then f c :: selL f cs bs else selL f cs bs
  | _, _ => []
theorem sel_from (f : ByteArray → Lab) (b : Nat → Bool) : ∀ (cands : List ByteArray) (s : Nat) (all : List ByteArray), (∀ i, cands[i]? = all[s + i]?) →
    (((List.range' s cands.length).filter b).map (fun i => f (all.getD i ⟨#[]⟩))) = selL f cands ((List.range' s cands.length).map b)
  | [], s, all, h => rfl
  | c :: cs, s, all, h => by
    rw [List.length_cons, List.range'_succ, List.map_cons]
    have hc : all.getD s ⟨#[]⟩ = c := by
      have := h 0
      rw [List.getD_eq_getElem?_getD, ← show all[s + 0]? = all[s]? from rfl, ← this]; rfl
    have ih := sel_from f b cs (s + 1) all (fun i => by have := h (i + 1); rw [List.getElem?_cons_succ] at this; rw [this]; congr 1; omega)
    unfold selL
    cases hb : b s
    · rw [List.filter_cons_of_neg (by simpa using hb), if_neg (by simp)]; exact ih
    · rw [List.filter_cons_of_pos (by simpa using hb), if_pos rfl, List.map_cons, hc, ih]
theorem sel_eq (f : ByteArray → Lab) (b : Nat → Bool) (cands : List ByteArray) : sel cands f b cands.length = selL f cands ((List.range cands.length).map b) := by
  unfold sel
  have := sel_from f b cands 0 cands (fun i => by rw [Nat.zero_add])
  rw [List.range_eq_range']
  exact this
theorem sel_all {P : List Lab → Bool} (f : ByteArray → Lab) (cands : List ByteArray) (k : Nat) (hk : k = cands.length) (h : (bools k).all (fun bs => P (selL f cands bs)) = true) (b : Nat → Bool) : P (sel cands f b k) = true := by
  subst hk
  rw [sel_eq]
  refine List.all_eq_true.1 h _ ?_
  have := mem_bools ((List.range cands.length).map b)
  simpa using this
/-- Labels of a level of one length: right by themselves. -/
def labsC (p : Int) (labs : List Lab) : Bool := labs.all (fun x => decide ((x.pre.size : Int) = p) && plainB x.pre && nameB x.grp) && sortedC labs
/-- Prefixes with one group begin alike. -/
def alikeC (p : Int) (m : Nat) (labs : List Lab) : Bool :=
  (labs.flatMap (pairsL ⟨⟨#[]⟩, p, labs, 0, 0⟩)).all (fun x => (labs.flatMap (pairsL ⟨⟨#[]⟩, p, labs, 0, 0⟩)).all (fun y => !decide (x.1 = y.1) || decide (x.2.extract 0 m = y.2.extract 0 m)))
def chk5 (labs : List Lab) : Bool := labsC 5 labs && alikeC 5 3 labs && alikeC 5 1 labs && alikeC 5 0 labs
def chk3 (labs : List Lab) : Bool := labsC 3 labs && alikeC 3 1 labs && alikeC 3 0 labs
def chk1 (labs : List Lab) : Bool := labsC 1 labs && alikeC 1 0 labs
theorem ok5 (b : Nat → Bool) : chk5 (sel pre5 lab5 b 5) = true := sel_all lab5 pre5 5 rfl (by kernel_rfl) b
theorem ok3 (b : Nat → Bool) : chk3 (sel pre3 lab3 b 6) = true := sel_all lab3 pre3 6 rfl (by kernel_rfl) b
theorem ok1 (b : Nat → Bool) : chk1 (sel pre1 lab1 b 3) = true := sel_all lab1 pre1 3 rfl (by kernel_rfl) b
theorem pairsL_eq (l : Lev) : pairsL l = pairsL ⟨⟨#[]⟩, l.pre, l.labs, 0, 0⟩ := rfl
theorem nest_alike {l next : Lev} (h : alikeC l.pre next.pre.toNat l.labs = true) : nestC l next = true := by
  rw [nestC_iff]
  unfold alikeC at h
  rw [← pairsL_eq] at h
  simp only [List.all_eq_true, Bool.or_eq_true, Bool.not_eq_true', decide_eq_false_iff_not, decide_eq_true_eq] at h
  intro x hx y hy e
  rcases h x hx y hy with h' | h'
  · exact absurd e h'
  · unfold grpOf; rw [h']
theorem level_labs {l : Lev} (hn : nameB l.name = true) (hp : 0 ≤ l.pre ∧ l.pre ≤ 10) (hm : 1 ≤ l.min ∧ l.min ≤ 2000) (hc : 0 ≤ l.cents ∧ l.cents ≤ 1000000) (hl : labsC l.pre l.labs = true) : levelC l false = true := by
  unfold labsC at hl
  rw [Bool.and_eq_true] at hl
  unfold levelC headB
  rw [hn]
  simp only [Bool.true_and, Bool.and_eq_true, decide_eq_true_eq, Bool.false_eq_true, if_false]
  exact ⟨⟨hp.1, hp.2, hc.1, hc.2⟩, ⟨⟨hm.1, hm.2⟩, hl.1⟩, hl.2⟩
theorem chk5_parts {labs : List Lab} (h : chk5 labs = true) : labsC 5 labs = true ∧ alikeC 5 3 labs = true ∧ alikeC 5 1 labs = true ∧ alikeC 5 0 labs = true := by unfold chk5 at h; simpa [Bool.and_eq_true, and_assoc] using h
theorem chk3_parts {labs : List Lab} (h : chk3 labs = true) : labsC 3 labs = true ∧ alikeC 3 1 labs = true ∧ alikeC 3 0 labs = true := by unfold chk3 at h; simpa [Bool.and_eq_true, and_assoc] using h
theorem chk1_parts {labs : List Lab} (h : chk1 labs = true) : labsC 1 labs = true ∧ alikeC 1 0 labs = true := by unfold chk1 at h; simpa [Bool.and_eq_true, and_assoc] using h
theorem byte_le (x : UInt8) : 0 ≤ (x.toNat : Int) ∧ (x.toNat : Int) ≤ 255 := by have := x.toNat_lt; omega
/-- A scheme made of these levels is right, whatever the numbers are. -/
theorem made_gen (f5 f3 f1 : Bool) (labs5 labs3 labs1 : List Lab) (h5 : chk5 labs5 = true) (h3 : chk3 labs3 = true) (h1 : chk1 labs1 = true) (s5 : labs5.length ≤ 5) (s3 : labs3.length ≤ 6) (s1 : labs1.length ≤ 3) (m5 m3 m1 c5 c3 c1 c0 : Int) (hm5 : 1 ≤ m5 ∧ m5 ≤ 2000) (hm3 : 1 ≤ m3 ∧ m3 ≤ 2000) (hm1 : 1 ≤ m1 ∧ m1 ≤ 2000) (hc5 : 0 ≤ c5 ∧ c5 ≤ 1000000) (hc3 : 0 ≤ c3 ∧ c3 ≤ 1000000) (hc1 : 0 ≤ c1 ∧ c1 ≤ 1000000) (hc0 : 0 ≤ c0 ∧ c0 ≤ 1000000) :
    rightC ((if f5 then [⟨⟨#[102, 105, 118, 101]⟩, 5, labs5, m5, c5⟩] else []) ++ (if f3 then [⟨⟨#[116, 104, 114, 101, 101]⟩, 3, labs3, m3, c3⟩] else []) ++ (if f1 then [⟨⟨#[111, 110, 101]⟩, 1, labs1, m1, c1⟩] else []) ++ [⟨⟨#[97, 108, 108]⟩, 0, [], 0, c0⟩]) = true := by
  obtain ⟨a0, a1, a2, a3⟩ := chk5_parts h5
  obtain ⟨b0, b1, b2⟩ := chk3_parts h3
  obtain ⟨d0, d1⟩ := chk1_parts h1
  have L5 : levelC ⟨⟨#[102, 105, 118, 101]⟩, 5, labs5, m5, c5⟩ false = true := level_labs (by kernel_rfl) ⟨by show (0 : Int) ≤ 5; decide, by show (5 : Int) ≤ 10; decide⟩ hm5 hc5 a0
  have L3 : levelC ⟨⟨#[116, 104, 114, 101, 101]⟩, 3, labs3, m3, c3⟩ false = true := level_labs (by kernel_rfl) ⟨by show (0 : Int) ≤ 3; decide, by show (3 : Int) ≤ 10; decide⟩ hm3 hc3 b0
  have L1 : levelC ⟨⟨#[111, 110, 101]⟩, 1, labs1, m1, c1⟩ false = true := level_labs (by kernel_rfl) ⟨by show (0 : Int) ≤ 1; decide, by show (1 : Int) ≤ 10; decide⟩ hm1 hc1 d0
  have L0 : levelC ⟨⟨#[97, 108, 108]⟩, 0, [], 0, c0⟩ true = true := by
    unfold levelC headB
    have : nameB ⟨#[97, 108, 108]⟩ = true := by kernel_rfl
    simp [this, hc0.1, hc0.2]
  have N53 : nestC ⟨⟨#[102, 105, 118, 101]⟩, 5, labs5, m5, c5⟩ ⟨⟨#[116, 104, 114, 101, 101]⟩, 3, labs3, m3, c3⟩ = true := nest_alike a1
  have N51 : nestC ⟨⟨#[102, 105, 118, 101]⟩, 5, labs5, m5, c5⟩ ⟨⟨#[111, 110, 101]⟩, 1, labs1, m1, c1⟩ = true := nest_alike a2
  have N50 : nestC ⟨⟨#[102, 105, 118, 101]⟩, 5, labs5, m5, c5⟩ ⟨⟨#[97, 108, 108]⟩, 0, [], 0, c0⟩ = true := nest_alike a3
  have N31 : nestC ⟨⟨#[116, 104, 114, 101, 101]⟩, 3, labs3, m3, c3⟩ ⟨⟨#[111, 110, 101]⟩, 1, labs1, m1, c1⟩ = true := nest_alike b1
  have N30 : nestC ⟨⟨#[116, 104, 114, 101, 101]⟩, 3, labs3, m3, c3⟩ ⟨⟨#[97, 108, 108]⟩, 0, [], 0, c0⟩ = true := nest_alike b2
  have N10 : nestC ⟨⟨#[111, 110, 101]⟩, 1, labs1, m1, c1⟩ ⟨⟨#[97, 108, 108]⟩, 0, [], 0, c0⟩ = true := nest_alike d1
  have e1 : decide ((⟨#[102, 105, 118, 101]⟩ : ByteArray) = ⟨#[116, 104, 114, 101, 101]⟩) = false := by kernel_rfl
  have e2 : decide ((⟨#[102, 105, 118, 101]⟩ : ByteArray) = ⟨#[111, 110, 101]⟩) = false := by kernel_rfl
  have e3 : decide ((⟨#[102, 105, 118, 101]⟩ : ByteArray) = ⟨#[97, 108, 108]⟩) = false := by kernel_rfl
  have e4 : decide ((⟨#[116, 104, 114, 101, 101]⟩ : ByteArray) = ⟨#[111, 110, 101]⟩) = false := by kernel_rfl
  have e5 : decide ((⟨#[116, 104, 114, 101, 101]⟩ : ByteArray) = ⟨#[97, 108, 108]⟩) = false := by kernel_rfl
  have e6 : decide ((⟨#[111, 110, 101]⟩ : ByteArray) = ⟨#[97, 108, 108]⟩) = false := by kernel_rfl
  cases f5 <;> cases f3 <;> cases f1
  all_goals
    simp only [Bool.false_eq_true, if_false, if_true, List.nil_append, List.cons_append]
    unfold rightC
    simp only [levelsC, namesC, chainC, L5, L3, L1, L0, N53, N51, N50, N31, N30, N10, e1, e2, e3, e4, e5, e6, List.all_cons, List.all_nil, Bool.not_false, Bool.and_true, Bool.and_self]
    simp
    try omega
theorem made_right (B : Bits) (least cents : List UInt8) : rightB (madeR B least cents) = true := by
  rw [rightB_eq]
  have hb : ∀ l : List UInt8, ∀ i, 1 ≤ 1 + ((l.getD i 0).toNat : Int) ∧ 1 + ((l.getD i 0).toNat : Int) ≤ 2000 := fun l i => by have := byte_le (l.getD i 0); omega
  have hc : ∀ l : List UInt8, ∀ i, 0 ≤ ((l.getD i 0).toNat : Int) ∧ ((l.getD i 0).toNat : Int) ≤ 1000000 := fun l i => by have := byte_le (l.getD i 0); omega
  obtain ⟨m5, c5, e1⟩ : ∃ i j : Nat, mk1 B least cents = if B.f5 then [⟨⟨#[102, 105, 118, 101]⟩, 5, sel pre5 lab5 B.b5 5, 1 + ((least.getD i 0).toNat : Int), ((cents.getD j 0).toNat : Int)⟩] else [] := ⟨0, 0, by unfold mk1 addL lev5; rfl⟩
  obtain ⟨m3, c3, e2⟩ : ∃ i j : Nat, mk2 B least cents = mk1 B least cents ++ if B.f3 then [⟨⟨#[116, 104, 114, 101, 101]⟩, 3, sel pre3 lab3 B.b3 6, 1 + ((least.getD i 0).toNat : Int), ((cents.getD j 0).toNat : Int)⟩] else [] := ⟨(mk1 B least cents).length, (mk1 B least cents).length, by unfold mk2 addL lev3; split <;> simp⟩
  obtain ⟨m1, c1, e3⟩ : ∃ i j : Nat, mk3 B least cents = mk2 B least cents ++ if B.f1 then [⟨⟨#[111, 110, 101]⟩, 1, sel pre1 lab1 B.b1 3, 1 + ((least.getD i 0).toNat : Int), ((cents.getD j 0).toNat : Int)⟩] else [] := ⟨(mk2 B least cents).length, (mk2 B least cents).length, by unfold mk3 addL lev1; split <;> simp⟩
  unfold madeR
  generalize (mk3 B least cents).length = n0
  rw [e3, e2, e1]
  exact made_gen B.f5 B.f3 B.f1 _ _ _ (ok5 _) (ok3 _) (ok1 _) (sel_len _ _ _ _) (sel_len _ _ _ _) (sel_len _ _ _ _) _ _ _ _ _ _ _ (hb _ _) (hb _ _) (hb _ _) (hc _ _) (hc _ _) (hc _ _) (hc _ _)
theorem extract_extract (c : ByteArray) {n m : Nat} (h : m ≤ n) : (c.extract 0 n).extract 0 m = c.extract 0 m := by
  apply ba_inj
  simp
  omega
theorem plain_extract {c : ByteArray} (h : plainB c = true) (n : Nat) : plainB (c.extract 0 n) = true := by
  unfold plainB allB at *
  rw [List.all_eq_true] at *
  intro x hx
  refine h x ?_
  have : (c.extract 0 n).data.toList = c.data.toList.take n := by simp
  rw [this] at hx
  exact List.mem_of_mem_take hx
/-- Codes that share a group share the one at the next level. -/
theorem nest_share {l next : Lev} (hn : nestedP l next) (h0 : 0 ≤ next.pre) (h1 : next.pre ≤ l.pre) {c d : ByteArray} (hpc : plainB c = true) (hpd : plainB d = true) (hc : l.pre ≤ c.size) (hd : l.pre ≤ d.size) (h : grpOf l c = grpOf l d) : grpOf next c = grpOf next d := by
  have up : ∀ x : ByteArray, grpOf next (x.extract 0 l.pre.toNat) = grpOf next x := fun x => by unfold grpOf; rw [extract_extract x (by omega)]
  rw [← up c, ← up d]
  have sz : ∀ x : ByteArray, l.pre ≤ x.size → ((x.extract 0 l.pre.toNat).size : Int) = l.pre := fun x hx => by rw [ByteArray.size_extract]; omega
  have mem : ∀ (x y : ByteArray), labOf l.labs x = some y → (y, x) ∈ l.labs.flatMap (pairsL l) := fun x y hxy => by
    unfold labOf at hxy
    cases hf : l.labs.find? (fun z => decide (z.pre = x)) with
    | none => rw [hf] at hxy; cases hxy
    | some z =>
      rw [hf] at hxy
      have hz := List.mem_of_find?_eq_some hf
      have hzp : z.pre = x := by simpa using List.find?_some hf
      have hzg : z.grp = y := by simpa using hxy
      exact List.mem_flatMap.2 ⟨z, hz, by unfold pairsL; rw [hzp, hzg]; exact List.mem_cons_self⟩
  have own : ∀ (x y : ByteArray), labOf l.labs x = some y → (y.size : Int) = l.pre → plainB y = true → labOf l.labs y = none → (y, y) ∈ l.labs.flatMap (pairsL l) := fun x y hxy h1 h2 h3 => by
    unfold labOf at hxy
    cases hf : l.labs.find? (fun z => decide (z.pre = x)) with
    | none => rw [hf] at hxy; cases hxy
    | some z =>
      rw [hf] at hxy
      have hz := List.mem_of_find?_eq_some hf
      have hzg : z.grp = y := by simpa using hxy
      refine List.mem_flatMap.2 ⟨z, hz, ?_⟩
      unfold pairsL ownB
      rw [hzg, h3, h2]
      simp [h1]
  unfold grpOf at h
  have sc := sz c hc
  have sd := sz d hd
  have pc := plain_extract hpc l.pre.toNat
  have pd := plain_extract hpd l.pre.toNat
  generalize c.extract 0 l.pre.toNat = x at h sc pc
  generalize d.extract 0 l.pre.toNat = y at h sd pd
  clear sz up
  cases e1 : labOf l.labs x with
  | some a =>
    rw [e1] at h
    cases e2 : labOf l.labs y with
    | some b =>
      rw [e2, Option.getD_some, Option.getD_some] at h
      subst h
      exact hn (a, x) (mem x a e1) (a, y) (mem y a e2) rfl
    | none =>
      rw [e2, Option.getD_some, Option.getD_none] at h
      subst h
      exact hn (a, x) (mem x a e1) (a, a) (own x a e1 sd pd e2) rfl
  | none =>
    rw [e1] at h
    cases e2 : labOf l.labs y with
    | some b =>
      rw [e2, Option.getD_some, Option.getD_none] at h
      subst h
      exact hn (x, x) (own y x e2 sc pc e1) (x, y) (mem y x e2) rfl
    | none =>
      rw [e2, Option.getD_none, Option.getD_none] at h
      rw [h]
end Go.Proofs.Ytdahgfopighhlaa
