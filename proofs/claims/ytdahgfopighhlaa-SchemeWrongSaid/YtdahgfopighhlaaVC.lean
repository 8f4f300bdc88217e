/-
  Plain laws of SchemeWrong, and contracts at arguments that are wrong.
-/
import Derived.Test.YtdahgfopighhlaaVA
import Derived.Test.YtdahgfopighhlaaV4
namespace Go.Proofs.Ytdahgfopighhlaa
open Go.RowKit
set_option linter.unusedVariables false
set_option maxRecDepth 100000
theorem bits_u32 (a : Nat) (ha : a < 4294967296) : bits .or .u32 (a : Int) 1 = ((a ||| 1 : Nat) : Int) ∧ bits .and .u32 (a : Int) 1 = ((a &&& 1 : Nat) : Int) := by
  have h1 : (BitVec.ofInt 32 (a : Int)).toNat = a := by
    rw [BitVec.ofInt_natCast, BitVec.toNat_ofNat]; exact Nat.mod_eq_of_lt (by omega)
  have h2 : (BitVec.ofInt 32 (1 : Int)).toNat = 1 := by decide
  have hw : ∀ n : Int, IntKind.u32.wrap n = n % 4294967296 := fun n => by simp [IntKind.wrap, IntKind.bits, IntKind.signed]
  have ho : a ||| 1 < 2 ^ 32 := Nat.or_lt_two_pow (by omega) (by decide)
  have ho2 : a &&& 1 ≤ 1 := Nat.and_le_right
  constructor
  · show IntKind.u32.wrap ((BitVec.ofInt 32 (a : Int) ||| BitVec.ofInt 32 1).toNat : Int) = _
    rw [BitVec.toNat_or, h1, h2, hw]
    omega
  · show IntKind.u32.wrap ((BitVec.ofInt 32 (a : Int) &&& BitVec.ofInt 32 1).toNat : Int) = _
    rw [BitVec.toNat_and, h1, h2, hw]
    omega
theorem or_one {n : Int} (h0 : 0 ≤ n) (h1 : n < 4294967296) : 0 ≤ bits .or .u32 n 1 ∧ bits .or .u32 n 1 < 4294967296 ∧ (bitsOf (bits .or .u32 n 1)).f5 = true := by
  obtain ⟨a, rfl⟩ : ∃ a : Nat, n = (a : Int) := ⟨n.toNat, by omega⟩
  have ha : a < 4294967296 := by omega
  have ho : a ||| 1 < 2 ^ 32 := Nat.or_lt_two_pow (by omega) (by decide)
  rw [(bits_u32 a ha).1]
  refine ⟨by omega, by omega, ?_⟩
  show bt ((a ||| 1 : Nat) : Int) 1 = true
  unfold bt
  rw [(bits_u32 (a ||| 1) (by omega)).2]
  have : (a ||| 1) &&& 1 = 1 := by
    rw [Nat.and_one_is_mod, Nat.or_mod_two_eq_one]
    exact .inr rfl
  rw [this]
  decide
theorem wrong_level {ls : List Lev} {i : Nat} (hi : i < ls.length) {l' : Lev} (h : levelC l' (decide (i + 1 = ls.length)) = false) : rightB (ls.set i l') = false := by
  cases hr : rightB (ls.set i l')
  · rfl
  · obtain ⟨_, _, ⟨_, hlv, _, _⟩, _⟩ := rightB_iff.1 hr
    have := hlv i (by rw [List.length_set]; exact hi) (by rw [List.length_set]; exact hi)
    rw [levelB_eq, List.getElem_set_self, List.length_set, h] at this
    cases this
theorem wrong_name {ls : List Lev} {i j : Nat} (hi : i < ls.length) (hj : j < i) {l' : Lev} (h : l'.name = (ls[j]'(by omega)).name) : rightB (ls.set i l') = false := by
  cases hr : rightB (ls.set i l')
  · rfl
  · obtain ⟨_, _, ⟨_, _, hn, _⟩, _⟩ := rightB_iff.1 hr
    exfalso
    have := hn i (by rw [List.length_set]; exact hi) (by rw [List.length_set]; exact hi) j hj (by rw [List.length_set]; omega)
    rw [List.getElem_set_self, List.getElem_set_ne (by omega)] at this
    exact this h.symm
theorem wrong_nil : rightB [] = false := by
  cases hr : rightB [] with
  | false => rfl
  | true => have := (right_len hr).1; simp at this
/-- The first of the made levels. -/
theorem made_first {B : Bits} (h : B.f5 = true) : ∃ labs r, madeR B [] [] = ⟨⟨#[102, 105, 118, 101]⟩, 5, labs, 1, 0⟩ :: r ∧ 1 ≤ r.length := by
  refine ⟨sel pre5 lab5 B.b5 5, _, by rw [made_told, h]; rfl, ?_⟩
  simp
  omega
def wrongA : ByteArray := ⟨#[65]⟩
/-- The twelve defects. -/
def defectL (ls : List Lev) (code : ByteArray) (d : Nat) : List Lev :=
  match ls with
  | [] => []
  | l0 :: r => match d with
    | 0 => []
    | 1 => (l0 :: r).set 0 { l0 with name := ⟨#[]⟩ }
    | 2 => (l0 :: r).set r.length { (lv (l0 :: r) r.length) with name := l0.name }
    | 3 => (l0 :: r).set 0 { l0 with pre := 11 }
    | 4 => (l0 :: r).set 0 { l0 with pre := -1 }
    | 5 => (l0 :: r).set 0 { l0 with min := 0 }
    | 6 => (l0 :: r).set r.length { (lv (l0 :: r) r.length) with min := 1 }
    | 7 => (l0 :: r).set r.length { (lv (l0 :: r) r.length) with pre := 1 }
    | 8 => (l0 :: r).set 0 { l0 with cents := -1 }
    | 9 => (l0 :: r).set 0 { l0 with labs := [⟨code, wrongA⟩, ⟨code, wrongA⟩] }
    | 10 => (l0 :: r).set 0 { l0 with labs := [⟨⟨#[49, 50, 51, 52]⟩, wrongA⟩] }
    | _ => (l0 :: r).set r.length { (lv (l0 :: r) r.length) with labs := [⟨⟨#[]⟩, wrongA⟩] }
theorem headC_false {l : Lev} {b : Bool} (h : headB l = false) : levelC l b = false := by unfold levelC; rw [h]; rfl
theorem defect_wrong {l0 : Lev} {r : List Lev} (h5 : l0.pre = 5) (hr : 1 ≤ r.length) (code : ByteArray) (d : Nat) : rightB (defectL (l0 :: r) code d) = false := by
  have hz : decide (0 + 1 = (l0 :: r).length) = false := by simp; intro h; subst h; simp at hr
  have hl : decide (r.length + 1 = (l0 :: r).length) = true := by simp
  unfold defectL
  dsimp only
  split
  · exact wrong_nil
  · exact wrong_level (by simp) (headC_false (by unfold headB; have : nameB ⟨#[]⟩ = false := by kernel_rfl
                                                 rw [this]; rfl))
  · exact wrong_name (j := 0) (by simp) (by omega) rfl
  · exact wrong_level (by simp) (headC_false (by unfold headB; simp))
  · exact wrong_level (by simp) (headC_false (by unfold headB; simp))
  · exact wrong_level (by simp) (by rw [hz]; unfold levelC; simp)
  · exact wrong_level (by simp) (by rw [hl]; unfold levelC; simp)
  · exact wrong_level (by simp) (by rw [hl]; unfold levelC; simp)
  · exact wrong_level (by simp) (headC_false (by unfold headB; simp))
  · exact wrong_level (by simp) (by rw [hz]; unfold levelC; simp [sortedC, ltB_irrefl])
  · exact wrong_level (by simp) (by
      rw [hz]
      unfold levelC
      have : labOk { l0 with labs := [⟨⟨#[49, 50, 51, 52]⟩, wrongA⟩] } ⟨⟨#[49, 50, 51, 52]⟩, wrongA⟩ = false := by
        unfold labOk
        dsimp only
        rw [h5]
        rfl
      simp [this])
  · exact wrong_level (by simp) (by rw [hl]; unfold levelC; simp)
theorem set_fits {ls : List Lev} {i : Nat} {l' : Lev} (h : ∀ l ∈ ls, LevFits l) (h' : LevFits l') : ∀ l ∈ ls.set i l', LevFits l := fun l hl => by
  rcases List.mem_or_eq_of_mem_set hl with hl | rfl
  · exact h l hl
  · exact h'
theorem lv_mem {ls : List Lev} {i : Nat} (h : i < ls.length) : lv ls i ∈ ls := by rw [lv_get h]; exact List.getElem_mem h
theorem defect_fits {l0 : Lev} {r : List Lev} (h : ∀ l ∈ l0 :: r, LevFits l) {code : ByteArray} (hc : code.size ≤ maxLen) (d : Nat) : (∀ l ∈ defectL (l0 :: r) code d, LevFits l) ∧ (defectL (l0 :: r) code d).length ≤ (l0 :: r).length := by
  have f0 := h l0 List.mem_cons_self
  have f1 := h _ (lv_mem (ls := l0 :: r) (i := r.length) (by simp))
  have m0 : (0 : Nat) ≤ maxLen := Nat.zero_le _
  unfold defectL
  dsimp only
  split
  · exact ⟨fun l hl => absurd hl (by simp), Nat.zero_le _⟩
  all_goals refine ⟨set_fits h ?_, by simp⟩
  · exact ⟨m0, f0.2.1, f0.2.2⟩
  · exact ⟨f0.1, f1.2.1, f1.2.2⟩
  · exact f0
  · exact f0
  · exact f0
  · exact f1
  · exact f1
  · exact f0
  · refine ⟨f0.1, by simp, fun x hx => ?_⟩
    simp at hx
    subst hx
    exact ⟨hc, by show wrongA.size ≤ maxLen; decide⟩
  · refine ⟨f0.1, by simp, fun x hx => ?_⟩
    simp at hx
    subst hx
    exact ⟨by decide, by decide⟩
  · refine ⟨f1.1, by simp, fun x hx => ?_⟩
    simp at hx
    subst hx
    exact ⟨by decide, by decide⟩
theorem path_err (ls : List Lev) (v : Value) (c : ByteArray) (e : Int) (w W : World) (hr : RdLevs W v ls) (hf : ∀ l ∈ ls, LevFits l) (hl : ls.length ≤ 6) (hc : c.size ≤ 100) (hp : pathR ls c = ([], e)) (hw : Below w.heap.size w W) :
    Calls Try.prog 17 #[v, .string c] W fun e' w' => ∃ a cap, e' = .returned (.tuple #[.slice a 0 cap, .int .i64 e]) ∧ Below w.heap.size w w' ∧ Below W.heap.size W w' := by
  refine (path_any ls v c W hr hf (by unfold maxLen; omega) (by unfold maxLen; omega)).mono ?_
  rintro e' w' ⟨v', rfl, hb, ho⟩
  rw [hp] at ho ⊢
  obtain ⟨a, cap, rfl⟩ := OwnsT.form ho
  exact ⟨a, cap, rfl, below_c hw hw.size hb, hb⟩
theorem find_err (ls : List Lev) (v : Value) (c : ByteArray) (e : Int) (w W : World) (hr : RdLevs W v ls) (hf : ∀ l ∈ ls, LevFits l) (hl : ls.length ≤ 6) (hc : c.size ≤ 100) (hp : findR ls 0 c = (⟨#[]⟩, e)) (hw : Below w.heap.size w W) :
    Calls Try.prog 19 #[v, .int .i64 0, .string c] W fun e' w' => e' = .returned (.tuple #[.string ⟨#[]⟩, .int .i64 e]) ∧ Below w.heap.size w w' ∧ Below W.heap.size W w' := by
  refine (find_any ls v 0 c W hr hf (by unfold maxLen; omega) (by unfold maxLen; omega)).mono ?_
  rintro e' w' ⟨rfl, hb⟩
  rw [hp]
  exact ⟨rfl, below_c hw hw.size hb, hb⟩
theorem groups_err (ls : List Lev) (v vc : Value) (cs : List ByteArray) (e : Int) (w W : World) (hr : RdLevs W v ls) (hf : ∀ l ∈ ls, LevFits l) (hl : ls.length ≤ 6) (hrc : ReadsT W vc cs) (hcl : cs.length ≤ 2) (hcz : ∀ c ∈ cs, c.size ≤ 100) (hp : groupsR ls cs = ([], e)) (hw : Below w.heap.size w W) :
    Calls Try.prog 14 #[v, vc] W fun e' w' => ∃ a cap, e' = .returned (.tuple #[.slice a 0 cap, .int .i64 e]) ∧ Below w.heap.size w w' ∧ Below W.heap.size W w' := by
  have := groups_any ls v vc cs W hr hf (by unfold maxLen; omega) hrc (by unfold maxLen; omega) (fun c hc => by have := hcz c hc; unfold maxLen; omega)
  rw [hp] at this
  refine this.mono ?_
  rintro e' w' ⟨v', rfl, hb, ho⟩
  obtain ⟨a, cap, rfl⟩ := ho.len
  exact ⟨a, cap, rfl, below_c hw hw.size hb, hb⟩
theorem right_no (ls : List Lev) (v : Value) (w W : World) (hr : RdLevs W v ls) (hf : ∀ l ∈ ls, LevFits l) (hl : ls.length ≤ 6) (h : rightB ls = false) (hw : Below w.heap.size w W) :
    Calls Try.prog 13 #[v] W fun e w' => e = .returned (.bool false) ∧ Below w.heap.size w w' ∧ Below W.heap.size W w' := by
  refine (right_any ls v W hr hf (by unfold maxLen; omega)).mono ?_
  rintro e w' ⟨rfl, hb⟩
  rw [h]
  exact ⟨rfl, below_c hw hw.size hb, hb⟩
theorem wrong_all {ls : List Lev} (h : rightB ls = false) (c : ByteArray) : findR ls 0 c = (⟨#[]⟩, 2) ∧ pathR ls c = ([], 2) ∧ groupsR ls [c] = ([], 2) := by
  refine ⟨?_, ?_, ?_⟩
  · unfold findR; rw [if_neg (by rw [h]; simp)]
  · unfold pathR; rw [if_neg (by rw [h]; simp)]
  · unfold groupsR; rw [if_neg (by simp), if_neg (by rw [h]; simp)]
def badC (k : Nat) : ByteArray := match k with | 0 => ⟨#[]⟩ | 1 => ⟨#[49, 48, 48, 50, 97]⟩ | 2 => ⟨#[49, 50, 51, 52, 53, 54, 55, 56, 57, 48, 49]⟩ | _ => ⟨#[49, 48, 48, 50]⟩
def badE (k : Nat) : Int := match k with | 0 => 2 | 1 => 2 | 2 => 2 | _ => 6
theorem bad_all {l0 : Lev} {r : List Lev} (h : rightB (l0 :: r) = true) (h5 : l0.pre = 5) {code : ByteArray} (hc : codeB code = true) (hs : code.size = 5) (k : Nat) (hk : k < 4) : findR (l0 :: r) 0 (badC k) = (⟨#[]⟩, badE k) ∧ pathR (l0 :: r) (badC k) = ([], badE k) ∧ groupsR (l0 :: r) [code, badC k] = ([], badE k) ∧ (badC k).size ≤ 100 := by
  have no : ∀ c : ByteArray, codeB c = false → findR (l0 :: r) 0 c = (⟨#[]⟩, 2) ∧ pathR (l0 :: r) c = ([], 2) ∧ groupsR (l0 :: r) [code, c] = ([], 2) := fun c hcc => by
    refine ⟨?_, ?_, ?_⟩
    · unfold findR; rw [if_neg (by rw [hcc]; simp)]
    · unfold pathR; rw [if_neg (by rw [hcc]; simp)]
    · unfold groupsR; rw [if_neg (by simp), if_neg (by simp [hcc])]
  match k, hk with
  | 0, _ => obtain ⟨a, b, c⟩ := no (badC 0) (by kernel_rfl); exact ⟨a, b, c, by decide⟩
  | 1, _ => obtain ⟨a, b, c⟩ := no (badC 1) (by kernel_rfl); exact ⟨a, b, c, by decide⟩
  | 2, _ => obtain ⟨a, b, c⟩ := no (badC 2) (by kernel_rfl); exact ⟨a, b, c, by decide⟩
  | 3, _ =>
    have hb : codeB (badC 3) = true := by kernel_rfl
    have hz : (badC 3).size = 4 := rfl
    refine ⟨?_, ?_, ?_, by decide⟩
    · unfold findR
      rw [if_pos ⟨h, by omega, by simp, hb⟩]
      simp only [Int.toNat_zero, List.getElem?_cons_zero]
      rw [if_pos (by rw [hz, h5]; decide)]
      rfl
    · unfold pathR
      rw [if_pos ⟨h, hb⟩]
      dsimp only
      rw [if_pos (by rw [hz, h5]; decide)]
      rfl
    · unfold groupsR
      rw [if_neg (by simp), if_pos ⟨h, by simp [hc, hb]⟩, if_pos]
      · rfl
      · rw [List.any_eq_true]
        refine ⟨badC 3, by simp, ?_⟩
        unfold shortB
        simp [hz, h5]
end Go.Proofs.Ytdahgfopighhlaa
