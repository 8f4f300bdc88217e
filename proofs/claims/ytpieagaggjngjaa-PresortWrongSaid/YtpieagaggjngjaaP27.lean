/-
  Plain laws of PresortWrong.
-/
import Derived.Test.YtpieagaggjngjaaP25
import Derived.Test.YtpieagaggjngjaaWE
namespace Go.Proofs.Ytpieagaggjngjaa
open Go.RowKit
set_option linter.unusedVariables false
set_option maxRecDepth 100000
theorem bits_u32 (a : Nat) (ha : a < 4294967296) : bits .or .u32 (a : Int) 1 = ((a ||| 1 : Nat) : Int) ∧ bits .and .u32 (a : Int) 1 = ((a &&& 1 : Nat) : Int) := by
  have h1 : (BitVec.ofInt 32 (a : Int)).toNat = a := by
    rw [BitVec.ofInt_natCast, BitVec.toNat_ofNat]; exact Nat.mod_eq_of_lt (by omega)
  have h2 : (BitVec.ofInt 32 (1 : Int)).toNat = 1 := by decide
  have hw : ∀ n : Int, IntKind.u32.wrap n = n % 4294967296 := fun n => by simp [IntKind.wrap, IntKind.bits, IntKind.signed]
  have ho : a ||| 1 < 2 ^ 32 := Nat.or_lt_two_pow (by omega) (by decide)
  have ho2 : a &&& 1 ≤ 1 := Nat.and_le_right
  constructor
  · show IntKind.u32.wrap ((BitVec.ofInt 32 (a : Int) ||| BitVec.ofInt 32 1).toNat : Int) = _
    rw [BitVec.toNat_or, h1, h2, hw]
    omega
  · show IntKind.u32.wrap ((BitVec.ofInt 32 (a : Int) &&& BitVec.ofInt 32 1).toNat : Int) = _
    rw [BitVec.toNat_and, h1, h2, hw]
    omega
theorem or_one {n : Int} (h0 : 0 ≤ n) (h1 : n < 4294967296) : 0 ≤ bits .or .u32 n 1 ∧ bits .or .u32 n 1 < 4294967296 ∧ (bitsOf (bits .or .u32 n 1)).f5 = true := by
  obtain ⟨a, rfl⟩ : ∃ a : Nat, n = (a : Int) := ⟨n.toNat, by omega⟩
  have ha : a < 4294967296 := by omega
  have ho : a ||| 1 < 2 ^ 32 := Nat.or_lt_two_pow (by omega) (by decide)
  rw [(bits_u32 a ha).1]
  refine ⟨by omega, by omega, ?_⟩
  show bt ((a ||| 1 : Nat) : Int) 1 = true
  unfold bt
  rw [(bits_u32 (a ||| 1) (by omega)).2]
  have : (a ||| 1) &&& 1 = 1 := by
    rw [Nat.and_one_is_mod, Nat.or_mod_two_eq_one]
    exact .inr rfl
  rw [this]
  decide
theorem made_first25 {B : Bits} (h : B.f5 = true) : ∃ l0 r, madeR B [] [] = l0 :: r ∧ l0.pre = 5 ∧ 1 ≤ r.length := by
  unfold madeR mk3 mk2 mk1 addL lev5
  rw [h]
  cases B.f3 <;> cases B.f1 <;> exact ⟨_, _, rfl, rfl, by simp⟩
/-- The defects of a scheme, and of a mailing. -/
def wrL (d : Nat) (ls : List Lev) : List Lev := match d with
  | 0 => ls.take (ls.length - 1)
  | 5 => ls.take 1 ++ ls
  | _ => ls
def wrP (d : Nat) (ps : List Pce) : List Pce := match ps with
  | [] => []
  | p :: r => match d with
    | 1 => { p with id := 0 } :: r
    | 2 => { p with code := ⟨#[120]⟩ } :: r
    | 4 => { p with code := ⟨#[49, 48, 48, 48]⟩ } :: r
    | _ => p :: r
def wrM (d : Nat) (m : Mai) : Mai := ⟨m.cls, if d = 3 then 0 else m.ctr, m.origin, wrP d m.ps⟩
theorem wrL_0 {ls : List Lev} (h : rightB ls = true) (h2 : 2 ≤ ls.length) : rightB (ls.take (ls.length - 1)) = false := by
  cases hr : rightB (ls.take (ls.length - 1)) with
  | false => rfl
  | true =>
    have hl : (ls.take (ls.length - 1)).length = ls.length - 1 := by rw [List.length_take]; omega
    have h3 := last_min hr (by omega)
    have h4 := (mid_min h (i := ls.length - 2) (by omega)).1
    have e : (ls.take (ls.length - 1))[(ls.take (ls.length - 1)).length - 1]'(by omega) = ls[ls.length - 2]'(by omega) := by
      rw [List.getElem_take]
      congr 1
      omega
    rw [e] at h3
    omega
theorem wrL_5 {ls : List Lev} (h1 : 1 ≤ ls.length) : rightB (ls.take 1 ++ ls) = false := by
  cases hr : rightB (ls.take 1 ++ ls) with
  | false => rfl
  | true =>
    obtain ⟨_, _, ⟨_, _, hn, _⟩, _⟩ := rightB_iff.1 hr
    obtain ⟨l0, r, rfl⟩ : ∃ l0 r, ls = l0 :: r := by
      cases ls with
      | nil => simp at h1
      | cons l0 r => exact ⟨l0, r, rfl⟩
    have := hn 1 (by simp) (by simp) 0 (by omega) (by simp)
    simp at this
theorem codeB_4 : codeB ⟨#[49, 48, 48, 48]⟩ = true := by kernel_rfl
theorem codeB_x : codeB ⟨#[120]⟩ = false := by kernel_rfl
theorem wrong_state {ls : List Lev} {m : Mai} {d : Nat} (hd : d < 6) (h : HasPlan ls m) (h2 : 2 ≤ ls.length) (h5 : ∀ l ∈ ls.take 1, l.pre = 5) (hp : 1 ≤ m.ps.length) :
    (rightB (wrL d ls) = true → mailB (wrM d m) = true → (codesM (wrM d m).ps).any (shortB (wrL d ls)) = true) ∧ planErr (wrL d ls) (wrM d m) = (if d = 4 then 6 else 2) ∧ ∀ zs : List Int, (d = 4 → zs.length = m.ps.length ∧ numsB ls.length zs = true) → validR (wrL d ls) (wrM d m) zs = (false, if d = 4 then 6 else 2) := by
  have bad : ∀ d, d ≠ 4 → (rightB (wrL d ls) = false ∨ mailB (wrM d m) = false) → (rightB (wrL d ls) = true → mailB (wrM d m) = true → (codesM (wrM d m).ps).any (shortB (wrL d ls)) = true) ∧ planErr (wrL d ls) (wrM d m) = (if d = 4 then 6 else 2) ∧ ∀ zs : List Int, (d = 4 → zs.length = m.ps.length ∧ numsB ls.length zs = true) → validR (wrL d ls) (wrM d m) zs = (false, if d = 4 then 6 else 2) := fun d hd4 hb => by
    have hn : ¬ (rightB (wrL d ls) = true ∧ mailB (wrM d m) = true) := fun ⟨a, b⟩ => by
      rcases hb with hb | hb
      · rw [hb] at a; cases a
      · rw [hb] at b; cases b
    refine ⟨fun a b => absurd ⟨a, b⟩ hn, ?_, fun zs _ => ?_⟩
    · unfold planErr
      rw [if_neg hn, if_neg hd4]
    · unfold validR
      rw [if_neg (fun ⟨a, b, _⟩ => hn ⟨a, b⟩), if_neg hd4]
  obtain ⟨hcls, hctr, horg, hlen, hpcs⟩ : (1 ≤ m.cls) ∧ (1 ≤ m.ctr ∧ m.ctr ≤ 3) ∧ codeB m.origin = true ∧ m.ps.length ≤ 2000 ∧ pcsB 0 m.ps = true := by
    have := h.mail
    unfold mailB at this
    simp only [Bool.and_eq_true, decide_eq_true_eq] at this
    obtain ⟨⟨a, b, c⟩, d, e, f⟩ := this
    exact ⟨a, ⟨b, c⟩, d, e, f⟩
  obtain ⟨p, r, hpr⟩ : ∃ p r, m.ps = p :: r := by
    cases hm : m.ps with
    | nil => rw [hm] at hp; simp at hp
    | cons p r => exact ⟨p, r, rfl⟩
  have hnot : ∀ d ps', wrP d m.ps = ps' → pcsB 0 ps' = false → mailB (wrM d m) = false := fun d ps' he hf => by
    unfold mailB wrM
    dsimp only
    rw [he, hf]
    simp
  match d, hd with
  | 0, _ => exact bad 0 (by decide) (.inl (wrL_0 h.right h2))
  | 1, _ =>
    refine bad 1 (by decide) (.inr (hnot 1 _ (by rw [hpr]) ?_))
    simp [wrP, pcsB, pcB]
  | 2, _ =>
    refine bad 2 (by decide) (.inr (hnot 2 _ (by rw [hpr]) ?_))
    simp [wrP, pcsB, pcB, codeB_x]
  | 3, _ =>
    refine bad 3 (by decide) (.inr ?_)
    unfold mailB wrM
    simp
  | 4, _ =>
    have hmail : mailB (wrM 4 m) = true := by
      unfold mailB wrM
      simp only [Bool.and_eq_true, decide_eq_true_eq]
      refine ⟨⟨hcls, by simpa using hctr⟩, horg, ?_, ?_⟩
      · rw [hpr] at hlen ⊢; exact hlen
      · rw [hpr] at hpcs ⊢
        unfold wrP
        dsimp only
        unfold pcsB pcB at hpcs ⊢
        simp only [Bool.and_eq_true, decide_eq_true_eq] at hpcs ⊢
        exact ⟨⟨hpcs.1.1, codeB_4, hpcs.1.2.2⟩, hpcs.2⟩
    have hshort : (codesM (wrM 4 m).ps).any (shortB ls) = true := by
      rw [List.any_eq_true]
      refine ⟨⟨#[49, 48, 48, 48]⟩, ?_, ?_⟩
      · unfold wrM codesM
        dsimp only
        rw [hpr]
        simp [wrP]
      · obtain ⟨l0, rr, rfl⟩ : ∃ l0 r, ls = l0 :: r := by
          cases ls with
          | nil => simp at h2
          | cons l0 r => exact ⟨l0, r, rfl⟩
        have := h5 l0 (by simp)
        show decide _ = true
        rw [this]; decide
    refine ⟨fun _ _ => hshort, ?_, fun zs hz => ?_⟩
    · unfold planErr
      rw [if_pos ⟨h.right, hmail⟩, if_pos rfl]
    · obtain ⟨z1, z2⟩ := hz rfl
      unfold validR
      rw [if_pos ⟨h.right, hmail, by rw [z1]; unfold wrM; rw [hpr]; rfl, z2⟩]
      show (if (codesM (wrM 4 m).ps).any (shortB ls) = true then _ else _) = _
      rw [if_pos hshort, if_pos rfl]
  | 5, _ => exact bad 5 (by decide) (.inl (wrL_5 (by omega)))
end Go.Proofs.Ytpieagaggjngjaa
