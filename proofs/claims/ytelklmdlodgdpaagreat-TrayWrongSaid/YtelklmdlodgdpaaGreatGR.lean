import Derived.Test.YtelklmdlodgdpaaGreatGP
import Derived.Test.YtelklmdlodgdpaaGreatRU
import Derived.Test.YtelklmdlodgdpaaGreatGQ
/-! T27 -/
namespace Go.Proofs.YtelklmdlodgdpaaGreat
open Go.RowKit
set_option linter.unusedVariables false
set_option maxRecDepth 100000
theorem last_minT {ls : List Lev} (h : rightB ls = true) (hi : ls.length - 1 < ls.length) : ls[ls.length - 1].min = 0 := by
  obtain ⟨h1, _, ⟨_, hlv, _, _⟩, _⟩ := rightB_iff.1 h
  obtain ⟨_, hh⟩ := levelB_iff.1 (hlv _ hi hi)
  rw [decide_eq_true (by omega)] at hh
  exact hh.1
theorem mid_minT {ls : List Lev} (h : rightB ls = true) {i : Nat} (hi : i + 1 < ls.length) : 1 ≤ (ls[i]'(by omega)).min ∧ (ls[i]'(by omega)).min ≤ 2000 := by
  obtain ⟨h1, _, ⟨_, hlv, _, _⟩, _⟩ := rightB_iff.1 h
  obtain ⟨_, hh⟩ := levelB_iff.1 (hlv i (by omega) (by omega))
  rw [decide_eq_false (by omega)] at hh
  exact hh.1
/-- Without its last level a scheme is not right. -/
theorem cut_wrong {ls : List Lev} (h : rightB ls = true) (h2 : 2 ≤ ls.length) : rightB (ls.take (ls.length - 1)) = false := by
  cases hr : rightB (ls.take (ls.length - 1)) with
  | false => rfl
  | true =>
    have hl : (ls.take (ls.length - 1)).length = ls.length - 1 := by rw [List.length_take]; omega
    have h3 := last_minT hr (by omega)
    have h4 := (mid_minT h (i := ls.length - 2) (by omega)).1
    have e : (ls.take (ls.length - 1))[(ls.take (ls.length - 1)).length - 1]'(by omega) = ls[ls.length - 2]'(by omega) := by
      rw [List.getElem_take]
      congr 1
      omega
    rw [e] at h3
    omega
theorem allR_bad {ls : List Lev} {m : Mai} {zs : List Int} {k : Pck} (h : ¬ (rightB ls = true ∧ mailB m = true ∧ zs.length = m.ps.length ∧ numsB ls.length zs = true)) : allR ls m zs k = 2 := by
  have hv : validR ls m zs = (false, 2) := by
    unfold validR
    rw [if_neg h]
  unfold allR
  rw [hv, if_neg (by decide)]
theorem allR_pack {ls : List Lev} {m : Mai} {zs : List Int} {k : Pck} (h : HasPlan ls m) (hzl : zs.length = m.ps.length) (hn : numsB ls.length zs = true) (hk : pckB k = false) : allR ls m zs k = 2 := by
  unfold allR
  rw [validR_eq h.right h.mail h.pre hzl hn, if_pos rfl, if_neg (by rw [hk]; simp)]
theorem allR_plan {ls : List Lev} {m : Mai} {zs : List Int} {k : Pck} (h : HasPlan ls m) (hzl : zs.length = m.ps.length) (hn : numsB ls.length zs = true) (hg : grpsOkB ls zs (gAll ls (codesM m.ps) ls.length) = false) : allR ls m zs k = 2 := by
  unfold allR
  rw [validR_eq h.right h.mail h.pre hzl hn, if_pos rfl, if_neg (by rw [hg]; simp)]
theorem allR_short {ls : List Lev} {m : Mai} {zs : List Int} {k : Pck} (hr : rightB ls = true) (hm : mailB m = true) (hzl : zs.length = m.ps.length) (hn : numsB ls.length zs = true) (hs : (codesM m.ps).any (shortB ls) = true) : allR ls m zs k = 6 := by
  have hv : validR ls m zs = (false, 6) := by
    unfold validR
    rw [if_pos ⟨hr, hm, hzl, hn⟩, if_pos hs]
  unfold allR
  rw [hv, if_neg (by decide)]
/-- The defects. -/
def twM (d : Nat) (m : Mai) : Mai := if d = 1 then ⟨m.cls, m.ctr, ⟨#[]⟩, m.ps⟩ else if d = 6 then ⟨m.cls, m.ctr, m.origin, match m.ps with | [] => [] | p :: r => { p with code := ⟨#[49]⟩ } :: r⟩ else if d = 7 then ⟨m.cls, m.ctr, m.origin, match m.ps with | [] => [] | p :: r => { p with grams := 21 } :: r⟩ else m
def twL (d : Nat) (ls : List Lev) : List Lev := if d = 0 then ls.take (ls.length - 1) else ls
def twZ (d : Nat) (n : Nat) (zs : List Int) : List Int := if d = 2 then zs.drop 1 else if d = 3 then zs.set 0 (n : Int) else zs
def twK (d : Nat) (k : Pck) : Pck := if d = 4 then ⟨0, k.grams, k.bundles, k.trays⟩ else if d = 5 then ⟨k.pieces, k.grams, k.bundles, 201⟩ else k
theorem code_1 : codeB ⟨#[49]⟩ = true := by kernel_rfl
theorem tw_all {ls : List Lev} {m : Mai} {zs : List Int} {k : Pck} {d : Nat} (hd : d < 7) (h : HasPlan ls m) (h2 : 2 ≤ ls.length) (h5 : ∀ l ∈ ls.take 1, l.pre = 5) (hp : 1 ≤ m.ps.length) (hzl : zs.length = m.ps.length) (hn : numsB ls.length zs = true) (hk : 1 ≤ k.pieces) :
    allR (twL d ls) (twM d m) (twZ d ls.length zs) (twK d k) = if d = 6 then 6 else 2 := by
  match d, hd with
  | 0, _ => exact allR_bad (fun ⟨a, _⟩ => by rw [show twL 0 ls = ls.take (ls.length - 1) from rfl, cut_wrong h.right h2] at a; cases a)
  | 1, _ =>
    refine allR_bad (fun ⟨_, b, _⟩ => ?_)
    unfold mailB at b
    simp only [Bool.and_eq_true] at b
    have hc : codeB ⟨#[]⟩ = true := b.2.1
    exact absurd hc (by decide +kernel)
  | 2, _ =>
    refine allR_bad (fun ⟨_, _, c, _⟩ => ?_)
    have c' : (zs.drop 1).length = m.ps.length := c
    rw [List.length_drop] at c'
    omega
  | 3, _ =>
    refine allR_bad (fun ⟨_, _, _, e⟩ => ?_)
    have e' : numsB ls.length (zs.set 0 (ls.length : Int)) = true := e
    have := nums_at e' 0 (by rw [List.length_set]; omega)
    rw [List.getElem_set_self] at this
    omega
  | 4, _ =>
    refine allR_pack (k := twK 4 k) h hzl hn ?_
    unfold pckB twK
    simp
  | 5, _ =>
    refine allR_pack (k := twK 5 k) h hzl hn ?_
    unfold pckB twK
    simp
  | 6, _ =>
    obtain ⟨p, r, hpr⟩ : ∃ p r, m.ps = p :: r := by
      cases hm : m.ps with
      | nil => rw [hm] at hp; simp at hp
      | cons p r => exact ⟨p, r, rfl⟩
    have hps : (twM 6 m).ps = { p with code := ⟨#[49]⟩ } :: r := by unfold twM; rw [hpr]; rfl
    refine allR_short (m := twM 6 m) h.right ?_ (by rw [hps, List.length_cons]; rw [hpr, List.length_cons] at hzl; exact hzl) hn ?_
    · have hm := h.mail
      unfold mailB at hm ⊢
      rw [hps]
      rw [hpr] at hm
      simp only [Bool.and_eq_true, decide_eq_true_eq] at hm ⊢
      obtain ⟨a, b, c, e⟩ := hm
      refine ⟨a, b, by simpa using c, ?_⟩
      unfold pcsB pcB at e ⊢
      simp only [Bool.and_eq_true, decide_eq_true_eq] at e ⊢
      exact ⟨⟨e.1.1, code_1, e.1.2.2⟩, e.2⟩
    · rw [List.any_eq_true]
      refine ⟨⟨#[49]⟩, ?_, ?_⟩
      · unfold codesM; rw [hps]; simp
      · obtain ⟨l0, rr, rfl⟩ : ∃ l0 r, ls = l0 :: r := by
          cases ls with
          | nil => simp at h2
          | cons l0 r => exact ⟨l0, r, rfl⟩
        have := h5 l0 (by simp)
        show decide (((⟨#[49]⟩ : ByteArray).size : Int) < l0.pre) = true
        rw [this]
        decide
/-- The mailing with a piece that is too heavy has a plan all the same. -/
theorem tw_heavy {ls : List Lev} {m : Mai} (h : HasPlan ls m) : HasPlan ls (twM 7 m) ∧ codesM (twM 7 m).ps = codesM m.ps ∧ (twM 7 m).ps.length = m.ps.length := by
  have hps : (twM 7 m).ps = match m.ps with | [] => [] | p :: r => { p with grams := 21 } :: r := rfl
  have hcd : codesM (twM 7 m).ps = codesM m.ps := by
    rw [hps]
    cases m.ps <;> rfl
  have hln : (twM 7 m).ps.length = m.ps.length := by
    rw [hps]
    cases m.ps <;> rfl
  refine ⟨⟨h.right, ?_, h.rng, h.org, fun l hl c hc => h.pre l hl c (by rw [← hcd]; exact hc)⟩, hcd, hln⟩
  have hm := h.mail
  unfold mailB at hm ⊢
  rw [hps]
  simp only [Bool.and_eq_true, decide_eq_true_eq] at hm ⊢
  obtain ⟨a, b, c, e⟩ := hm
  refine ⟨a, b, ?_, ?_⟩
  · cases hq : m.ps with
    | nil => simp
    | cons p r => rw [hq] at c; simpa using c
  · cases hq : m.ps with
    | nil => rw [hq] at e; exact e
    | cons p r =>
      rw [hq] at e
      dsimp only
      unfold pcsB pcB at e ⊢
      simp only [Bool.and_eq_true, decide_eq_true_eq] at e ⊢
      exact ⟨⟨e.1.1, e.1.2.1, by decide⟩, e.2⟩
end Go.Proofs.YtelklmdlodgdpaaGreat

/-! T28 -/
namespace Go.Proofs.YtelklmdlodgdpaaGreat
open Go.RowKit Go.Sort
set_option linter.unusedVariables false
set_option maxRecDepth 100000
theorem Tryz.infoU16 : (Tryz.prog.info? 60).map (fun i => (i.zero, i.size, i.bytes)) = some (some (.int .u16 0), 1, 2) := by kernel_rfl
def encU16 (c : UInt16) : Value := .int .u16 (c.toNat : Int)
theorem own_one9 (w : World) : (w.alloc (.cells #[.int .u16 9] 60)).ownsRow w.heap.size 60 1 (.slice (some ⟨w.heap.size, 0, none⟩) 1 1) 1 ([(9 : UInt16)].map encU16) :=
  ⟨rfl, .inr ⟨w.heap.size, 1, #[.int .u16 9], rfl, Nat.le_refl _, alloc_new w _, Nat.le_refl _, by decide, rfl, rfl⟩⟩
theorem u16_news {w : World} {ad : Addr} {n cap : Nat} {bs : List UInt16} (h : RdU16 w (.slice (some ad) n cap) bs) : ∀ j u, (bs.map encU16)[j]? = some u → w.cell? (ad.add j) = some u := by
  intro j u hj
  obtain ⟨a, c, hv, hc⟩ := h
  injection hv with h1 h2 h3
  obtain ⟨hjl, hju⟩ := List.getElem?_eq_some_iff.1 hj
  rw [List.length_map] at hjl
  obtain ⟨g, off, ha, hg, hcc⟩ := hc (by omega)
  rw [← h1] at ha
  injection ha with ha
  subst ha
  have ea : (⟨g, off, none⟩ : Addr).add j = ⟨g, off + j, none⟩ := by unfold Addr.add; split <;> simp_all
  rw [ea, hcc j hjl, ← hju, List.getElem_map]
  rfl
theorem u16C_of_own {w : World} {base n : Nat} {v : Value} {bs : List UInt16} (h : w.ownsRow base 60 1 v n (bs.map encU16)) (hn : bs.length = n) : RdU16C w v bs := by
  subst hn
  rcases Joins.ownsRow_forms h with ⟨rfl, hp⟩ | ⟨g, cap, rfl⟩
  · obtain rfl : bs = [] := List.length_eq_zero_iff.1 hp
    exact ⟨⟨none, 0, rfl, fun h => absurd h (by simp)⟩, .inl rfl⟩
  · refine ⟨⟨_, cap, rfl, fun _ => ⟨g, 0, rfl, (h.lt g rfl).2, fun i hi => by rw [Nat.zero_add, h.cellAt i (by omega), List.getElem?_map, List.getElem?_eq_getElem hi]; rfl⟩⟩, .inr ⟨g, 0, none, cap, rfl, ?_⟩⟩
    obtain ⟨_, ⟨e, _⟩ | ⟨g', cap', cur, e, _, _, hle, _⟩⟩ := h
    · cases e
    · injection e with e1 e2 e3
      omega
theorem or_oneT {n : Int} (h0 : 0 ≤ n) (h1 : n < 4294967296) : 0 ≤ bits .or .u32 n 1 ∧ bits .or .u32 n 1 < 4294967296 ∧ (bitsOf (bits .or .u32 n 1)).f5 = true := by
  obtain ⟨a, rfl⟩ : ∃ a : Nat, n = (a : Int) := ⟨n.toNat, by omega⟩
  have ha : a < 4294967296 := by omega
  have ho : a ||| 1 < 2 ^ 32 := Nat.or_lt_two_pow (by omega) (by decide)
  have h1' : (BitVec.ofInt 32 (a : Int)).toNat = a := by
    rw [BitVec.ofInt_natCast, BitVec.toNat_ofNat]; exact Nat.mod_eq_of_lt (by omega)
  have h2' : (BitVec.ofInt 32 (1 : Int)).toNat = 1 := by decide
  have hw : ∀ n : Int, IntKind.u32.wrap n = n % 4294967296 := fun n => by simp [IntKind.wrap, IntKind.bits, IntKind.signed]
  have hor : bits .or .u32 (a : Int) 1 = ((a ||| 1 : Nat) : Int) := by
    show IntKind.u32.wrap ((BitVec.ofInt 32 (a : Int) ||| BitVec.ofInt 32 1).toNat : Int) = _
    rw [BitVec.toNat_or, h1', h2', hw]
    omega
  rw [hor]
  refine ⟨by omega, by omega, ?_⟩
  show bt ((a ||| 1 : Nat) : Int) 1 = true
  unfold bt
  have := and_mask (a ||| 1) 1 1 (by omega) rfl (by decide)
  have e : ((1 : Nat) : Int) = 1 := rfl
  rw [e] at this
  rw [this]
  have h3 : (a ||| 1) % 2 ^ 1 = 1 := by
    show (a ||| 1) % 2 = 1
    rw [Nat.or_mod_two_eq_one]
    exact .inr rfl
  rw [h3]
  decide
theorem made_firstT {B : Bits} (low : List UInt8) (h : B.f5 = true) : ∃ l0 r, madeR B low [] = l0 :: r ∧ l0.pre = 5 ∧ 1 ≤ r.length := by
  unfold madeR mk3 mk2 mk1 addL lev5
  rw [h]
  cases B.f3 <;> cases B.f1 <;> exact ⟨_, _, rfl, rfl, by simp⟩
end Go.Proofs.YtelklmdlodgdpaaGreat

/-! T29 -/
namespace Go.Proofs.YtelklmdlodgdpaaGreat
open Go.RowKit Go.Sort
set_option linter.unusedVariables false
set_option linter.unusedSectionVars false
set_option maxRecDepth 100000
def wantP (d : Nat) : Int := if d = 6 then 6 else if d = 7 then 3 else 2
def wantC (d : Nat) : Int := if d = 6 then 6 else if d = 7 then 0 else 2
theorem twM_parts {m : Mai} (d : Nat) (hm : mailB m = true) : (twM d m).cls = m.cls ∧ (twM d m).ctr = m.ctr ∧ (twM d m).ps.length = m.ps.length ∧ (∀ p ∈ (twM d m).ps, p.code.size ≤ maxLen) ∧ ((twM d m).origin.size ≤ m.origin.size) := by
  have hcode : ∀ p ∈ m.ps, p.code.size ≤ maxLen := fun p hp => by have := codeB_size ((mail_parts hm).2 p hp); unfold maxLen; omega
  unfold twM
  by_cases h1 : d = 1
  · rw [if_pos h1]
    exact ⟨rfl, rfl, rfl, hcode, Nat.zero_le _⟩
  · rw [if_neg h1]
    by_cases h6 : d = 6
    · rw [if_pos h6]
      refine ⟨rfl, rfl, ?_, ?_, Nat.le_refl _⟩
      · dsimp only
        cases m.ps <;> rfl
      · dsimp only
        cases hq : m.ps with
        | nil => intro p hp; cases hp
        | cons p r =>
          intro q hqm
          rw [hq] at hcode
          rcases List.mem_cons.1 hqm with rfl | h
          · show (1 : Nat) ≤ maxLen
            unfold maxLen; omega
          · exact hcode q (List.mem_cons_of_mem _ h)
    · rw [if_neg h6]
      by_cases h7 : d = 7
      · rw [if_pos h7]
        refine ⟨rfl, rfl, ?_, ?_, Nat.le_refl _⟩
        · dsimp only
          cases m.ps <;> rfl
        · dsimp only
          cases hq : m.ps with
          | nil => intro p hp; cases hp
          | cons p r =>
            intro q hqm
            rw [hq] at hcode
            rcases List.mem_cons.1 hqm with rfl | h
            · exact hcode p List.mem_cons_self
            · exact hcode q (List.mem_cons_of_mem _ h)
      · rw [if_neg h7]
        exact ⟨rfl, rfl, rfl, hcode, Nat.le_refl _⟩
theorem twL_fits {ls : List Lev} (d : Nat) (h : rightB ls = true) : (∀ l ∈ twL d ls, LevFits l) ∧ (twL d ls).length ≤ 100000 := by
  have hl := right_len h
  unfold twL
  by_cases h0 : d = 0
  · rw [if_pos h0]
    refine ⟨fun l hm => right_fits h l (List.mem_of_mem_take hm), ?_⟩
    rw [List.length_take]; omega
  · rw [if_neg h0]
    exact ⟨right_fits h, by omega⟩
theorem twZ_len (d n : Nat) (zs : List Int) : (twZ d n zs).length ≤ zs.length := by
  unfold twZ
  by_cases h2 : d = 2
  · rw [if_pos h2, List.length_drop]; omega
  · rw [if_neg h2]
    by_cases h3 : d = 3
    · rw [if_pos h3, List.length_set]; exact Nat.le_refl _
    · rw [if_neg h3]; exact Nat.le_refl _
theorem twX_7 (ls : List Lev) (zs : List Int) (k : Pck) (n : Nat) : twL 7 ls = ls ∧ twZ 7 n zs = zs ∧ twK 7 k = k := ⟨rfl, rfl, rfl⟩
section
variable {ls : List Lev} {m : Mai} {zs : List Int} {k : Pck} {d : Nat} (hd : d < 8) (h : HasPlan ls m) (h2 : 2 ≤ ls.length) (h5 : ∀ l ∈ ls.take 1, l.pre = 5) (hp : 1 ≤ m.ps.length) (hv : validR ls m zs = (true, 0)) (hzl : zs.length = m.ps.length) (hn : numsB ls.length zs = true) (hk : pckB k = true) (hk1 : 1 ≤ k.pieces) (hkg : k.grams = 20)
include hd h h2 h5 hp hv hzl hn hk hk1 hkg
theorem tw_valid7 : validR ls (twM 7 m) zs = (true, 0) := by
  obtain ⟨hh, hc, hl⟩ := tw_heavy h
  rw [validR_eq hh.right hh.mail hh.pre (by rw [hl]; exact hzl) hn, hc]
  rw [validR_eq h.right h.mail h.pre hzl hn] at hv
  exact hv
theorem tw_pack {v vp vz : Value} {w : World} (hr : RdLevs w v (twL d ls)) (hrp : RdPces w vp (twM d m).ps) (hz : RdInts w vz (twZ d ls.length zs)) :
    Calls Tryz.prog 11 #[v, maiV (twM d m) vp, vz, pckV (twK d k)] w fun e w' => e = .returned (.tuple #[noLod, .int .i64 (wantP d)]) ∧ Below w.heap.size w w' := by
  obtain ⟨e1, e2, e3, e4, e5⟩ := twM_parts d h.mail
  have hpl := h.few
  have hfz := twZ_len d ls.length zs
  have hrng : 0 ≤ (twM d m).cls ∧ (twM d m).cls ≤ 255 ∧ 0 ≤ (twM d m).ctr ∧ (twM d m).ctr ≤ 255 := by rw [e1, e2]; exact h.rng
  have horg : (twM d m).origin.size ≤ maxLen := Nat.le_trans e5 h.org
  obtain ⟨hf, hfl⟩ := twL_fits d h.right
  by_cases h7 : d = 7
  · subst h7
    refine pack_long (twL 7 ls) v vp vz (twM 7 m) (twZ 7 ls.length zs) (twK 7 k) w hr hf hfl hrp hrng horg (by omega) e4 hz (by omega) ?_ ?_
    · show allR ls (twM 7 m) zs k = 0
      unfold allR
      rw [tw_valid7 (d := 7) hd h h2 h5 hp hv hzl hn hk hk1 hkg, if_pos rfl, if_pos ⟨rfl, hk⟩]
    · obtain ⟨p, r, hpr⟩ : ∃ p r, m.ps = p :: r := by
        cases hm : m.ps with
        | nil => rw [hm] at hp; simp at hp
        | cons p r => exact ⟨p, r, rfl⟩
      have hps : (twM 7 m).ps = { p with grams := 21 } :: r := by
        show (match m.ps with | [] => [] | p :: r => { p with grams := 21 } :: r) = _
        rw [hpr]
      refine ⟨{ p with grams := 21 }, by rw [hps]; exact List.mem_cons_self, ?_⟩
      show k.grams < 21
      omega
  · have hall := tw_all (k := k) (by omega) h h2 h5 hp hzl hn hk1 (d := d)
    have hw : allR (twL d ls) (twM d m) (twZ d ls.length zs) (twK d k) = wantP d := by
      rw [hall]
      unfold wantP
      rw [if_neg h7]
    have := pack_no (twL d ls) v vp vz (twM d m) (twZ d ls.length zs) (twK d k) w hr hf hfl hrp hrng horg (by omega) e4 hz (by omega) (by rw [hall]; split <;> decide)
    rw [hw] at this
    exact this
theorem tw_check {v vp vz : Value} {w : World} (hr : RdLevs w v (twL d ls)) (hrp : RdPces w vp (twM d m).ps) (hz : RdInts w vz (twZ d ls.length zs)) :
    Calls Tryz.prog 13 #[v, maiV (twM d m) vp, vz, pckV (twK d k), noLod] w fun e w' => e = .returned (.tuple #[.bool false, .int .i64 (wantC d)]) ∧ Below w.heap.size w w' := by
  obtain ⟨e1, e2, e3, e4, e5⟩ := twM_parts d h.mail
  have hpl := h.few
  have hfz := twZ_len d ls.length zs
  have hrng : 0 ≤ (twM d m).cls ∧ (twM d m).cls ≤ 255 ∧ 0 ≤ (twM d m).ctr ∧ (twM d m).ctr ≤ 255 := by rw [e1, e2]; exact h.rng
  have horg : (twM d m).origin.size ≤ maxLen := Nat.le_trans e5 h.org
  obtain ⟨hf, hfl⟩ := twL_fits d h.right
  by_cases h7 : d = 7
  · subst h7
    obtain ⟨hh, hc, hl⟩ := tw_heavy h
    have hnil : RdLod w (.slice none 0 0) (.slice none 0 0) (.slice none 0 0) ⟨[], [], []⟩ := ⟨⟨none, 0, rfl, fun h => absurd h (by simp)⟩, ⟨none, 0, rfl, fun h => absurd h (by simp)⟩, ⟨none, 0, rfl, fun h => absurd h (by simp)⟩⟩
    have hA : allR ls (twM 7 m) zs k = 0 := by
      unfold allR
      rw [tw_valid7 (d := 7) hd h h2 h5 hp hv hzl hn hk hk1 hkg, if_pos rfl, if_pos ⟨rfl, hk⟩]
    refine (check_ok hh v vp vz (.slice none 0 0) (.slice none 0 0) (.slice none 0 0) zs k ⟨[], [], []⟩ w hr hrp hz (by rw [hl]; exact hzl) hn hA hnil ⟨Nat.zero_le _, Nat.zero_le _, Nat.zero_le _, Nat.zero_le _, Nat.zero_le _, Nat.zero_le _⟩ (fun b hb => by cases hb)).mono ?_
    rintro e w' ⟨u, rfl, hb, hu⟩
    rw [hu.false (fun hl2 => by
      have := hl2.buns.all
      rw [hl] at this
      simp at this
      omega)]
    exact ⟨rfl, hb⟩
  · have hall := tw_all (k := k) (by omega) h h2 h5 hp hzl hn hk1 (d := d)
    have hw : allR (twL d ls) (twM d m) (twZ d ls.length zs) (twK d k) = wantC d := by
      rw [hall]
      unfold wantC
      rw [if_neg h7]
    have := check_no (twL d ls) v vp vz noLod (twM d m) (twZ d ls.length zs) (twK d k) w hr hf hfl hrp hrng horg (by omega) e4 hz (by omega) ⟨_, _, _, rfl⟩ (by rw [hall]; split <;> decide)
    rw [hw] at this
    exact this
end
end Go.Proofs.YtelklmdlodgdpaaGreat

/-! T30 -/
namespace Go.Proofs.YtelklmdlodgdpaaGreat
open Go.RowKit Go.Sort
set_option linter.unusedVariables false
set_option maxRecDepth 100000
def zsT (n len : Nat) : List Int := (List.replicate n ((len : Int) - 1)).set 0 0
theorem zsT_len (n len : Nat) : (zsT n len).length = n := by unfold zsT; simp
theorem zsT_0 {n len : Nat} (h : 1 ≤ n) : (zsT n len).getD 0 (-1) = 0 := by
  unfold zsT
  rw [List.getD_eq_getElem?_getD, List.getElem?_set_self (by rw [List.length_replicate]; omega)]
  rfl
theorem zsT_at {n len i : Nat} (h : 1 ≤ i) : (zsT n len).getD i (-1) = (len : Int) - 1 ∨ (zsT n len).getD i (-1) = -1 := by
  unfold zsT
  rw [List.getD_eq_getElem?_getD, List.getElem?_set_ne (by omega)]
  by_cases hi : i < n
  · left
    rw [List.getElem?_replicate, if_pos hi]; rfl
  · right
    rw [List.getElem?_replicate, if_neg hi]; rfl
theorem zsT_nums {n len : Nat} (h2 : 2 ≤ len) : numsB len (zsT n len) = true := by
  unfold numsB
  rw [List.all_eq_true]
  intro z hz
  unfold zsT at hz
  rcases List.mem_or_eq_of_mem_set hz with h | rfl
  · rw [List.mem_replicate] at h
    rw [h.2]
    simp
    omega
  · simp
    omega
theorem tw_two {ls : List Lev} {m : Mai} (h : HasPlan ls m) (h2 : 2 ≤ ls.length) (hp : 1 ≤ m.ps.length) (hmin : 2 ≤ (ls[0]'(by omega)).min) : grpsOkB ls (zsT m.ps.length ls.length) (gAll ls (codesM m.ps) ls.length) = false := by
  have hcl : (codesM m.ps).length = m.ps.length := codesM_len _
  have hG : GrpsIn m.ps (gAll ls (codesM m.ps) ls.length) := gAll_in hcl
  have hO : OwnIn m.ps (zsT m.ps.length ls.length) (gAll ls (codesM m.ps) ls.length) := gAll_own hcl (zsT_len _ _) (zsT_nums h2)
  obtain ⟨x, hx, hxl, hxi⟩ := hO.some 0 hp
  rw [zsT_0 hp] at hxl
  obtain ⟨hs, hi⟩ := hG.items x hx
  have htk : takesTo (zsT m.ps.length ls.length) x x.items.length = 1 := by
    unfold takesTo
    rw [List.take_length]
    cases hit : x.items with
    | nil => rw [hit] at hxi; cases hxi
    | cons a r =>
      rw [hit] at hs hi hxi
      rw [List.pairwise_cons] at hs
      have ha : a = 0 := by
        rcases List.mem_cons.1 hxi with h | h
        · exact h.symm
        · have h1 := hs.1 _ h
          have h3 := (hi a List.mem_cons_self).1
          have e : ((0 : Nat) : Int) = 0 := rfl
          omega
      subst ha
      rw [List.countP_cons_of_pos (by rw [hxl]; exact decide_eq_true (zsT_0 hp))]
      have : List.countP (fun i => decide ((zsT m.ps.length ls.length).getD i.toNat (-1) = x.lvl)) r = 0 := by
        rw [List.countP_eq_zero]
        intro b hb
        have h1 := hs.1 b hb
        rw [hxl]
        rcases zsT_at (n := m.ps.length) (len := ls.length) (i := b.toNat) (by omega) with h3 | h3
        · rw [h3]; simp; omega
        · rw [h3]; simp
      omega
  have hmn : minAt ls x.lvl = ls[0].min := by
    unfold minAt
    rw [hxl]
    show (ls.getD 0 _).min = _
    rw [List.getD_eq_getElem?_getD, List.getElem?_eq_getElem (by omega)]
    rfl
  have hb : grpOkB ls (zsT m.ps.length ls.length) x = false := by
    unfold grpOkB
    rw [htk, hmn, decide_eq_true (by decide : 0 < 1), decide_eq_true (by omega : ((1 : Nat) : Int) < ls[0].min)]
    rfl
  cases hg : grpsOkB ls (zsT m.ps.length ls.length) (gAll ls (codesM m.ps) ls.length) with
  | false => rfl
  | true =>
    unfold grpsOkB at hg
    have := List.all_eq_true.1 hg x hx
    rw [hb] at this
    cases this
theorem tw_two_all {ls : List Lev} {m : Mai} {k : Pck} (h : HasPlan ls m) (h2 : 2 ≤ ls.length) (hp : 1 ≤ m.ps.length) (hmin : 2 ≤ (ls[0]'(by omega)).min) : allR ls m (zsT m.ps.length ls.length) k = 2 :=
  allR_plan h (zsT_len _ _) (zsT_nums h2) (tw_two h h2 hp hmin)
end Go.Proofs.YtelklmdlodgdpaaGreat
