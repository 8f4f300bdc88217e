/-
  TrayWide at what Made brings.
-/
import Derived.Test.YtelklmdlodgdpaaGreatRU
import Derived.Test.YtelklmdlodgdpaaGreatT25
namespace Go.Proofs.YtelklmdlodgdpaaGreat
open Go.RowKit
set_option linter.unusedVariables false
set_option maxRecDepth 100000
theorem right_grp {ls : List Lev} (h : rightB ls = true) {i : Nat} (hi : i < ls.length) : ∀ x ∈ ls[i].labs, x.grp.size ≤ 20 := by
  intro x hx
  obtain ⟨_, _, ⟨hs, hlv, _, _⟩, _⟩ := rightB_iff.1 h
  obtain ⟨hh, hr⟩ := levelB_iff.1 (hlv i hi hi)
  obtain ⟨k, hk, rfl⟩ := List.mem_iff_getElem.1 hx
  cases hb : decide (i + 1 = ls.length)
  · rw [hb] at hr
    simp only [Bool.false_eq_true, if_false] at hr
    have := (hr.2 k hk hk).1
    unfold labOk nameB at this
    simp only [Bool.and_eq_true, decide_eq_true_eq] at this
    exact this.2.1.2
  · rw [hb] at hr
    simp only [if_true] at hr
    omega
theorem grp_small {ls : List Lev} (h : rightB ls = true) {i : Nat} (hi : i < ls.length) {c : ByteArray} (hc : c.size ≤ 100) : (grpOf ls[i] c).size ≤ 100 := by
  unfold grpOf
  cases hl : labOf ls[i].labs (c.extract 0 ls[i].pre.toNat) with
  | none =>
    show (c.extract 0 ls[i].pre.toNat).size ≤ 100
    rw [ByteArray.size_extract]
    omega
  | some g =>
    show g.size ≤ 100
    unfold labOf at hl
    obtain ⟨x, hx, rfl⟩ := Option.map_eq_some_iff.1 hl
    have := right_grp h hi x (List.mem_of_find?_eq_some hx)
    omega
theorem trayWide_walk {n : Int} {least cents : List UInt8} {l : List UInt16} {vl vc vs : Value} {w : World} (hn0 : 0 ≤ n) (hn1 : n < 4294967296) (hrl : RdBytes w vl least) (hrc : RdBytes w vc cents) (hrs : RdU16C w vs l)
    (hll : least.length ≤ maxLen) (hcl : cents.length ≤ maxLen) (hsl : l.length ≤ maxLen) :
    Calls Tryz.prog 8 #[.int .u32 n, vl, vc, vs] w fun e w' => e = .returned (.bool true) ∧ Below w.heap.size w w' := by
  have hp := made_hp n least cents l 300 (by decide)
  have hpn : (mail24 (l.take 300)).ps.length = (l.take 300).length := ps24_len _ _
  have hl3 : (l.take 300).length ≤ 300 := by rw [List.length_take]; exact Nat.min_le_left _ _
  have hk : pckB kWide = true := by kernel_rfl
  have hg0 := pckBy_grams 0 (l.take 300)
  have hg : ∀ p ∈ (mail24 (l.take 300)).ps, p.grams ≤ 20 := fun p hpm => hg0 p hpm
  have hgk : ∀ p ∈ (mail24 (l.take 300)).ps, p.grams ≤ kWide.grams := fun p hpm => by
    have := hg p hpm
    show p.grams ≤ 1000000
    omega
  have hpd := pkd_b hp hk hgk
  have hll2 := right_len hp.right
  have hz : ∀ i, i < (l.take 300).length → 0 ≤ (planM (madeR (bitsOf n) (lowL least 3) cents) (mail24 (l.take 300))).getD i (-1) ∧ (planM (madeR (bitsOf n) (lowL least 3) cents) (mail24 (l.take 300))).getD i (-1) < ((madeR (bitsOf n) (lowL least 3) cents).length : Int) := fun i hi => by
    have hi' : i < (planM (madeR (bitsOf n) (lowL least 3) cents) (mail24 (l.take 300))).length := by rw [planM_len, hpn]; exact hi
    rw [List.getD_eq_getElem?_getD, List.getElem?_eq_getElem hi']
    exact nums_at hp.nums i hi'
  have hf : ∀ i (hi : i < (mail24 (l.take 300)).ps.length), findR (madeR (bitsOf n) (lowL least 3) cents) ((planM (madeR (bitsOf n) (lowL least 3) cents) (mail24 (l.take 300))).getD i (-1)) (mail24 (l.take 300)).ps[i].code = ((nmM (madeR (bitsOf n) (lowL least 3) cents) (l.take 300)).getD i noB, 0) := fun i hi => find_ok hp (planM_len _ _) hp.nums hi
  have hcs : ∀ i (hi : i < (mail24 (l.take 300)).ps.length), codeB (mail24 (l.take 300)).ps[i].code = true := fun i hi => (mail_parts hp.mail).2 _ (List.getElem_mem hi)
  refine wide_walk n vl vc vs w (made_b (b := 0) hn0 hn1 (by decide) hrl hrc hrs hll hcl hsl (by decide)) (pack_b hp hk hgk) (by rw [planM_len]; exact hpn) hpd hl3 hp.mail hg (fun i hi => ?_) (fun i hi => ?_) (fun i hi W v hr => ?_)
  · have h2 := hz i hi
    exact ⟨h2.1, Int.lt_of_lt_of_le h2.2 (by have := hll2.2; omega)⟩
  · have hi' : i < (mail24 (l.take 300)).ps.length := by rw [hpn]; exact hi
    have h1 := hf i hi'
    obtain ⟨z, hzz⟩ : ∃ z : Nat, (planM (madeR (bitsOf n) (lowL least 3) cents) (mail24 (l.take 300))).getD i (-1) = (z : Int) := ⟨_, (Int.toNat_of_nonneg (hz i hi).1).symm⟩
    have h2 := hz i hi
    rw [hzz] at h1 h2
    have hzl : z < (madeR (bitsOf n) (lowL least 3) cents).length := by omega
    unfold findR at h1
    rw [if_pos ⟨hp.right, by omega, by omega, hcs i hi'⟩] at h1
    simp only [Int.toNat_natCast] at h1
    rw [List.getElem?_eq_getElem hzl] at h1
    dsimp only at h1
    have hpre := hp.pre _ (List.getElem_mem hzl) _ (by unfold codesM; exact List.mem_map.2 ⟨_, List.getElem_mem hi', rfl⟩)
    rw [if_neg (by omega)] at h1
    have h3 := congrArg Prod.fst h1
    dsimp only at h3
    rw [← h3]
    have := grp_small hp.right hzl (c := (mail24 (l.take 300)).ps[i].code) (by have := codeB_size (hcs i hi'); omega)
    omega
  · have hi' : i < (mail24 (l.take 300)).ps.length := by rw [hpn]; exact hi
    have h1 := find_any _ v ((planM (madeR (bitsOf n) (lowL least 3) cents) (mail24 (l.take 300))).getD i (-1)) (mail24 (l.take 300)).ps[i].code W hr (right_fits hp.right) (by unfold maxLen; omega) (by have := codeB_size (hcs i hi'); unfold maxLen; omega)
    rw [hf i hi'] at h1
    rw [pcAt_nat hi']
    exact h1
end Go.Proofs.YtelklmdlodgdpaaGreat
