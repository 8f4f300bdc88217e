/-
  TrayFits at what Made brings.
-/
import Derived.Test.YtelklmdlodgdpaaGreatRU
import Derived.Test.YtelklmdlodgdpaaGreatT22
namespace Go.Proofs.YtelklmdlodgdpaaGreat
open Go.RowKit
set_option linter.unusedVariables false
set_option maxRecDepth 100000
theorem trayFits_walk {n b : Int} {least cents : List UInt8} {l : List UInt16} {vl vc vs : Value} {w : World} (hn0 : 0 ≤ n) (hn1 : n < 4294967296) (hb0 : 0 ≤ b) (hb1 : b < 4294967296) (hrl : RdBytes w vl least) (hrc : RdBytes w vc cents) (hrs : RdU16C w vs l)
    (hll : least.length ≤ maxLen) (hcl : cents.length ≤ maxLen) (hsl : l.length ≤ maxLen) :
    Calls Tryz.prog 7 #[.int .u32 n, vl, vc, vs, .int .u32 b] w fun e w' => e = .returned (.bool true) ∧ Below w.heap.size w w' := by
  obtain ⟨bN, rfl⟩ : ∃ bN : Nat, b = (bN : Int) := ⟨b.toNat, (Int.toNat_of_nonneg hb0).symm⟩
  have hp := made_hp n least cents l 300 (by decide)
  have hpd := pkd_b hp (pckBy_ok bN) (pckBy_grams bN _)
  have hpn : (mail24 (l.take 300)).ps.length = (l.take 300).length := ps24_len _ _
  have hl3 : (l.take 300).length ≤ 300 := by rw [List.length_take]; exact Nat.min_le_left _ _
  refine fits_walk n bN vl vc vs w (made_b hn0 hn1 (by omega) hrl hrc hrs hll hcl hsl (by decide)) (pack_b hp (pckBy_ok bN) (pckBy_grams bN _)) ?_ hpd hl3 hp.mail (pckBy_ok bN) ?_ ?_
  · rw [planM_len]; exact hpn
  · intro W v vp vz vb vt vc h1 h2 h3 h4
    refine (check_b hp (pckBy_ok bN) h1 h2 h3 h4 (hpd.smallL (by rw [hpn]; omega)) (fun b hb i hi => by have := (hpd.own b hb).2.2 i hi; omega)).mono ?_
    rintro e w' ⟨u, rfl, hb, hu⟩
    rw [hu.true hpd.ok]
    exact ⟨rfl, hb⟩
  · intro i hi W v hr
    have hi' : i < (mail24 (l.take 300)).ps.length := by rw [hpn]; exact hi
    have hll := right_len hp.right
    have h1 := find_any _ v ((planM (madeR (bitsOf n) (lowL least 3) cents) (mail24 (l.take 300))).getD i (-1)) (mail24 (l.take 300)).ps[i].code W hr (right_fits hp.right) (by unfold maxLen; omega) (by have := codeB_size ((mail_parts hp.mail).2 _ (List.getElem_mem hi')); unfold maxLen; omega)
    rw [find_ok hp (planM_len _ _) hp.nums hi'] at h1
    rw [pcAt_nat hi']
    exact h1
end Go.Proofs.YtelklmdlodgdpaaGreat
