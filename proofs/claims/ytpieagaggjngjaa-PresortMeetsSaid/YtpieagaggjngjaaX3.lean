/-
  PresortMeets: the walk.
-/
import Derived.Test.YtpieagaggjngjaaGI
import Derived.BigQuiet
import Derived.Deep.DeepCutAuto
namespace Go.Proofs.Ytpieagaggjngjaa
open Go.RowKit Go.Sort
set_option linter.unusedVariables false
set_option maxRecDepth 100000
set_option maxHeartbeats 16000000 in
theorem meets_walk (n : Int) (vl vc vs : Value) (ls : List Lev) (cs : List ByteArray) (w : World) (h : HasPlan ls (mail25 cs)) (hM : MadeC #[.int .u32 n, vl, vc, vs, .int .i64 300] ls cs w) :
    Calls Try.prog 4 #[.int .u32 n, vl, vc, vs] w fun e w' => e = .returned (.bool true) ∧ Below w.heap.size w w' := by
  have HAW := Lib.hid (fun W => awake_any W)
  have HMD : Hid (MadeC #[.int .u32 n, vl, vc, vs, .int .i64 300] ls cs w) := hM
  have hlm : (mail25 cs).ps.length = cs.length := mailTo_len _ _
  have hcm : codesM (mail25 cs).ps = cs := mail_codesM cs
  have hpl := planM_len ls (mail25 cs)
  have hn := h.nums
  have hpc : planM ls (mail25 cs) = planC ls cs := by unfold planM; rw [hcm]
  rw [hpc] at hpl hn
  rw [hlm] at hpl
  have HPL := Lib.hid (fun W al cl ap cp (hr : RdLevs W (.slice al ls.length cl) ls) (hrp : RdPces W (.slice ap cs.length cp) (mail25 cs).ps) => plan_of h hr hrp)
  rw [hlm, hpc] at HPL
  have HCO := Lib.hid (fun W ap cp (hrp : RdPces W (.slice ap cs.length cp) (mail25 cs).ps) => codesL_any (mail25 cs) (.slice ap cs.length cp) W hrp (by have := h.few; omega))
  rw [hcm] at HCO
  have HGP := Lib.hid (fun W al cl vc (hr : RdLevs W (.slice al ls.length cl) ls) (hrc : ReadsT W vc (codesM (mail25 cs).ps)) => groups_of h hr hrc)
  rw [hcm] at HGP
  have HSV := Lib.hid (fun W al cl ap cp (hr : RdLevs W (.slice al ls.length cl) ls) (hrp : RdPces W (.slice ap cs.length cp) (mail25 cs).ps) => saves_any h hr hrp)
  unfold maiV mail25 at HPL HCO HSV
  dsimp only at HPL HCO HSV
  have hord := fun x (hx : x ∈ gAll ls cs ls.length) k (hk : k < x.items.length) => plan_order h.right (by have := h.code; rw [hcm] at this; exact this) (by have := h.pre; rw [hcm] at this; exact this) hx hk
  have hgok : grpsOkB ls (planC ls cs) (gAll ls cs ls.length) = true := planC_ok h.right (by have := h.code; rw [hcm] at this; exact this) (by have := h.pre; rw [hcm] at this; exact this)
  have hgl := h.groups_few
  rw [hcm] at hgl
  have hitems := gAll_items (ls := ls) (cs := cs)
  have hfew := h.few
  rw [hlm] at hfew
  have hl6 := (right_len h.right).2
  have hsv0 : 0 ≤ savesM ls (mail25 cs) := by
    have h1 := saves_bound h.right h.nums (mail25 cs).ps.length (by rw [planM_len]; exact Nat.le_refl _)
    exact h1.1
  obtain ⟨sv, hsv⟩ : ∃ z, z = savesM ls (mail25 cs) := ⟨_, rfl⟩
  unfold mail25 at hsv
  rw [← hsv] at HSV
  have hsv0 : 0 ≤ sv := by rw [hsv]; exact hsv0
  clear hsv hpc hcm hlm
  obtain ⟨zs, hzs⟩ : ∃ z, z = planC ls cs := ⟨_, rfl⟩
  rw [← hzs] at HPL hpl hn hord hgok
  obtain ⟨Gs, hGs⟩ : ∃ z, z = gAll ls cs ls.length := ⟨_, rfl⟩
  rw [← hGs] at HGP hord hgok hgl hitems
  have HOR := Lib.hid hord
  have HGK := Lib.hid hgok
  have HIT := Lib.hid hitems
  have HN := Lib.hid (fun k hk => nums_at hn k hk)
  have HZL := Lib.hid hpl
  clear hord hgok hitems hzs hGs hn hpl h hM
  go_enter Try.func4, Try.ntmps4
  go_wp2_with (first
    | (go_at_call 10; refine (HAW.out _).mono ?_; rintro e w1 ⟨rfl, hb1⟩)
    | (go_at_call 11; refine (HMD.out _ hb1).mono ?_; rintro e w2 ⟨al, cl, ap, cp, rfl, hb2, hr2, hp2⟩; have hB2 : Below w.heap.size w w2 := hb1.trans (hb2.mono hb1.size); (have hA2 : Below w2.heap.size w2 (w2.alloc (.cells #[.int .u8 1, .int .u8 1, .string ⟨#[49, 48, 48, 48, 48]⟩, .slice ap cs.length cp] 28)) := (Below.refl _ w2).alloc (Nat.le_refl _) _); (have hz2 : (w2.alloc (.cells #[.int .u8 1, .int .u8 1, .string ⟨#[49, 48, 48, 48, 48]⟩, .slice ap cs.length cp] 28)).heap.size = w2.heap.size + 1 := World.size_alloc _ _); (have hn2 := alloc_new w2 (.cells #[.int .u8 1, .int .u8 1, .string ⟨#[49, 48, 48, 48, 48]⟩, .slice ap cs.length cp] 28)))
    | (go_at_call 16; refine (HPL.out _ al cl ap cp (RdLevs.below hr2 hA2) (RdPces.below hp2 hA2)).mono ?_; rintro e w3 ⟨gz, rfl, hb3, hgz, hz3⟩; (have hA3 : Below w2.heap.size w2 w3 := hA2.trans (hb3.mono hA2.size)); (have hs3 : w2.heap.size < w3.heap.size := by have := hb3.size; omega); (have hn3 := (hb3.block _ (by omega)).trans hn2); obtain ⟨m0, m1, m2, m3⟩ := cells4 hn3)
    | (go_at_call 13; refine (HCO.out _ ap cp (RdPces.below hp2 hA3)).mono ?_; rintro e w4 ⟨u, rfl, hb4, hrc4⟩; (have hA4 : Below w2.heap.size w2 w4 := hA3.trans (hb4.mono hA3.size)); (have hn4 := (hb4.block _ hs3).trans hn3))
    | (go_at_call 12; refine (HGP.out _ al cl _ (RdLevs.below hr2 hA4) hrc4).mono ?_; rintro e w5 ⟨ag, cg, rfl, hb5, hrg⟩; (have hA5 : Below w2.heap.size w2 w5 := hA4.trans (hb5.mono hA4.size)); (have hn5 := (hb5.block _ (Nat.lt_of_lt_of_le hs3 hb4.size)).trans hn4); clear m0 m1 m2 m3; obtain ⟨m0, m1, m2, m3⟩ := cells4 hn5))
  have hB5 : Below w.heap.size w w5 := hB2.trans (hA5.mono hB2.size)
  have HB5 := Lib.hid hB5
  have HRG := Lib.hid hrg
  have HRL := Lib.hid (RdLevs.below hr2 hA5)
  have HRP := Lib.hid (RdPces.below hp2 hA5)
  have hzl := hz3.lt
  have HZ := Lib.hid (hz3.below (hb4.trans (hb5.mono hb4.size)) hzl)
  have HN5 := Lib.hid hn5
  have hm5 : w2.heap.size < w5.heap.size := (Array.getElem?_eq_some_iff.1 hn5).1
  clear hb1 hB2 hb2 hb3 hb4 hb5 hrg hA2 hA3 hA4 hA5 hn2 hn3 hn4 hn5 m0 m1 m2 m3 hr2 hp2 hrc4 hB5 hz3 hzl hz2 hgz hs3 HAW HMD HPL HCO HGP
  go_loopw [58] (fun i wr => ∃ k : Nat, k ≤ Gs.length ∧ i = .int .i64 k ∧ Below w5.heap.size w5 wr) (fun i _ => Gs.length - (intOf i).toNat)
  case atStart => exact ⟨0, Nat.zero_le _, rfl, Below.refl _ _⟩
  case round =>
    obtain ⟨wo, hwo⟩ : ∃ x, x = wr := ⟨_, rfl⟩
    subst hwo
    obtain ⟨k, hk, rfl, hB⟩ := hrel
    by_cases hlt : k < Gs.length
    · have hrg := RdGrps.below HRG.out hB
      obtain ⟨ag', cg', hvg, hgr⟩ := hrg
      injection hvg with q1 q2 q3
      subst q1
      clear q2 q3
      obtain ⟨gg, og, rfl, hgg, hcg⟩ := hgr (by omega)
      obtain ⟨sv', hsv, g0, g1, g2, g3⟩ := hcg k hlt
      obtain ⟨hi1, ⟨mm, hmm, hlv⟩, hi3⟩ := HIT.out _ (List.getElem_mem hlt)
      have hord := HOR.out _ (List.getElem_mem hlt)
      have hgok := List.all_eq_true.1 HGK.out _ (List.getElem_mem hlt)
      obtain ⟨x, hx⟩ : ∃ x, x = Gs[k] := ⟨_, rfl⟩
      rw [← hx] at hsv g0 g1 g2 hi1 hlv hi3 hord hgok
      rw [hlv] at g0
      obtain ⟨nm, hnm⟩ : ∃ z, z = x.name := ⟨_, rfl⟩
      obtain ⟨up, hup⟩ : ∃ z, z = x.up := ⟨_, rfl⟩
      rw [← hnm] at g1
      rw [← hup] at g2
      obtain ⟨ai, ci, rfl, hci⟩ := hsv
      obtain ⟨CG, hCG⟩ : ∃ c, c = Obj.cells #[.int .i64 mm, .string nm, .int .i64 up, .slice ai x.items.length ci] 43 (0, 0) := ⟨_, rfl⟩
      have hbc : Below wo.heap.size wo (wo.alloc CG) := (Below.refl _ _).alloc (Nat.le_refl _) _
      have q0 : (wo.alloc CG).cell? ⟨wo.heap.size, 0, none⟩ = some (.int .i64 mm) := by rw [hCG]; exact cell_of_row _ _ 0 _ _ _ (alloc_new wo _)
      have q3 : (wo.alloc CG).cell? ⟨wo.heap.size, 3, none⟩ = some (.slice ai x.items.length ci) := by rw [hCG]; exact cell_of_row _ _ 3 _ _ _ (alloc_new wo _)
      have hBg : Below w5.heap.size w5 (wo.alloc CG) := hB.alloc hB.size _
      have hz1 : (wo.alloc CG).heap.size = wo.heap.size + 1 := World.size_alloc _ _
      have HTS := Lib.hid (fun p (hp : p < x.items.length) => takes_succ zs x hp)
      have HPS := Lib.hid (fun p (hp : p < x.items.length) => pass_succ zs x hp)
      have HORD := Lib.hid hord
      have HGOK := Lib.hid hgok
      have HLV := Lib.hid hlv
      have HI3 := Lib.hid hi3
      have HCI := Lib.hid hci
      have HQ0 := Lib.hid q0
      have HZ1 := Lib.hid hz1
      have HBC := Lib.hid hbc
      clear hlv hi3 hci hgr hcg hnm hup hx q0 hz1 hbc hord hgok
      go_wp2_with fail
      rw [← hCG]
      have HCG := Lib.hid hCG
      clear hCG
      go_loopw [17, 18, 65] (fun t pb i wq => ∃ p : Nat, p ≤ x.items.length ∧ i = .int .i64 p ∧ t = .int .i64 (takesTo zs x p : Nat) ∧ pb = .bool (passB zs x p) ∧ Below (wo.alloc CG).heap.size (wo.alloc CG) wq) (fun _ _ i _ => x.items.length - (intOf i).toNat)
      case atStart => exact ⟨0, Nat.zero_le _, rfl, by simp [takesTo], by simp [passB], Below.refl _ _⟩
      case round =>
        clear q3
        obtain ⟨p, hp, rfl, rfl, rfl, hBq⟩ := hrel
        have hz1 := HZ1.out
        have r0 := (hBq.cell (p := ⟨wo.heap.size, 0, none⟩) (by show wo.heap.size < _; omega)).trans HQ0.out
        have htl := takes_le zs x p
        by_cases hltp : p < x.items.length
        · obtain ⟨gi, oi, rfl, hgi, hcc⟩ := HCI.out (by omega)
          obtain ⟨q, hq, hqe⟩ := HI3.out _ (List.getElem_mem hltp)
          have hqz : q < zs.length := by rw [HZL.out]; exact hq
          have hts := HTS.out p hltp
          have hps := HPS.out p hltp
          have hor := HORD.out p hltp
          have e1 := hcc p hltp
          rw [hqe] at e1 hts hps hor
          have e1' : wr.cell? ⟨gi, oi + p, none⟩ = some (.int .i64 q) := (hBq.cell (p := ⟨gi, oi + p, none⟩) (by show gi < _; omega)).trans ((HBC.out.cell (p := ⟨gi, oi + p, none⟩) hgi).trans e1)
          have e2 : wr.cell? ⟨gz, q, none⟩ = some (.int .i64 (zs.getD q (-1))) := ((hBg.trans (hBq.mono hBg.size)).cell (p := ⟨gz, q, none⟩) HZ.out.lt).trans (HZ.out.cell hqz)
          have hnz := HN.out q hqz
          rw [Int.toNat_natCast, HLV.out] at hts hps hor
          rw [List.getD_eq_getElem?_getD, List.getElem?_eq_getElem hqz] at hts hps hor e2
          obtain ⟨z, hz⟩ : ∃ z, z = zs[q] := ⟨_, rfl⟩
          rw [← hz] at e2 hts hps hor hnz
          obtain ⟨hn0, hn1⟩ := hnz
          have hts' : takesTo zs x (p + 1) = takesTo zs x p + (if z = (mm : Int) then 1 else 0) := hts
          have hps' : passB zs x (p + 1) = (passB zs x p || decide ((mm : Int) < z)) := hps
          have hor' : passB zs x p = true → z ≠ (mm : Int) := hor
          obtain ⟨t, ht⟩ : ∃ t, t = takesTo zs x p := ⟨_, rfl⟩
          rw [← ht] at hts' htl ⊢
          obtain ⟨pb, hpb⟩ : ∃ t, t = passB zs x p := ⟨_, rfl⟩
          rw [← hpb] at hps' hor' ⊢
          have hnn : ¬ z < 0 := by omega
          have hnl : ¬ (ls.length : Int) ≤ z := by omega
          have hdn : decide (z < 0) = false := by simp; omega
          have hdl : decide (z ≥ (ls.length : Int)) = false := by simp; omega
          clear hts hps hor e1 hz hcc hqe ht hpb
          by_cases hzm : z = (mm : Int)
          · rw [if_pos hzm] at hts'
            have hpf : pb = false := by
              cases pb with
              | false => rfl
              | true => exact absurd hzm (hor' rfl)
            subst hpf
            have hdz : decide ((mm : Int) < z) = false := by simp; omega
            have hdz2 : decide (z > (mm : Int)) = false := hdz
            have hbq : (z == (mm : Int)) = true := by simp [hzm]
            have HT := Lib.hid hts'
            have HP := Lib.hid hps'
            clear hts' hps' hor' hzm
            go_wp2_with fail
            go_quiet (fail)
            go_wp2_with fail
            go_quiet (fail)
            go_wp2_with fail
            go_roundw
            case rel => exact ⟨p + 1, by omega, by go_num, by rw [HT.out]; go_num, by rw [HP.out, hdz]; rfl, (by first | exact below_drewN hBq _ | exact hBq.drew | exact below_drewN hBq.drew _ | exact (below_drewN hBq _).drew | exact hBq.drew.drew)⟩
            case measure => simp [intOf]; omega
          · rw [if_neg hzm] at hts'
            have hbq : (z == (mm : Int)) = false := by simp [hzm]
            have HT := Lib.hid hts'
            have HP := Lib.hid hps'
            clear hts' hps' hzm hor'
            cases pb
            · go_wp2_with fail
              go_quiet (fail)
              go_wp2_with fail
              go_quiet (fail)
              go_wp2_with fail
              go_roundw
              case rel => exact ⟨p + 1, by omega, by go_num, by rw [HT.out]; rfl, by rw [HP.out]; rfl, (by first | exact below_drewN hBq _ | exact hBq.drew | exact below_drewN hBq.drew _ | exact (below_drewN hBq _).drew | exact hBq.drew.drew)⟩
              case measure => simp [intOf]; omega
            · go_wp2_with fail
              go_quiet (fail)
              go_wp2_with fail
              go_quiet (fail)
              go_wp2_with fail
              go_roundw
              case rel => exact ⟨p + 1, by omega, by go_num, by rw [HT.out]; rfl, by rw [HP.out]; rfl, (by first | exact below_drewN hBq _ | exact hBq.drew | exact below_drewN hBq.drew _ | exact (below_drewN hBq _).drew | exact hBq.drew.drew)⟩
              case measure => simp [intOf]; omega
        · obtain rfl : p = x.items.length := by omega
          have hBn : Below w5.heap.size w5 wr := hBg.trans (hBq.mono hBg.size)
          obtain ⟨al', cl', hvl, hcl⟩ := RdLevs.below HRL.out hBn
          injection hvl with q1 q2 q3
          subst q1
          clear q2 q3
          obtain ⟨gl, ol, rfl, hgl, hcl⟩ := hcl (by omega)
          obtain ⟨sv', _, _, _, _, l3, _⟩ := hcl mm hmm
          have hgo : grpOkB ls zs x = !(decide (0 < takesTo zs x x.items.length) && decide ((takesTo zs x x.items.length : Int) < ls[mm].min)) := by
            unfold grpOkB
            rw [HLV.out, minAt_get hmm]
          rw [HGOK.out] at hgo
          obtain ⟨mn, hmn⟩ : ∃ z, z = ls[mm].min := ⟨_, rfl⟩
          rw [← hmn] at l3 hgo
          obtain ⟨t, ht⟩ : ∃ t, t = takesTo zs x x.items.length := ⟨_, rfl⟩
          rw [← ht] at htl hgo ⊢
          have HBN := Lib.hid hBn
          clear hmn ht hcl
          by_cases h0 : t = 0
          · have hgt : ¬ ((t : Int) > 0) := by omega
            clear hgo h0
            go_wp2_with fail
            go_roundw
            case rel => exact ⟨k + 1, by omega, by go_num, HBN.out⟩
            case measure => simp [intOf]; omega
          · have hgt : (t : Int) > 0 := by omega
            have hmt : ¬ (t : Int) < mn := fun h1 => by rw [decide_eq_true (by omega : 0 < t), decide_eq_true h1] at hgo; exact absurd hgo (by decide)
            clear hgo h0
            go_wp2_with fail
            go_roundw
            case rel => exact ⟨k + 1, by omega, by go_num, HBN.out⟩
            case measure => simp [intOf]; omega
    · obtain rfl : k = Gs.length := by omega
      obtain ⟨m0, m1, m2, m3⟩ := cells4 ((hB.block _ hm5).trans HN5.out)
      go_wp2_with (go_at_call 14; refine (HSV.out _ al cl ap cp (RdLevs.below HRL.out hB) (RdPces.below HRP.out hB)).mono ?_; rintro e w6 ⟨rfl, hb6⟩)
      go_ret
      exact ⟨by simp, HB5.out.trans ((hB.trans (hb6.mono hB.size)).mono HB5.out.size)⟩
theorem presortMeets_walk (n : Int) (least cents l : List UInt8) (vl vc vs : Value) (w : World) (hn0 : 0 ≤ n) (hn1 : n < 4294967296) (hrl : RdBytes w vl least) (hrc : RdBytes w vc cents) (hrs : RdBytesC w vs l)
    (hll : least.length ≤ maxLen) (hcl : cents.length ≤ maxLen) (hsl : l.length ≤ maxLen) :
    Calls Try.prog 4 #[.int .u32 n, vl, vc, vs] w fun e w' => e = .returned (.bool true) ∧ Below w.heap.size w w' :=
  meets_walk n vl vc vs _ _ w (made_has _ _ _ _) (made_c hn0 hn1 hrl hrc hrs hll hcl hsl (by decide))
end Go.Proofs.Ytpieagaggjngjaa
