/-
  PresortLeast: the walk.
-/
import Derived.Test.YtpieagaggjngjaaGI
import Derived.Test.YtpieagaggjngjaaP26
import Derived.Test.YtpieagaggjngjaaGJ
import Derived.BigQuiet
import Derived.Deep.DeepCutAuto
namespace Go.Proofs.Ytpieagaggjngjaa
open Go.RowKit Go.Sort
set_option linter.unusedVariables false
set_option maxRecDepth 100000
theorem pow_small {L k : Nat} (hL : L ≤ 6) (hk : k ≤ 6) : L ^ k ≤ 46656 := Nat.le_trans (Nat.pow_le_pow_left hL k) (Nat.pow_le_pow_right (by decide) hk)
theorem has_fit10 {ls : List Lev} {cs : List ByteArray} (h : HasPlan ls (mail25 cs)) : Fit ls cs := by
  have h1 := h.code
  have h2 := h.pre
  rw [mail_codesM] at h1 h2
  exact ⟨h.right, h1, h2⟩
theorem all_take {ls : List Lev} {zs : List Int} {Gs : List Grp} {j : Nat} (h : j < Gs.length) : (Gs.take (j + 1)).all (grpOkB ls zs) = ((Gs.take j).all (grpOkB ls zs) && grpOkB ls zs Gs[j]) := by
  rw [List.take_succ_eq_append_getElem h, List.all_append]
  simp
set_option maxHeartbeats 32000000 in
theorem least_walk (n : Int) (vl vc vs : Value) (ls : List Lev) (cs : List ByteArray) (w : World) (hc6 : cs.length ≤ 6) (h : HasPlan ls (mail25 cs)) (hM : MadeC #[.int .u32 n, vl, vc, vs, .int .i64 6] ls cs w) :
    Calls Try.prog 3 #[.int .u32 n, vl, vc, vs] w fun e w' => e = .returned (.bool true) ∧ Below w.heap.size w w' := by
  have HAW := Lib.hid (fun W => awake_any W)
  have HMD : Hid (MadeC #[.int .u32 n, vl, vc, vs, .int .i64 6] ls cs w) := hM
  have hlm : (mail25 cs).ps.length = cs.length := mailTo_len _ _
  have hcm : codesM (mail25 cs).ps = cs := mail_codesM cs
  have hfit := has_fit10 h
  have HCO := Lib.hid (fun W ap cp (hrp : RdPces W (.slice ap cs.length cp) (mail25 cs).ps) => codesL_any (mail25 cs) (.slice ap cs.length cp) W hrp (by omega))
  rw [hcm] at HCO
  have HGP := Lib.hid (fun W al cl vc (hr : RdLevs W (.slice al ls.length cl) ls) (hrc : ReadsT W vc (codesM (mail25 cs).ps)) => groups_of h hr hrc)
  rw [hcm] at HGP
  have HSV := Lib.hid (fun W al cl ap cp (hr : RdLevs W (.slice al ls.length cl) ls) (hrp : RdPces W (.slice ap cs.length cp) (mail25 cs).ps) => saves_any h hr hrp)
  have hval : ∀ zs : List Int, zs.length = cs.length → numsB ls.length zs = true → ∀ W al cl ap cp vz, RdLevs W (.slice al ls.length cl) ls → RdPces W (.slice ap cs.length cp) (mail25 cs).ps → RdInts W vz zs → Calls Try.prog 15 #[.slice al ls.length cl, maiV (mail25 cs) (.slice ap cs.length cp), vz] W fun e w' => e = .returned (.tuple #[.bool (grpsOkB ls zs (gAll ls cs ls.length)), .int .i64 0]) ∧ Below W.heap.size W w' := fun zs hz hzn W al cl ap cp vz hr hrp hrz => by
    have := valid_of h hr hrp hrz (by rw [hlm]; exact hz) hzn
    rwa [hcm] at this
  have HVL := Lib.hid hval
  unfold maiV mail25 at HCO HSV HVL
  dsimp only at HCO HSV HVL
  have hgl := h.groups_few
  rw [hcm] at hgl
  have hitems := gAll_items (ls := ls) (cs := cs)
  have hl6 := (right_len h.right).2
  have hl1 := (right_len h.right).1
  have hbt := bestTo_all hfit
  have hsv0 : 0 ≤ savesM ls (mail25 cs) := (saves_bound h.right h.nums (mail25 cs).ps.length (by rw [planM_len]; exact Nat.le_refl _)).1
  have hsb : savesM ls (mail25 cs) = bestS ls cs := by
    unfold savesM bestS planM
    rw [hcm, hlm]
  rw [← hsb] at hbt
  have hsvb : ∀ k p, p ≤ cs.length → 0 ≤ savesTo ls (digs ls.length cs.length k) p ∧ savesTo ls (digs ls.length cs.length k) p ≤ p * 1000000 := fun k p hp => saves_bound h.right (digs_nums (by omega) _ _) p (by rw [digs_len]; exact hp)
  have hcents : ∀ i (hi : i < ls.length), 0 ≤ ls[i].cents ∧ ls[i].cents ≤ 1000000 := fun i hi => by
    obtain ⟨h1, _, ⟨_, hlv, _, _⟩, _⟩ := rightB_iff.1 h.right
    obtain ⟨hh, _⟩ := levelB_iff.1 (hlv i hi hi)
    exact ⟨(head_parts hh).2.2.2.1, (head_parts hh).2.2.2.2⟩
  obtain ⟨sv, hsv⟩ : ∃ z, z = savesM ls (mail25 cs) := ⟨_, rfl⟩
  rw [← hsv] at hbt hsv0
  unfold mail25 at hsv
  rw [← hsv] at HSV
  have hsvn : ¬ sv < 0 := by omega
  obtain ⟨Gs, hGs⟩ : ∃ z, z = gAll ls cs ls.length := ⟨_, rfl⟩
  rw [← hGs] at HGP hgl hitems HVL hbt
  have HIT := Lib.hid hitems
  have HBT := Lib.hid hbt
  have HSB := Lib.hid hsvb
  have HCE := Lib.hid hcents
  clear hitems hGs h hM hlm hcm hsb hsv hbt hsvb hcents hval hsv0 hfit
  go_enter Try.func3, Try.ntmps3
  go_wp2_with (first
    | (go_at_call 10; refine (HAW.out _).mono ?_; rintro e w1 ⟨rfl, hb1⟩)
    | (go_at_call 11; refine (HMD.out _ hb1).mono ?_; rintro e w2 ⟨al, cl, ap, cp, rfl, hb2, hr2, hp2⟩; have hB2 : Below w.heap.size w w2 := hb1.trans (hb2.mono hb1.size); (have hA2 : Below w2.heap.size w2 (w2.alloc (.cells #[.int .u8 1, .int .u8 1, .string ⟨#[49, 48, 48, 48, 48]⟩, .slice ap cs.length cp] 28)) := (Below.refl _ w2).alloc (Nat.le_refl _) _); (have hz2 : (w2.alloc (.cells #[.int .u8 1, .int .u8 1, .string ⟨#[49, 48, 48, 48, 48]⟩, .slice ap cs.length cp] 28)).heap.size = w2.heap.size + 1 := World.size_alloc _ _); (have hn2 := alloc_new w2 (.cells #[.int .u8 1, .int .u8 1, .string ⟨#[49, 48, 48, 48, 48]⟩, .slice ap cs.length cp] 28)))
    | (go_at_call 13; refine (HCO.out _ ap cp (RdPces.below hp2 hA2)).mono ?_; rintro e w3 ⟨u, rfl, hb3, hrc3⟩; (have hA3 : Below w2.heap.size w2 w3 := hA2.trans (hb3.mono hA2.size)); (have hs3 : w2.heap.size < w3.heap.size := by have := hb3.size; omega); (have hn3 := (hb3.block _ (by omega)).trans hn2))
    | (go_at_call 12; refine (HGP.out _ al cl _ (RdLevs.below hr2 hA3) hrc3).mono ?_; rintro e w4 ⟨ag, cg, rfl, hb4, hrg⟩; (have hA4 : Below w2.heap.size w2 w4 := hA3.trans (hb4.mono hA3.size)); (have hn4 := (hb4.block _ hs3).trans hn3); obtain ⟨m0, m1, m2, m3⟩ := cells4 hn4)
    | (go_at_call 14; refine (HSV.out _ al cl ap cp (RdLevs.below hr2 hA4) (RdPces.below hp2 hA4)).mono ?_; rintro e w5 ⟨rfl, hb5⟩; (have hA5 : Below w2.heap.size w2 w5 := hA4.trans (hb5.mono hA4.size)); (have hn5 := (hb5.block _ (Nat.lt_of_lt_of_le hs3 hb4.size)).trans hn4); clear m0 m1 m2 m3; obtain ⟨m0, m1, m2, m3⟩ := cells4 hn5))
  have HB5 : Hid (Below w.heap.size w w5) := hB2.trans (hA5.mono hB2.size)
  have HRG := Lib.hid (RdGrps.below hrg hb5)
  have HRL := Lib.hid (RdLevs.below hr2 hA5)
  have HRP := Lib.hid (RdPces.below hp2 hA5)
  have HN5 := Lib.hid hn5
  have hm5 : w2.heap.size < w5.heap.size := (Array.getElem?_eq_some_iff.1 hn5).1
  have M3 := Lib.hid m3
  clear hb1 hB2 hb2 hb3 hb4 hb5 hrg hA2 hA3 hA4 hA5 hn2 hn3 hn4 hn5 m0 m1 m2 hr2 hp2 hrc3 hz2 hs3 HAW HMD HCO HGP HSV
  go_loopw [14, 58] (fun a i wx => ∃ k : Nat, k ≤ cs.length ∧ i = .int .i64 k ∧ a = .int .i64 ((ls.length ^ k : Nat) : Int) ∧ Below w5.heap.size w5 wx) (fun _ i _ => cs.length - (intOf i).toNat)
  case atStart => exact ⟨0, Nat.zero_le _, rfl, by simp, Below.refl _ _⟩
  case round =>
    clear m3
    obtain ⟨k, hk, rfl, rfl, hB⟩ := hrel
    by_cases hlt : k < cs.length
    · have hp0 := pow_small hl6 (k := k) (by omega)
      have hp1 := pow_small hl6 (k := k + 1) (by omega)
      have hps : ls.length ^ (k + 1) = ls.length ^ k * ls.length := Nat.pow_succ _ _
      have hwm : IntKind.i64.wrap ((ls.length ^ k : Nat) * (ls.length : Int)) = ((ls.length ^ (k + 1) : Nat) : Int) := by
        rw [hps, Int.natCast_mul]
        exact IntWalk.i64_in _ (by rw [← Int.natCast_mul, ← hps]; omega)
      obtain ⟨pk, hpk⟩ : ∃ pk, pk = ls.length ^ k := ⟨_, rfl⟩
      obtain ⟨pk1, hpk1⟩ : ∃ pk, pk = ls.length ^ (k + 1) := ⟨_, rfl⟩
      have HPK1 := Lib.hid hpk1
      rw [← hpk, ← hpk1] at hwm
      rw [← hpk]
      clear hp0 hp1 hps hpk hpk1
      go_wp2_with fail
      go_roundw
      case rel => exact ⟨k + 1, by omega, by go_num, by rw [← HPK1.out], hB⟩
      case measure => simp [intOf]; omega
    · obtain rfl : k = cs.length := by omega
      obtain ⟨wo, hwo⟩ : ∃ x, x = wr := ⟨_, rfl⟩
      subst hwo
      have hp0 := pow_small hl6 (k := cs.length) hc6
      obtain ⟨N, hN⟩ : ∃ N, N = ls.length ^ cs.length := ⟨_, rfl⟩
      have hbt := HBT.out
      rw [← hN] at hbt hp0 ⊢
      have HBT' := Lib.hid hbt
      have m3 : wo.cell? ⟨w2.heap.size, 3, none⟩ = some (.slice ap cs.length cp) := (hB.cell (p := ⟨w2.heap.size, 3, none⟩) hm5).trans M3.out
      have hmk := fun W => run_make_row' (P := Try.prog) 38 3 (.int .i64 0) 8 Try.underlying38 Try.infoI rfl .i64 .i64 cs.length (by omega) (by omega) W
      have hwo5 := hB.size
      have hIA := made_ints wo cs.length
      have hBA : Below w5.heap.size w5 (wo.alloc (.cells (madeCells #[.int .i64 0] cs.length) 3)) := hB.alloc hB.size _
      have hzA : (wo.alloc (.cells (madeCells #[.int .i64 0] cs.length) 3)).heap.size = wo.heap.size + 1 := World.size_alloc _ _
      clear hbt HBT hN
      go_wp2_with fail
      go_loopw [16, 17] (fun b i wx => ∃ (k : Nat) (zs : List Int), k ≤ N ∧ i = .int .i64 k ∧ b = .int .i64 (bestTo ls Gs cs.length k) ∧ Below w5.heap.size w5 wx ∧ IntsAt wx wo.heap.size zs ∧ zs.length = cs.length) (fun _ i _ => N - (intOf i).toNat)
      case atStart => exact ⟨0, _, Nat.zero_le _, rfl, rfl, hBA, hIA, by simp⟩
      case round =>
        clear hmk hBA hIA hB m3 hzA
        obtain ⟨wp, hwp⟩ : ∃ x, x = wr := ⟨_, rfl⟩
        subst hwp
        obtain ⟨k, zs, hk, rfl, rfl, hB, hI, hzl⟩ := hrel
        have HI := Lib.hid hI
        have HZL := Lib.hid hzl
        have hPs := hI.lt
        clear hI hzl
        by_cases hlt : k < N
        · have hDl := digs_len ls.length cs.length k
          have hDn := digs_nums (L := ls.length) (by omega) cs.length k
          have hBS : bestTo ls Gs cs.length (k + 1) = if grpsOkB ls (digs ls.length cs.length k) Gs = true then max (bestTo ls Gs cs.length k) (savesTo ls (digs ls.length cs.length k) cs.length) else bestTo ls Gs cs.length k := by rw [bestTo]
          have hSBk := HSB.out k
          obtain ⟨be, hbe⟩ : ∃ z, z = bestTo ls Gs cs.length k := ⟨_, rfl⟩
          rw [← hbe] at hBS ⊢
          obtain ⟨D, hD⟩ : ∃ D, D = digs ls.length cs.length k := ⟨_, rfl⟩
          rw [← hD] at hDl hDn hBS hSBk
          have hDa : ∀ p (hp : p < D.length), D[p] = ((k / ls.length ^ p % ls.length : Nat) : Int) := fun p hp => by
            simp only [hD]
            exact digs_at ls.length cs.length k p (by rw [← hD]; exact hp)
          have HD := Lib.hid hD
          have HBS := Lib.hid hBS
          have HDL := Lib.hid hDl
          have HDN := Lib.hid hDn
          have HDA := Lib.hid hDa
          have HSBK := Lib.hid hSBk
          clear hbe hD hDl hDn hDa hBS hSBk
          go_wp2_with fail
          go_loopw [18, 19, 20] (fun s i r wq => ∃ (p : Nat) (zs : List Int), p ≤ cs.length ∧ i = .int .i64 p ∧ s = .int .i64 (savesTo ls D p) ∧ r = .int .i64 ((k / ls.length ^ p : Nat) : Int) ∧ Below w5.heap.size w5 wq ∧ IntsAt wq wo.heap.size zs ∧ zs.length = cs.length ∧ zs.take p = D.take p) (fun _ i _ _ => cs.length - (intOf i).toNat)
          case atStart => exact ⟨0, zs, Nat.zero_le _, rfl, by simp [savesTo], by simp, hB, HI.out, HZL.out, by simp⟩
          case round =>
            clear hB
            obtain ⟨p, zq, hp, rfl, rfl, rfl, hBq, hIq, hzq, htk⟩ := hrel
            by_cases hltp : p < cs.length
            · have hpD : p < D.length := by rw [HDL.out]; exact hltp
              have hdp := HDA.out p hpD
              have hss := savesTo_succ ls D p hpD
              have hsb0 := HSBK.out p hp
              have hstep := digs_step (L := ls.length) (k := k) hltp hzq (by rw [← HD.out]; exact htk)
              rw [← HD.out] at hstep
              have hqN : k / ls.length ^ p ≤ k := Nat.div_le_self _ _
              have hqn : k / ls.length ^ (p + 1) = k / ls.length ^ p / ls.length := by rw [Nat.pow_succ, Nat.div_div_eq_div_mul]
              obtain ⟨q, hq⟩ : ∃ q : Nat, q = k / ls.length ^ p := ⟨_, rfl⟩
              rw [← hq] at hdp hstep hqN hqn ⊢
              have hdL : q % ls.length < ls.length := Nat.mod_lt _ (by omega)
              have hrem : (q : Int).tmod (ls.length : Int) = ((q % ls.length : Nat) : Int) := by rw [Int.tmod_eq_emod_of_nonneg (Int.natCast_nonneg _)]; rfl
              have hquo : (q : Int).tdiv (ls.length : Int) = ((q / ls.length : Nat) : Int) := by rw [Int.tdiv_eq_ediv_of_nonneg (Int.natCast_nonneg _)]; rfl
              obtain ⟨d, hd⟩ : ∃ d, d = q % ls.length := ⟨_, rfl⟩
              rw [← hd] at hdp hrem hdL hstep
              have hqd : q / ls.length ≤ q := Nat.div_le_self _ _
              obtain ⟨q2, hq2⟩ : ∃ q2, q2 = q / ls.length := ⟨_, rfl⟩
              rw [← hq2] at hquo hqn hqd
              have hca : centsAt ls D[p] = ls[d].cents := by
                rw [hdp]
                unfold centsAt
                rw [Int.toNat_natCast, List.getD_eq_getElem?_getD, List.getElem?_eq_getElem hdL]; rfl
              rw [hca] at hss
              have hcb := HCE.out d hdL
              have e1 := hIq.cell (i := p) (by omega)
              have e0 := hIq.free p
              have hI1 := hIq.set p (d : Int)
              have g1 : (wr.setCell ⟨wo.heap.size, p, none⟩ (.int .i64 (d : Int))).cell? ⟨wo.heap.size, p, none⟩ = some (.int .i64 (d : Int)) := by
                rw [hI1.cell (i := p) (by rw [List.length_set]; omega), List.getD_eq_getElem?_getD, List.getElem?_set_self (by omega)]; rfl
              have hB1 : Below w5.heap.size w5 (wr.setCell ⟨wo.heap.size, p, none⟩ (.int .i64 (d : Int))) := hBq.setCell hwo5 _
              obtain ⟨al', cl', hvl, hcl⟩ := HRL.out
              injection hvl with q1 q2' q3
              subst q1
              clear q2' q3
              obtain ⟨gl, ol, rfl, hgl2, hcl⟩ := hcl (by omega)
              obtain ⟨sv', _, _, _, _, _, l4⟩ := hcl d hdL
              replace l4 := (hB1.cell (p := ⟨gl, ol + d * 5 + 4, none⟩) hgl2).trans l4
              obtain ⟨c, hc⟩ : ∃ c, c = ls[d].cents := ⟨_, rfl⟩
              rw [← hc] at l4 hss hcb
              obtain ⟨s, hs⟩ : ∃ s, s = savesTo ls D p := ⟨_, rfl⟩
              rw [← hs] at hss hsb0 ⊢
              have hsb1 : 0 ≤ s ∧ s ≤ 6000000 := by omega
              obtain ⟨W1, hW1⟩ : ∃ W1, W1 = wr.setCell ⟨wo.heap.size, p, none⟩ (.int .i64 (d : Int)) := ⟨_, rfl⟩
              have HI1 : Hid (IntsAt W1 wo.heap.size (zq.set p (d : Int))) := by rw [hW1]; exact hI1
              have HB1 : Hid (Below w5.heap.size w5 W1) := by rw [hW1]; exact hB1
              have HW1 := Lib.hid hW1
              have HSS := Lib.hid hss
              have HST := Lib.hid hstep
              have HQN := Lib.hid hqn
              have HZQ := Lib.hid hzq
              have hL0 : ¬ (ls.length : Int) = 0 := by omega
              clear hdp hss hsb0 hq hd hca hc hs hW1 hI1 hB1 hcl hIq hzq htk hstep hqn hq2
              go_wp2_with fail
              rw [← HW1.out]
              go_quiet (fail)
              go_wp2_with fail
              go_roundw
              case rel => exact ⟨p + 1, zq.set p (d : Int), by omega, by go_num, by rw [HSS.out], by rw [HQN.out], (by first | exact below_drewN HB1.out _ | exact HB1.out.drew), HI1.out, by rw [List.length_set]; exact HZQ.out, HST.out⟩
              case measure => simp [intOf]; omega
            · obtain rfl : p = cs.length := by omega
              have hzD : zq = D := by
                rwa [List.take_of_length_le (by omega), List.take_of_length_le (by rw [HDL.out]; exact Nat.le_refl _)] at htk
              subst hzD
              have hsb0 := HSBK.out cs.length (Nat.le_refl _)
              obtain ⟨sN, hsN⟩ : ∃ s, s = savesTo ls zq cs.length := ⟨_, rfl⟩
              have hbs := HBS.out
              rw [← hsN] at hsb0 hbs ⊢
              have HBS' := Lib.hid hbs
              have HIQ := Lib.hid hIq
              clear hsN hbs HBS htk hzq hsb0
              go_wp2_with fail
              go_loopw [21, 104] (fun f i wq => ∃ j : Nat, j ≤ Gs.length ∧ i = .int .i64 j ∧ f = .bool ((Gs.take j).all (grpOkB ls zq)) ∧ Below w5.heap.size w5 wq ∧ IntsAt wq wo.heap.size zq) (fun _ i _ => Gs.length - (intOf i).toNat)
              case atStart => exact ⟨0, Nat.zero_le _, rfl, rfl, hBq, HIQ.out⟩
              case round =>
                clear hBq
                obtain ⟨wg, hwg⟩ : ∃ x, x = wr := ⟨_, rfl⟩
                subst hwg
                obtain ⟨j, hj, rfl, rfl, hB, hI⟩ := hrel
                have HID := Lib.hid hI
                have hPg := hI.lt
                clear hI
                by_cases hltj : j < Gs.length
                · have hat := all_take (ls := ls) (zs := zq) hltj
                  obtain ⟨ag', cg', hvg, hgr⟩ := HRG.out
                  injection hvg with q1 q2 q3
                  subst q1
                  clear q2 q3
                  obtain ⟨gg, og, rfl, hgg, hcg⟩ := hgr (by omega)
                  obtain ⟨sv', hsv, g0, g1, g2, g3⟩ := hcg j hltj
                  replace g0 := (hB.cell (p := ⟨gg, og + j * 4, none⟩) hgg).trans g0
                  replace g1 := (hB.cell (p := ⟨gg, og + j * 4 + 1, none⟩) hgg).trans g1
                  replace g2 := (hB.cell (p := ⟨gg, og + j * 4 + 2, none⟩) hgg).trans g2
                  replace g3 := (hB.cell (p := ⟨gg, og + j * 4 + 3, none⟩) hgg).trans g3
                  obtain ⟨hi1, ⟨mm, hmm, hlv⟩, hi3⟩ := HIT.out _ (List.getElem_mem hltj)
                  obtain ⟨x, hx⟩ : ∃ x, x = Gs[j] := ⟨_, rfl⟩
                  rw [← hx] at hsv g0 g1 g2 hi1 hlv hi3 hat
                  rw [hlv] at g0
                  obtain ⟨nm, hnm⟩ : ∃ z, z = x.name := ⟨_, rfl⟩
                  obtain ⟨up, hup⟩ : ∃ z, z = x.up := ⟨_, rfl⟩
                  rw [← hnm] at g1
                  rw [← hup] at g2
                  obtain ⟨ai, ci, rfl, hci⟩ := hsv
                  obtain ⟨f, hf⟩ : ∃ f, f = (Gs.take j).all (grpOkB ls zq) := ⟨_, rfl⟩
                  rw [← hf] at hat ⊢
                  obtain ⟨CG, hCG⟩ : ∃ c, c = Obj.cells #[.int .i64 mm, .string nm, .int .i64 up, .slice ai x.items.length ci] 43 (0, 0) := ⟨_, rfl⟩
                  have hbc : Below wg.heap.size wg (wg.alloc CG) := (Below.refl _ _).alloc (Nat.le_refl _) _
                  have q0 : (wg.alloc CG).cell? ⟨wg.heap.size, 0, none⟩ = some (.int .i64 mm) := by rw [hCG]; exact cell_of_row _ _ 0 _ _ _ (alloc_new wg _)
                  have q3 : (wg.alloc CG).cell? ⟨wg.heap.size, 3, none⟩ = some (.slice ai x.items.length ci) := by rw [hCG]; exact cell_of_row _ _ 3 _ _ _ (alloc_new wg _)
                  have hBg : Below w5.heap.size w5 (wg.alloc CG) := hB.alloc hB.size _
                  have hz1 : (wg.alloc CG).heap.size = wg.heap.size + 1 := World.size_alloc _ _
                  have hTS := fun p (hp : p < x.items.length) => takes_succ zq x hp
                  have HTS := Lib.hid hTS
                  have HLV := Lib.hid hlv
                  have HI3 := Lib.hid hi3
                  have HCI := Lib.hid hci
                  have HQ0 := Lib.hid q0
                  have HZ1 := Lib.hid hz1
                  have HBC := Lib.hid hbc
                  have HBG := Lib.hid hBg
                  have HAT := Lib.hid hat
                  have hw5g : w5.heap.size ≤ wg.heap.size := hB.size
                  clear hTS hlv hi3 hci hgr hcg hnm hup hx q0 hz1 hbc hat hf hBg
                  go_wp2_with fail
                  rw [← hCG]
                  have HCG := Lib.hid hCG
                  clear hCG
                  go_loopw [24, 111] (fun t i wq => ∃ p : Nat, p ≤ x.items.length ∧ i = .int .i64 p ∧ t = .int .i64 (takesTo zq x p : Nat) ∧ Below (wg.alloc CG).heap.size (wg.alloc CG) wq) (fun _ i _ => x.items.length - (intOf i).toNat)
                  case atStart => exact ⟨0, Nat.zero_le _, rfl, by simp [takesTo], Below.refl _ _⟩
                  case round =>
                    clear q3
                    obtain ⟨p, hp, rfl, rfl, hBq⟩ := hrel
                    have hz1 := HZ1.out
                    have r0 := (hBq.cell (p := ⟨wg.heap.size, 0, none⟩) (by show wg.heap.size < _; omega)).trans HQ0.out
                    have htl := takes_le zq x p
                    have hBn : Below w5.heap.size w5 wr := HBG.out.trans (hBq.mono HBG.out.size)
                    have hBo : Below wg.heap.size wg wr := HBC.out.trans (hBq.mono HBC.out.size)
                    have hIr : IntsAt wr wo.heap.size zq := HID.out.below hBo hPg
                    by_cases hltp : p < x.items.length
                    · obtain ⟨gi, oi, rfl, hgi, hcc⟩ := HCI.out (by omega)
                      obtain ⟨q, hq, hqe⟩ := HI3.out _ (List.getElem_mem hltp)
                      have hts := HTS.out p hltp
                      have e1 := hcc p hltp
                      rw [hqe] at e1 hts
                      have e1' : wr.cell? ⟨gi, oi + p, none⟩ = some (.int .i64 q) := (hBn.cell (p := ⟨gi, oi + p, none⟩) hgi).trans e1
                      have e2 := hIr.cell (i := q) (by rw [HDL.out]; exact hq)
                      have hqz : q < zq.length := by rw [HDL.out]; exact hq
                      rw [Int.toNat_natCast, HLV.out] at hts
                      obtain ⟨z, hz⟩ : ∃ z, z = zq.getD q (-1) := ⟨_, rfl⟩
                      rw [← hz] at e2 hts
                      obtain ⟨t, ht⟩ : ∃ t, t = takesTo zq x p := ⟨_, rfl⟩
                      rw [← ht] at hts htl ⊢
                      have HBQ := Lib.hid hBq
                      clear e1 hz hcc hqe ht hBn hBo hIr hBq
                      by_cases hzm : z = (mm : Int)
                      · rw [if_pos hzm] at hts
                        have hbq : (z == (mm : Int)) = true := by simp [hzm]
                        have HT := Lib.hid hts
                        clear hts hzm
                        go_wp2_with fail
                        go_quiet (fail)
                        go_wp2_with fail
                        go_roundw
                        case rel => exact ⟨p + 1, by omega, by go_num, by rw [HT.out]; go_num, below_drewN HBQ.out _⟩
                        case measure => simp [intOf]; omega
                      · rw [if_neg hzm] at hts
                        have hbq : (z == (mm : Int)) = false := by simp [hzm]
                        have HT := Lib.hid hts
                        clear hts hzm
                        go_wp2_with fail
                        go_quiet (fail)
                        go_wp2_with fail
                        go_roundw
                        case rel => exact ⟨p + 1, by omega, by go_num, by rw [HT.out]; rfl, below_drewN HBQ.out _⟩
                        case measure => simp [intOf]; omega
                    · obtain rfl : p = x.items.length := by omega
                      obtain ⟨al', cl', hvl, hcl⟩ := HRL.out
                      injection hvl with q1 q2 q3
                      subst q1
                      clear q2 q3
                      obtain ⟨gl, ol, rfl, hgl2, hcl⟩ := hcl (by omega)
                      obtain ⟨sv', _, _, _, _, l3, _⟩ := hcl mm hmm
                      replace l3 := (hBn.cell (p := ⟨gl, ol + mm * 5 + 3, none⟩) hgl2).trans l3
                      have hgo : grpOkB ls zq x = !(decide (0 < takesTo zq x x.items.length) && decide ((takesTo zq x x.items.length : Int) < ls[mm].min)) := by
                        unfold grpOkB
                        rw [HLV.out, minAt_get hmm]
                      obtain ⟨mn, hmn⟩ : ∃ z, z = ls[mm].min := ⟨_, rfl⟩
                      rw [← hmn] at l3 hgo
                      obtain ⟨t, ht⟩ : ∃ t, t = takesTo zq x x.items.length := ⟨_, rfl⟩
                      rw [← ht] at htl hgo ⊢
                      have HBN := Lib.hid hBn
                      have HIR := Lib.hid hIr
                      clear hmn ht hcl hBn hBo hIr hBq
                      cases f
                      · clear hgo
                        go_wp2_with fail
                        go_roundw
                        case rel => exact ⟨j + 1, by omega, by go_num, by rw [HAT.out]; rfl, HBN.out, HIR.out⟩
                        case measure => simp [intOf]; omega
                      · by_cases h0 : t = 0
                        · have hok : grpOkB ls zq x = true := by rw [hgo, h0]; simp
                          have HK := Lib.hid hok
                          have hte : ((t : Int) == 0) = true := by simp [h0]
                          clear hok hgo h0
                          go_wp2_with fail
                          go_roundw
                          case rel => exact ⟨j + 1, by omega, by go_num, by rw [HAT.out, HK.out]; rfl, HBN.out, HIR.out⟩
                          case measure => simp [intOf]; omega
                        · have hte : ((t : Int) == 0) = false := by simp; omega
                          by_cases hmt : (t : Int) < mn
                          · have hok : grpOkB ls zq x = false := by rw [hgo, decide_eq_true (by omega), decide_eq_true hmt]; rfl
                            have HK := Lib.hid hok
                            have hnge : ¬ (t : Int) ≥ mn := by omega
                            clear hok hgo h0
                            go_wp2_with fail
                            go_roundw
                            case rel => exact ⟨j + 1, by omega, by go_num, by rw [HAT.out, HK.out]; rfl, HBN.out, HIR.out⟩
                            case measure => simp [intOf]; omega
                          · have hok : grpOkB ls zq x = true := by rw [hgo, decide_eq_false hmt]; simp
                            have HK := Lib.hid hok
                            have hge : (t : Int) ≥ mn := by omega
                            clear hok hgo h0
                            go_wp2_with fail
                            go_roundw
                            case rel => exact ⟨j + 1, by omega, by go_num, by rw [HAT.out, HK.out]; rfl, HBN.out, HIR.out⟩
                            case measure => simp [intOf]; omega
                · obtain rfl : j = Gs.length := by omega
                  have hfb : (Gs.take Gs.length).all (grpOkB ls zq) = grpsOkB ls zq Gs := by rw [List.take_of_length_le (Nat.le_refl _)]; rfl
                  have hvl := HVL.out zq HDL.out HDN.out
                  have hbs := HBS'.out
                  rw [hfb]
                  obtain ⟨fb, hfe⟩ : ∃ fb, fb = grpsOkB ls zq Gs := ⟨_, rfl⟩
                  rw [← hfe] at hbs ⊢
                  simp only [← hfe] at hvl
                  have HV := Lib.hid hvl
                  have hRD : RdInts wg (.slice (some ⟨wo.heap.size, 0, none⟩) cs.length cs.length) zq := by
                    have := (RowJ.of_ints (base := 0) HID.out (Nat.zero_le _) cs.length).rd
                    rwa [HDL.out] at this
                  have HRD := Lib.hid hRD
                  have HBW := Lib.hid hB
                  obtain ⟨m0, m1, m2, m3⟩ := cells4 ((hB.block _ hm5).trans HN5.out)
                  obtain ⟨r, hr⟩ : ∃ r, (k : Int).tmod 97 = r := ⟨_, rfl⟩
                  clear hvl hfe hfb hRD
                  by_cases hr0 : r = 0
                  · subst hr0
                    cases fb
                    · rw [if_neg (by simp)] at hbs
                      have HE := Lib.hid hbs
                      clear hbs
                      go_wp2_with (go_at_call 15; refine (HV.out _ al cl ap cp _ (RdLevs.below HRL.out HBW.out) (RdPces.below HRP.out HBW.out) HRD.out).mono ?_; rintro e w10 ⟨rfl, hb10⟩)
                      go_roundw
                      case rel => exact ⟨k + 1, zq, by omega, by go_num, by rw [HE.out], HBW.out.trans (hb10.mono HBW.out.size), HID.out.below hb10 hPg, HDL.out⟩
                      case measure => simp [intOf]; omega
                    · rw [if_pos rfl] at hbs
                      have HE := Lib.hid hbs
                      clear hbs
                      go_wp2_with (go_at_call 15; refine (HV.out _ al cl ap cp _ (RdLevs.below HRL.out HBW.out) (RdPces.below HRP.out HBW.out) HRD.out).mono ?_; rintro e w10 ⟨rfl, hb10⟩)
                      go_roundw
                      case rel => exact ⟨k + 1, zq, by omega, by go_num, by rw [HE.out], HBW.out.trans (hb10.mono HBW.out.size), HID.out.below hb10 hPg, HDL.out⟩
                      case measure => simp [intOf]; omega
                  · have hrb : (r == 0) = false := by simp [hr0]
                    clear hr0
                    cases fb
                    · rw [if_neg (by simp)] at hbs
                      have HE := Lib.hid hbs
                      clear hbs
                      go_wp2_with fail
                      go_roundw
                      case rel => exact ⟨k + 1, zq, by omega, by go_num, by rw [HE.out], HBW.out, HID.out, HDL.out⟩
                      case measure => simp [intOf]; omega
                    · rw [if_pos rfl] at hbs
                      have HE := Lib.hid hbs
                      clear hbs
                      go_wp2_with fail
                      go_roundw
                      case rel => exact ⟨k + 1, zq, by omega, by go_num, by rw [HE.out], HBW.out, HID.out, HDL.out⟩
                      case measure => simp [intOf]; omega
        · obtain rfl : k = N := by omega
          have hbt := HBT'.out
          rw [hbt]
          go_wp2_with fail
          go_ret
          exact ⟨by simp, HB5.out.trans (hB.mono HB5.out.size)⟩
theorem presortLeast_walk (n : Int) (least cents l : List UInt8) (vl vc vs : Value) (w : World) (hn0 : 0 ≤ n) (hn1 : n < 4294967296) (hrl : RdBytes w vl least) (hrc : RdBytes w vc cents) (hrs : RdBytesC w vs l)
    (hll : least.length ≤ maxLen) (hcl : cents.length ≤ maxLen) (hsl : l.length ≤ maxLen) :
    Calls Try.prog 3 #[.int .u32 n, vl, vc, vs] w fun e w' => e = .returned (.bool true) ∧ Below w.heap.size w w' :=
  least_walk n vl vc vs _ _ w (codesOf_len l 6) (made_has _ _ _ _) (made_c hn0 hn1 hrl hrc hrs hll hcl hsl (by decide))
end Go.Proofs.Ytpieagaggjngjaa
