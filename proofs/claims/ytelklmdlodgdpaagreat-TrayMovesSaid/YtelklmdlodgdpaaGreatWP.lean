/-
  presort.Valid.
-/
import Derived.Test.YtelklmdlodgdpaaGreatGE
import Derived.Test.YtelklmdlodgdpaaGreatGC
import Derived.Test.YtelklmdlodgdpaaGreatGF
import Derived.Deep.DeepCutAuto
import Derived.Deep.CutBlock
import Derived.BigQuiet
namespace Go.Proofs.YtelklmdlodgdpaaGreat
open Go.RowKit Go.Sort
set_option linter.unusedVariables false
set_option maxRecDepth 100000
def takesTo (zs : List Int) (x : Grp) (k : Nat) : Nat := (x.items.take k).countP (fun i => decide (zs.getD i.toNat (-1) = x.lvl))
def minAt (ls : List Lev) (z : Int) : Int := (ls.getD z.toNat ⟨⟨#[]⟩, 0, [], 0, 0⟩).min
def grpOkB (ls : List Lev) (zs : List Int) (x : Grp) : Bool := !(decide (0 < takesTo zs x x.items.length) && decide ((takesTo zs x x.items.length : Int) < minAt ls x.lvl))
def grpsOkB (ls : List Lev) (zs : List Int) (Gs : List Grp) : Bool := Gs.all (grpOkB ls zs)
theorem takes_succ (zs : List Int) (x : Grp) {k : Nat} (h : k < x.items.length) : takesTo zs x (k + 1) = takesTo zs x k + (if zs.getD x.items[k].toNat (-1) = x.lvl then 1 else 0) := by
  unfold takesTo
  rw [List.take_succ_eq_append_getElem h, List.countP_append, List.countP_singleton]
  simp
theorem takes_le (zs : List Int) (x : Grp) (k : Nat) : takesTo zs x k ≤ k := by
  unfold takesTo
  refine Nat.le_trans (List.countP_le_length) ?_
  rw [List.length_take]; omega
theorem minAt_get {ls : List Lev} {z : Nat} (h : z < ls.length) : minAt ls (z : Int) = ls[z].min := by
  unfold minAt
  rw [Int.toNat_natCast, List.getD_eq_getElem?_getD, List.getElem?_eq_getElem h]; rfl
theorem mail_parts {m : Mai} (h : mailB m = true) : m.ps.length ≤ 2000 ∧ ∀ p ∈ m.ps, codeB p.code = true := by
  unfold mailB at h
  simp only [Bool.and_eq_true, decide_eq_true_eq] at h
  have hp : ∀ (l : List Pce) (b : Int), pcsB b l = true → ∀ p ∈ l, codeB p.code = true := by
    intro l
    induction l with
    | nil => intro b _ p hp; cases hp
    | cons q r ih =>
      intro b hb p hp
      unfold pcsB at hb
      rw [Bool.and_eq_true] at hb
      rcases List.mem_cons.1 hp with rfl | hp
      · have h1 := hb.1
        unfold pcB at h1
        simp only [Bool.and_eq_true] at h1
        exact h1.2.1
      · exact ih _ hb.2 p hp
  exact ⟨h.2.2.1, hp _ _ h.2.2.2⟩
theorem gTo_bound2 (ls : List Lev) (cs : List ByteArray) : (gAll ls cs ls.length).length ≤ ls.length * cs.length := by
  have h := (gTo_len ls cs ls.length (Nat.le_refl _)).1
  rwa [gTo_closed ls cs ls.length (Nat.le_refl _)] at h
open Classical in
noncomputable def validR (ls : List Lev) (m : Mai) (zs : List Int) : Bool × Int :=
  if rightB ls = true ∧ mailB m = true ∧ zs.length = m.ps.length ∧ numsB ls.length zs = true then
    (if (codesM m.ps).any (shortB ls) = true then (false, 6) else (grpsOkB ls zs (gAll ls (codesM m.ps) ls.length), 0)) else (false, 2)
set_option maxHeartbeats 16000000 in
theorem valid_any (ls : List Lev) (v vp vz : Value) (m : Mai) (zs : List Int) (w : World) (hr : RdLevs w v ls) (hf : ∀ l ∈ ls, LevFits l) (hl : ls.length ≤ 100000) (hrp : RdPces w vp m.ps) (h8 : 0 ≤ m.cls ∧ m.cls ≤ 255 ∧ 0 ≤ m.ctr ∧ m.ctr ≤ 255)
    (hom : m.origin.size ≤ maxLen) (hml : m.ps.length ≤ 100000) (hcz : ∀ p ∈ m.ps, p.code.size ≤ maxLen) (hz : RdInts w vz zs) (hlz : zs.length ≤ 1000000) :
    Calls Tryz.prog 54 #[v, maiV m vp, vz] w fun e w' => e = .returned (.tuple #[.bool (validR ls m zs).1, .int .i64 (validR ls m zs).2]) ∧ Below w.heap.size w w' := by
  have HRT := Lib.hid (fun W (hW : Below w.heap.size w W) => right_any ls v W (hr.below hW) hf (by unfold maxLen; omega))
  have HML := Lib.hid (fun W (hW : Below w.heap.size w W) => mailing_any m vp W (hrp.below hW) h8 hom hml hcz)
  have HCO := Lib.hid (fun W (hW : Below w.heap.size w W) => codes25_any m vp W (hrp.below hW) hml)
  have hclen : (codesM m.ps).length = m.ps.length := by unfold codesM; simp
  have HGP := Lib.hid (fun W vc (hW : Below w.heap.size w W) (hrc : ReadsT W vc (codesM m.ps)) => groups_any ls v vc (codesM m.ps) W (hr.below hW) hf (by unfold maxLen; omega) hrc (by unfold maxLen; omega) (fun c hc => by
    unfold codesM at hc
    obtain ⟨p, hp, rfl⟩ := List.mem_map.1 hc
    exact hcz p hp))
  have HZ := Lib.hid hz
  have HRL := Lib.hid hr
  obtain ⟨ap, cp, rfl, _⟩ := hrp
  obtain ⟨al, cl, rfl, _⟩ := hr
  obtain ⟨az, cz, rfl, _⟩ := hz
  have HNU : Hid (∀ W, Below w.heap.size w W → Calls Tryz.prog 83 #[.slice al ls.length cl, .slice az zs.length cz] W fun e w' => e = .returned (.bool (numsB ls.length zs)) ∧ W = w') := fun W hW => numbers_any ls.length al cl zs _ W (HZ.out.below hW) hlz hl
  have hVR : validR ls m zs = if rightB ls = true ∧ mailB m = true ∧ zs.length = m.ps.length ∧ numsB ls.length zs = true then
    (if (codesM m.ps).any (shortB ls) = true then (false, 6) else (grpsOkB ls zs (gAll ls (codesM m.ps) ls.length), 0)) else (false, 2) := by unfold validR; rfl
  obtain ⟨R, hR⟩ : ∃ R, R = validR ls m zs := ⟨_, rfl⟩
  rw [← hR] at hVR ⊢
  have hgR : mailB m = true → rightB ls = true → groupsR ls (codesM m.ps) = if (codesM m.ps).any (shortB ls) = true then ([], 6) else ((gTo ls (codesM m.ps) ls.length).1, 0) := fun h1 h2 => by
    obtain ⟨k1, k2⟩ := mail_parts h1
    unfold groupsR
    rw [if_neg (by omega), if_pos ⟨h2, fun c hc => by
      unfold codesM at hc
      obtain ⟨p, hp, rfl⟩ := List.mem_map.1 hc
      exact k2 p hp⟩]
  have hmb : mailB m = true → m.ps.length ≤ 2000 := fun h => (mail_parts h).1
  have hcls := gTo_closed ls (codesM m.ps) ls.length (Nat.le_refl _)
  obtain ⟨rb, hrb⟩ : ∃ b, b = rightB ls := ⟨_, rfl⟩
  obtain ⟨mb, hmb'⟩ : ∃ b, b = mailB m := ⟨_, rfl⟩
  obtain ⟨nb, hnb⟩ : ∃ b, b = numsB ls.length zs := ⟨_, rfl⟩
  have HRB := Lib.hid hrb
  rw [← hrb] at HRT hVR hgR
  rw [← hmb'] at HML hVR hgR hmb
  have HNB := Lib.hid hnb
  rw [← hnb] at HNU hVR
  have hnz := fun h => nums_at (n := ls.length) (zs := zs) h
  rw [← hnb] at hnz
  unfold maiV at HML HCO ⊢
  obtain ⟨cls, ctr, org, ps⟩ := m
  dsimp only at *
  have hb0 : Below w.heap.size w (w.alloc (.cells #[.int .u8 cls, .int .u8 ctr, .string org, .slice ap ps.length cp] 29)) := (Below.refl _ w).alloc (Nat.le_refl _) _
  have hz0 : (w.alloc (.cells #[.int .u8 cls, .int .u8 ctr, .string org, .slice ap ps.length cp] 29)).heap.size = w.heap.size + 1 := World.size_alloc _ _
  have hbx : ∀ W, Below (w.heap.size + 1) (w.alloc (.cells #[.int .u8 cls, .int .u8 ctr, .string org, .slice ap ps.length cp] 29)) W → W.cell? ⟨w.heap.size, 0, none⟩ = some (.int .u8 cls) ∧ W.cell? ⟨w.heap.size, 1, none⟩ = some (.int .u8 ctr) ∧ W.cell? ⟨w.heap.size, 2, none⟩ = some (.string org) ∧ W.cell? ⟨w.heap.size, 3, none⟩ = some (.slice ap ps.length cp) := fun W hW =>
    ⟨(hW.cell (p := ⟨w.heap.size, 0, none⟩) (Nat.lt_succ_self _)).trans (cell_of_row _ _ 0 _ _ _ (alloc_new w _)), (hW.cell (p := ⟨w.heap.size, 1, none⟩) (Nat.lt_succ_self _)).trans (cell_of_row _ _ 1 _ _ _ (alloc_new w _)),
      (hW.cell (p := ⟨w.heap.size, 2, none⟩) (Nat.lt_succ_self _)).trans (cell_of_row _ _ 2 _ _ _ (alloc_new w _)), (hW.cell (p := ⟨w.heap.size, 3, none⟩) (Nat.lt_succ_self _)).trans (cell_of_row _ _ 3 _ _ _ (alloc_new w _))⟩
  have HBX := Lib.hid hbx
  have HZ0 := Lib.hid hz0
  have HVR := Lib.hid hVR
  have HGR := Lib.hid hgR
  have HCLS := Lib.hid hcls
  have HMB := Lib.hid hmb
  have HNZ := Lib.hid hnz
  have HCLEN := Lib.hid hclen
  clear hbx hz0 hVR hgR hcls hmb hnz hclen hR hrb hmb' hnb hf hcz
  cases rb
  · go_enter Tryz.func54, Tryz.ntmps54
    go_wp2_with (go_at_call 39; refine (HRT.out _ hb0).mono ?_; rintro e w1 ⟨rfl, hb1⟩)
    go_ret2
    rw [HVR.out, if_neg (by simp)]
    exact ⟨rfl, below_c hb0 hb0.size hb1⟩
  · cases mb
    · go_enter Tryz.func54, Tryz.ntmps54
      go_wp2_with (first
        | (go_at_call 39; refine (HRT.out _ hb0).mono ?_; rintro e w1 ⟨rfl, hb1⟩; (rw [HZ0.out] at hb1); have hB1 : Below w.heap.size w w1 := hb0.trans (hb1.mono (Nat.le_succ _)); obtain ⟨x0, x1, x2, x3⟩ := HBX.out w1 hb1)
        | (go_at_call 48; refine (HML.out _ hB1).mono ?_; rintro e w2 ⟨rfl, hb2⟩))
      go_ret2
      rw [HVR.out, if_neg (by simp)]
      exact ⟨rfl, below_c hB1 hB1.size hb2⟩
    · by_cases hle : zs.length = ps.length
      · have hne : ((zs.length : Int) != (ps.length : Int)) = false := by rw [hle]; simp
        have HLE := Lib.hid hle
        clear hle
        cases nb
        · go_enter Tryz.func54, Tryz.ntmps54
          go_wp2_with (first
            | (go_at_call 39; refine (HRT.out _ hb0).mono ?_; rintro e w1 ⟨rfl, hb1⟩; (rw [HZ0.out] at hb1); have hB1 : Below w.heap.size w w1 := hb0.trans (hb1.mono (Nat.le_succ _)); obtain ⟨x0, x1, x2, x3⟩ := HBX.out w1 hb1)
            | (go_at_call 48; refine (HML.out _ hB1).mono ?_; rintro e w2 ⟨rfl, hb2⟩; have hb2' := hb1.trans (hb2.mono (by have := hb1.size; rw [HZ0.out] at this; exact this)); have hB2 : Below w.heap.size w w2 := hb0.trans (hb2'.mono (Nat.le_succ _)); clear x0 x1 x2 x3; obtain ⟨x0, x1, x2, x3⟩ := HBX.out w2 hb2')
            | (go_at_call 83; refine (HNU.out _ hB2).mono ?_; rintro e w3 ⟨rfl, hW⟩; obtain rfl : w2 = w3 := hW))
          go_ret2
          rw [HVR.out, if_neg (by simp)]
          exact ⟨rfl, hB2⟩
        · have hgr := HGR.out rfl rfl
          have hps := HMB.out rfl
          have hzz := HLE.out
          by_cases hsh : (codesM ps).any (shortB ls) = true
          · rw [if_pos hsh] at hgr
            have hvr := HVR.out
            rw [if_pos ⟨rfl, rfl, hzz, rfl⟩, if_pos hsh] at hvr
            subst hvr
            rw [hgr] at HGP
            dsimp only at HGP
            clear hgr hzz
            go_enter Tryz.func54, Tryz.ntmps54
            go_wp2_with (first
              | (go_at_call 39; refine (HRT.out _ hb0).mono ?_; rintro e w1 ⟨rfl, hb1⟩; (rw [HZ0.out] at hb1); have hB1 : Below w.heap.size w w1 := hb0.trans (hb1.mono (Nat.le_succ _)); obtain ⟨x0, x1, x2, x3⟩ := HBX.out w1 hb1)
              | (go_at_call 48; refine (HML.out _ hB1).mono ?_; rintro e w2 ⟨rfl, hb2⟩; have hb2' := hb1.trans (hb2.mono (by have := hb1.size; rw [HZ0.out] at this; exact this)); have hB2 : Below w.heap.size w w2 := hb0.trans (hb2'.mono (Nat.le_succ _)); clear x0 x1 x2 x3; obtain ⟨x0, x1, x2, x3⟩ := HBX.out w2 hb2')
              | (go_at_call 83; refine (HNU.out _ hB2).mono ?_; rintro e w3 ⟨rfl, hW⟩; obtain rfl : w2 = w3 := hW)
              | (go_at_call 50; refine (HCO.out _ hB2).mono ?_; rintro e w3 ⟨u, rfl, hb3, hrc3⟩; have hB3 : Below w.heap.size w w3 := below_c hB2 hB2.size hb3)
              | (go_at_call 49; refine (HGP.out _ _ hB3 hrc3).mono ?_; rintro e w4 ⟨vg, rfl, hb4, hog⟩))
            go_ret2
            exact ⟨rfl, below_c hB3 hB3.size hb4⟩
          · rw [if_neg hsh] at hgr
            have hvr := HVR.out
            rw [if_pos ⟨rfl, rfl, hzz, rfl⟩, if_neg hsh] at hvr
            rw [hgr] at HGP
            dsimp only at HGP
            have hgb := gTo_bound2 ls (codesM ps)
            rw [HCLS.out] at HGP
            dsimp only at HGP
            have hitems : ∀ x ∈ gAll ls (codesM ps) ls.length, x.items.length ≤ 2000 ∧ (∃ mm : Nat, mm < ls.length ∧ x.lvl = (mm : Int)) ∧ ∀ i ∈ x.items, ∃ q : Nat, q < zs.length ∧ i = (q : Int) := fun x hx => by
              obtain ⟨mm, n, hmm, _, rfl⟩ := mem_gAll.1 hx
              refine ⟨?_, ⟨mm, hmm, rfl⟩, fun i hi => ?_⟩
              · have : (itm ls (codesM ps) mm n).length ≤ (codesM ps).length := itm_len ls _ mm n
                have h2 := HCLEN.out
                exact Nat.le_trans this (by omega)
              · obtain ⟨q, hq, _, rfl⟩ := mem_itm.1 hi
                have h2 := HCLEN.out
                exact ⟨q, by omega, rfl⟩
            rw [HCLEN.out] at hgb
            have hl6 := (right_len HRB.out.symm).2
            have hgl : (gAll ls (codesM ps) ls.length).length ≤ 12000 := Nat.le_trans hgb (by have : ls.length * ps.length ≤ 6 * 2000 := Nat.mul_le_mul hl6 hps; omega)
            obtain ⟨Gs, hGs⟩ : ∃ G, G = gAll ls (codesM ps) ls.length := ⟨_, rfl⟩
            rw [← hGs] at HGP hvr hitems hgl
            subst hvr
            have HIT := Lib.hid hitems
            clear hgr hGs hitems hgb hzz
            go_enter Tryz.func54, Tryz.ntmps54
            go_wp2_with (first
              | (go_at_call 39; refine (HRT.out _ hb0).mono ?_; rintro e w1 ⟨rfl, hb1⟩; (rw [HZ0.out] at hb1); have hB1 : Below w.heap.size w w1 := hb0.trans (hb1.mono (Nat.le_succ _)); obtain ⟨x0, x1, x2, x3⟩ := HBX.out w1 hb1)
              | (go_at_call 48; refine (HML.out _ hB1).mono ?_; rintro e w2 ⟨rfl, hb2⟩; have hb2' := hb1.trans (hb2.mono (by have := hb1.size; rw [HZ0.out] at this; exact this)); have hB2 : Below w.heap.size w w2 := hb0.trans (hb2'.mono (Nat.le_succ _)); clear x0 x1 x2 x3; obtain ⟨x0, x1, x2, x3⟩ := HBX.out w2 hb2')
              | (go_at_call 83; refine (HNU.out _ hB2).mono ?_; rintro e w3 ⟨rfl, hW⟩; obtain rfl : w2 = w3 := hW)
              | (go_at_call 50; refine (HCO.out _ hB2).mono ?_; rintro e w3 ⟨u, rfl, hb3, hrc3⟩; have hB3 : Below w.heap.size w w3 := below_c hB2 hB2.size hb3)
              | (go_at_call 49; refine (HGP.out _ _ hB3 hrc3).mono ?_; rintro e w4 ⟨vg, rfl, hb4, hog⟩; have hrg := RdGrps.of_owns hog; obtain ⟨ag, cg, hvg⟩ := hog.len; subst hvg; clear x0 x1 x2 x3))
            have hB4 : Below w.heap.size w w4 := below_c hB3 hB3.size hb4
            have HB4 := Lib.hid hB4
            have HRG := Lib.hid hrg
            have HRL4 := Lib.hid (RdLevs.below HRL.out hB4)
            have HZ4 := Lib.hid (RdInts.below HZ.out hB4)
            clear hb1 hB1 hb2 hb2' hB2 hb3 hrc3 hB3 hb4 hB4 hog hrg hb0 hsh HRT HML HCO HGP HBX HNU HVR HGR HCLS HMB HRB HNB HCLEN HLE HZ0
            go_loopw [49] (fun i wr => ∃ k : Nat, k ≤ Gs.length ∧ i = .int .i64 k ∧ Below w4.heap.size w4 wr ∧ ∀ j (hj : j < Gs.length), j < k → grpOkB ls zs Gs[j] = true) (fun i _ => Gs.length - (intOf i).toNat)
            case atStart => exact ⟨0, Nat.zero_le _, rfl, Below.refl _ _, fun j _ h => absurd h (Nat.not_lt_zero _)⟩
            case round =>
              obtain ⟨wo, hwo⟩ : ∃ x, x = wr := ⟨_, rfl⟩
              subst hwo
              obtain ⟨k, hk, rfl, hB, hok⟩ := hrel
              have HOK := Lib.hid hok
              clear hok
              by_cases hlt : k < Gs.length
              · have hrg := RdGrps.below HRG.out hB
                obtain ⟨ag', cg', hvg, hgr⟩ := hrg
                injection hvg with q1 q2 q3
                subst q1
                clear q2 q3
                obtain ⟨gg, og, rfl, hgg, hcg⟩ := hgr (by omega)
                obtain ⟨sv, hsv, g0, g1, g2, g3⟩ := hcg k hlt
                obtain ⟨hi1, ⟨mm, hmm, hlv⟩, hi3⟩ := HIT.out _ (List.getElem_mem hlt)
                obtain ⟨x, hx⟩ : ∃ x, x = Gs[k] := ⟨_, rfl⟩
                have HX := Lib.hid hx
                rw [← hx] at hsv g0 g1 g2 hi1 hlv hi3
                rw [hlv] at g0
                obtain ⟨nm, hnm⟩ : ∃ z, z = x.name := ⟨_, rfl⟩
                obtain ⟨up, hup⟩ : ∃ z, z = x.up := ⟨_, rfl⟩
                rw [← hnm] at g1
                rw [← hup] at g2
                obtain ⟨ai, ci, rfl, hci⟩ := hsv
                obtain ⟨CG, hCG⟩ : ∃ c, c = Obj.cells #[.int .i64 mm, .string nm, .int .i64 up, .slice ai x.items.length ci] 81 (0, 0) := ⟨_, rfl⟩
                have hbc : Below wo.heap.size wo (wo.alloc CG) := (Below.refl _ _).alloc (Nat.le_refl _) _
                have q0 : (wo.alloc CG).cell? ⟨wo.heap.size, 0, none⟩ = some (.int .i64 mm) := by rw [hCG]; exact cell_of_row _ _ 0 _ _ _ (alloc_new wo _)
                have q3 : (wo.alloc CG).cell? ⟨wo.heap.size, 3, none⟩ = some (.slice ai x.items.length ci) := by rw [hCG]; exact cell_of_row _ _ 3 _ _ _ (alloc_new wo _)
                have hBg : Below w4.heap.size w4 (wo.alloc CG) := hB.alloc hB.size _
                have hz1 : (wo.alloc CG).heap.size = wo.heap.size + 1 := World.size_alloc _ _
                have hTS := fun p (hp : p < x.items.length) => takes_succ zs x hp
                have HTS := Lib.hid hTS
                have HLV := Lib.hid hlv
                have HI3 := Lib.hid hi3
                have HCI := Lib.hid hci
                have HQ0 := Lib.hid q0
                have HZ1 := Lib.hid hz1
                have HBC := Lib.hid hbc
                clear hTS hlv hi3 hci hgr hcg hnm hup hx q0 hz1 hbc
                go_wp2_with fail
                rw [← hCG]
                have HCG := Lib.hid hCG
                clear hCG
                go_loopw [12, 56] (fun t i wq => ∃ p : Nat, p ≤ x.items.length ∧ i = .int .i64 p ∧ t = .int .i64 (takesTo zs x p : Nat) ∧ Below (wo.alloc CG).heap.size (wo.alloc CG) wq) (fun _ i _ => x.items.length - (intOf i).toNat)
                case atStart => exact ⟨0, Nat.zero_le _, rfl, by simp [takesTo], Below.refl _ _⟩
                case round =>
                  clear q3
                  obtain ⟨p, hp, rfl, rfl, hBq⟩ := hrel
                  have hz1 := HZ1.out
                  have r0 := (hBq.cell (p := ⟨wo.heap.size, 0, none⟩) (by show wo.heap.size < _; omega)).trans HQ0.out
                  have htl := takes_le zs x p
                  by_cases hltp : p < x.items.length
                  · obtain ⟨gi, oi, rfl, hgi, hcc⟩ := HCI.out (by omega)
                    obtain ⟨q, hq, hqe⟩ := HI3.out _ (List.getElem_mem hltp)
                    have hts := HTS.out p hltp
                    have e1 := hcc p hltp
                    rw [hqe] at e1 hts
                    have e1' : wr.cell? ⟨gi, oi + p, none⟩ = some (.int .i64 q) := (hBq.cell (p := ⟨gi, oi + p, none⟩) (by show gi < _; omega)).trans ((HBC.out.cell (p := ⟨gi, oi + p, none⟩) hgi).trans e1)
                    obtain ⟨az', cz', hvz, hcz⟩ := HZ4.out
                    injection hvz with q1 q2 q3
                    subst q1
                    clear q2 q3
                    obtain ⟨gz, oz, rfl, hgz, hcz⟩ := hcz (by omega)
                    have e2 : wr.cell? ⟨gz, oz + q, none⟩ = some (.int .i64 zs[q]) := ((hBg.trans (hBq.mono hBg.size)).cell (p := ⟨gz, oz + q, none⟩) hgz).trans (hcz q hq)
                    rw [Int.toNat_natCast, HLV.out, List.getD_eq_getElem?_getD, List.getElem?_eq_getElem hq] at hts
                    obtain ⟨z, hz⟩ : ∃ z, z = zs[q] := ⟨_, rfl⟩
                    rw [← hz] at e2 hts
                    have hts' : takesTo zs x (p + 1) = takesTo zs x p + (if z = (mm : Int) then 1 else 0) := hts
                    obtain ⟨t, ht⟩ : ∃ t, t = takesTo zs x p := ⟨_, rfl⟩
                    rw [← ht] at hts' htl ⊢
                    clear hts e1 hz hcz hcc hqe ht
                    by_cases hzm : z = (mm : Int)
                    · rw [if_pos hzm] at hts'
                      have hbq : (z == (mm : Int)) = true := by simp [hzm]
                      have HT := Lib.hid hts'
                      clear hts' hzm
                      go_wp2_with fail
                      go_quiet (fail)
                      go_wp2_with fail
                      go_roundw
                      case rel => exact ⟨p + 1, by omega, by go_num, by rw [HT.out]; go_num, below_drewN hBq _⟩
                      case measure => simp [intOf]; omega
                    · rw [if_neg hzm] at hts'
                      have hbq : (z == (mm : Int)) = false := by simp [hzm]
                      have HT := Lib.hid hts'
                      clear hts' hzm
                      go_wp2_with fail
                      go_quiet (fail)
                      go_wp2_with fail
                      go_roundw
                      case rel => exact ⟨p + 1, by omega, by go_num, by rw [HT.out]; rfl, below_drewN hBq _⟩
                      case measure => simp [intOf]; omega
                  · obtain rfl : p = x.items.length := by omega
                    have hBn : Below w4.heap.size w4 wr := hBg.trans (hBq.mono hBg.size)
                    obtain ⟨al', cl', hvl, hcl⟩ := RdLevs.below HRL4.out hBn
                    injection hvl with q1 q2 q3
                    subst q1
                    clear q2 q3
                    obtain ⟨gl, ol, rfl, hgl, hcl⟩ := hcl (by omega)
                    obtain ⟨sv, _, _, _, _, l3, _⟩ := hcl mm hmm
                    have hgo : grpOkB ls zs x = !(decide (0 < takesTo zs x x.items.length) && decide ((takesTo zs x x.items.length : Int) < ls[mm].min)) := by
                      unfold grpOkB
                      rw [HLV.out, minAt_get hmm]
                    obtain ⟨mn, hmn⟩ : ∃ z, z = ls[mm].min := ⟨_, rfl⟩
                    rw [← hmn] at l3 hgo
                    obtain ⟨t, ht⟩ : ∃ t, t = takesTo zs x x.items.length := ⟨_, rfl⟩
                    rw [← ht] at htl hgo ⊢
                    have HGO := Lib.hid hgo
                    have HBN := Lib.hid hBn
                    clear hgo hmn ht hcl
                    by_cases h0 : t = 0
                    · have hok : grpOkB ls zs x = true := by rw [HGO.out, h0]; simp
                      have HK := Lib.hid hok
                      have hgt : ¬ ((t : Int) > 0) := by omega
                      clear hok h0
                      go_wp2_with fail
                      go_roundw
                      case rel =>
                        refine ⟨k + 1, by omega, by go_num, HBN.out, fun j hj hjk => ?_⟩
                        by_cases e : j = k
                        · subst e; rw [← HX.out]; exact HK.out
                        · exact HOK.out j hj (by omega)
                      case measure => simp [intOf]; omega
                    · have hgt : (t : Int) > 0 := by omega
                      by_cases hmt : (t : Int) < mn
                      · have hok : grpOkB ls zs x = false := by rw [HGO.out, decide_eq_true (by omega), decide_eq_true hmt]; rfl
                        have hall : grpsOkB ls zs Gs = false := by
                          unfold grpsOkB
                          rw [List.all_eq_false]
                          exact ⟨Gs[k], List.getElem_mem hlt, by rw [← HX.out, hok]; simp⟩
                        have HAL := Lib.hid hall
                        clear hok hall h0
                        go_wp2_with fail
                        go_ret2
                        rw [HAL.out]
                        exact ⟨rfl, HB4.out.trans (HBN.out.mono HB4.out.size)⟩
                      · have hok : grpOkB ls zs x = true := by rw [HGO.out, decide_eq_false hmt]; simp
                        have HK := Lib.hid hok
                        clear hok h0
                        go_wp2_with fail
                        go_roundw
                        case rel =>
                          refine ⟨k + 1, by omega, by go_num, HBN.out, fun j hj hjk => ?_⟩
                          by_cases e : j = k
                          · subst e; rw [← HX.out]; exact HK.out
                          · exact HOK.out j hj (by omega)
                        case measure => simp [intOf]; omega
              · obtain rfl : k = Gs.length := by omega
                have hall : grpsOkB ls zs Gs = true := by
                  unfold grpsOkB
                  rw [List.all_eq_true]
                  intro x hx
                  obtain ⟨j, hj, rfl⟩ := List.mem_iff_getElem.1 hx
                  exact HOK.out j hj hj
                have HAL := Lib.hid hall
                clear hall
                go_wp2_with fail
                go_ret2
                rw [HAL.out]
                exact ⟨rfl, HB4.out.trans (hB.mono HB4.out.size)⟩
      · have hne : ((zs.length : Int) != (ps.length : Int)) = true := by simp; omega
        go_enter Tryz.func54, Tryz.ntmps54
        go_wp2_with (first
          | (go_at_call 39; refine (HRT.out _ hb0).mono ?_; rintro e w1 ⟨rfl, hb1⟩; (rw [HZ0.out] at hb1); have hB1 : Below w.heap.size w w1 := hb0.trans (hb1.mono (Nat.le_succ _)); obtain ⟨x0, x1, x2, x3⟩ := HBX.out w1 hb1)
          | (go_at_call 48; refine (HML.out _ hB1).mono ?_; rintro e w2 ⟨rfl, hb2⟩; have hb2' := hb1.trans (hb2.mono (by have := hb1.size; rw [HZ0.out] at this; exact this)); have hB2 : Below w.heap.size w w2 := hb0.trans (hb2'.mono (Nat.le_succ _)); clear x0 x1 x2 x3; obtain ⟨x0, x1, x2, x3⟩ := HBX.out w2 hb2'))
        go_ret2
        rw [HVR.out, if_neg (fun h => hle h.2.2.1)]
        exact ⟨rfl, hB2⟩
end Go.Proofs.YtelklmdlodgdpaaGreat
