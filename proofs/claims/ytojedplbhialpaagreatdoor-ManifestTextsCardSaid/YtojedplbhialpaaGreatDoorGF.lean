import Derived.Test.YtojedplbhialpaaGreatDoorGE
import Derived.Test.YtojedplbhialpaaGreatDoorShelf
import Derived.Laws.CopyOwn
import Derived.Laws.OwnMore
import Derived.Deep.OwnRows
import Derived.Test.YtojedplbhialpaaGreatDoorGC
import Derived.RangeFuncNested
import Derived.RangeFuncBound
import Derived.RangeFuncCalls
import Derived.RangeFuncLeaves
import Derived.Shelf.Abstract
import Derived.Shelf.RegionOpen
import Derived.WalkKit
import Derived.OwnWalkIn
import Derived.TacticsInMore
import Derived.LoopNIn
import Derived.LoopIn
import Derived.Deep.DeepCutAuto
import Derived.Deep.CutBlock
import Derived.BigQuiet
import Derived.Test.YtojedplbhialpaaGreatDoorGB
import Derived.Test.YtojedplbhialpaaGreatDoorMQ
import Derived.OwnWalk
import Derived.Test.YtojedplbhialpaaGreatDoorA0
import Derived.BigRegion
/-! W4 -/
namespace Go.Proofs.YtojedplbhialpaaGreatDoor
open Go.RowKit Go.Sort Go.Shelf Go.IntWalk
set_option linter.unusedVariables false
set_option maxRecDepth 100000
theorem rowIs_below {w w' : World} {b : Nat} {t : TypeId} {n : Nat} {f : Nat → Value} {B : Nat} (h : w.rowIs b t n f) (hb : Below B w w') (hB : b < B) : w'.rowIs b t n f := h.of_block (hb.block b hB)
end Go.Proofs.YtojedplbhialpaaGreatDoor

/-! WP -/
namespace Go.Proofs.YtojedplbhialpaaGreatDoor
open Go.RowKit Go.Sort
set_option linter.unusedVariables false
set_option maxRecDepth 100000
def takesTo (zs : List Int) (x : Grp) (k : Nat) : Nat := (x.items.take k).countP (fun i => decide (zs.getD i.toNat (-1) = x.lvl))
def minAt (ls : List Lev) (z : Int) : Int := (ls.getD z.toNat ⟨⟨#[]⟩, 0, [], 0, 0⟩).min
def grpOkB (ls : List Lev) (zs : List Int) (x : Grp) : Bool := !(decide (0 < takesTo zs x x.items.length) && decide ((takesTo zs x x.items.length : Int) < minAt ls x.lvl))
def grpsOkB (ls : List Lev) (zs : List Int) (Gs : List Grp) : Bool := Gs.all (grpOkB ls zs)
theorem takes_succ (zs : List Int) (x : Grp) {k : Nat} (h : k < x.items.length) : takesTo zs x (k + 1) = takesTo zs x k + (if zs.getD x.items[k].toNat (-1) = x.lvl then 1 else 0) := by
  unfold takesTo
  rw [List.take_succ_eq_append_getElem h, List.countP_append, List.countP_singleton]
  simp
theorem takes_le (zs : List Int) (x : Grp) (k : Nat) : takesTo zs x k ≤ k := by
  unfold takesTo
  refine Nat.le_trans (List.countP_le_length) ?_
  rw [List.length_take]; omega
theorem minAt_get {ls : List Lev} {z : Nat} (h : z < ls.length) : minAt ls (z : Int) = ls[z].min := by
  unfold minAt
  rw [Int.toNat_natCast, List.getD_eq_getElem?_getD, List.getElem?_eq_getElem h]; rfl
theorem mail_parts {m : Mai} (h : mailB m = true) : m.ps.length ≤ 2000 ∧ ∀ p ∈ m.ps, codeB p.code = true := by
  unfold mailB at h
  simp only [Bool.and_eq_true, decide_eq_true_eq] at h
  have hp : ∀ (l : List Pce) (b : Int), pcsB b l = true → ∀ p ∈ l, codeB p.code = true := by
    intro l
    induction l with
    | nil => intro b _ p hp; cases hp
    | cons q r ih =>
      intro b hb p hp
      unfold pcsB at hb
      rw [Bool.and_eq_true] at hb
      rcases List.mem_cons.1 hp with rfl | hp
      · have h1 := hb.1
        unfold pcB at h1
        simp only [Bool.and_eq_true] at h1
        exact h1.2.1
      · exact ih _ hb.2 p hp
  exact ⟨h.2.2.1, hp _ _ h.2.2.2⟩
theorem gTo_bound2 (ls : List Lev) (cs : List ByteArray) : (gAll ls cs ls.length).length ≤ ls.length * cs.length := by
  have h := (gTo_len ls cs ls.length (Nat.le_refl _)).1
  rwa [gTo_closed ls cs ls.length (Nat.le_refl _)] at h
open Classical in
noncomputable def validR (ls : List Lev) (m : Mai) (zs : List Int) : Bool × Int :=
  if rightB ls = true ∧ mailB m = true ∧ zs.length = m.ps.length ∧ numsB ls.length zs = true then
    (if (codesM m.ps).any (shortB ls) = true then (false, 6) else (grpsOkB ls zs (gAll ls (codesM m.ps) ls.length), 0)) else (false, 2)
set_option maxHeartbeats 16000000 in
theorem valid_any (ls : List Lev) (v vp vz : Value) (m : Mai) (zs : List Int) (w : World) (hr : RdLevs w v ls) (hf : ∀ l ∈ ls, LevFits l) (hl : ls.length ≤ 100000) (hrp : RdPces w vp m.ps) (h8 : 0 ≤ m.cls ∧ m.cls ≤ 255 ∧ 0 ≤ m.ctr ∧ m.ctr ≤ 255)
    (hom : m.origin.size ≤ maxLen) (hml : m.ps.length ≤ 100000) (hcz : ∀ p ∈ m.ps, p.code.size ≤ maxLen) (hz : RdInts w vz zs) (hlz : zs.length ≤ 1000000) :
    Calls Tryz.prog 99 #[v, maiV m vp, vz] w fun e w' => e = .returned (.tuple #[.bool (validR ls m zs).1, .int .i64 (validR ls m zs).2]) ∧ Below w.heap.size w w' := by
  have HRT := Lib.hid (fun W (hW : Below w.heap.size w W) => right_any ls v W (hr.below hW) hf (by unfold maxLen; omega))
  have HML := Lib.hid (fun W (hW : Below w.heap.size w W) => mailing_any m vp W (hrp.below hW) h8 hom hml hcz)
  have HCO := Lib.hid (fun W (hW : Below w.heap.size w W) => codes25_any m vp W (hrp.below hW) hml)
  have hclen : (codesM m.ps).length = m.ps.length := by unfold codesM; simp
  have HGP := Lib.hid (fun W vc (hW : Below w.heap.size w W) (hrc : ReadsT W vc (codesM m.ps)) => groups_any ls v vc (codesM m.ps) W (hr.below hW) hf (by unfold maxLen; omega) hrc (by unfold maxLen; omega) (fun c hc => by
    unfold codesM at hc
    obtain ⟨p, hp, rfl⟩ := List.mem_map.1 hc
    exact hcz p hp))
  have HZ := Lib.hid hz
  have HRL := Lib.hid hr
  obtain ⟨ap, cp, rfl, _⟩ := hrp
  obtain ⟨al, cl, rfl, _⟩ := hr
  obtain ⟨az, cz, rfl, _⟩ := hz
  have HNU : Hid (∀ W, Below w.heap.size w W → Calls Tryz.prog 167 #[.slice al ls.length cl, .slice az zs.length cz] W fun e w' => e = .returned (.bool (numsB ls.length zs)) ∧ W = w') := fun W hW => numbers_any ls.length al cl zs _ W (HZ.out.below hW) hlz hl
  have hVR : validR ls m zs = if rightB ls = true ∧ mailB m = true ∧ zs.length = m.ps.length ∧ numsB ls.length zs = true then
    (if (codesM m.ps).any (shortB ls) = true then (false, 6) else (grpsOkB ls zs (gAll ls (codesM m.ps) ls.length), 0)) else (false, 2) := by unfold validR; rfl
  obtain ⟨R, hR⟩ : ∃ R, R = validR ls m zs := ⟨_, rfl⟩
  rw [← hR] at hVR ⊢
  have hgR : mailB m = true → rightB ls = true → groupsR ls (codesM m.ps) = if (codesM m.ps).any (shortB ls) = true then ([], 6) else ((gTo ls (codesM m.ps) ls.length).1, 0) := fun h1 h2 => by
    obtain ⟨k1, k2⟩ := mail_parts h1
    unfold groupsR
    rw [if_neg (by omega), if_pos ⟨h2, fun c hc => by
      unfold codesM at hc
      obtain ⟨p, hp, rfl⟩ := List.mem_map.1 hc
      exact k2 p hp⟩]
  have hmb : mailB m = true → m.ps.length ≤ 2000 := fun h => (mail_parts h).1
  have hcls := gTo_closed ls (codesM m.ps) ls.length (Nat.le_refl _)
  obtain ⟨rb, hrb⟩ : ∃ b, b = rightB ls := ⟨_, rfl⟩
  obtain ⟨mb, hmb'⟩ : ∃ b, b = mailB m := ⟨_, rfl⟩
  obtain ⟨nb, hnb⟩ : ∃ b, b = numsB ls.length zs := ⟨_, rfl⟩
  have HRB := Lib.hid hrb
  rw [← hrb] at HRT hVR hgR
  rw [← hmb'] at HML hVR hgR hmb
  have HNB := Lib.hid hnb
  rw [← hnb] at HNU hVR
  have hnz := fun h => nums_at (n := ls.length) (zs := zs) h
  rw [← hnb] at hnz
  unfold maiV at HML HCO ⊢
  obtain ⟨cls, ctr, org, ps⟩ := m
  dsimp only at *
  have hb0 : Below w.heap.size w (w.alloc (.cells #[.int .u8 cls, .int .u8 ctr, .string org, .slice ap ps.length cp] 29)) := (Below.refl _ w).alloc (Nat.le_refl _) _
  have hz0 : (w.alloc (.cells #[.int .u8 cls, .int .u8 ctr, .string org, .slice ap ps.length cp] 29)).heap.size = w.heap.size + 1 := World.size_alloc _ _
  have hbx : ∀ W, Below (w.heap.size + 1) (w.alloc (.cells #[.int .u8 cls, .int .u8 ctr, .string org, .slice ap ps.length cp] 29)) W → W.cell? ⟨w.heap.size, 0, none⟩ = some (.int .u8 cls) ∧ W.cell? ⟨w.heap.size, 1, none⟩ = some (.int .u8 ctr) ∧ W.cell? ⟨w.heap.size, 2, none⟩ = some (.string org) ∧ W.cell? ⟨w.heap.size, 3, none⟩ = some (.slice ap ps.length cp) := fun W hW =>
    ⟨(hW.cell (p := ⟨w.heap.size, 0, none⟩) (Nat.lt_succ_self _)).trans (cell_of_row _ _ 0 _ _ _ (alloc_new w _)), (hW.cell (p := ⟨w.heap.size, 1, none⟩) (Nat.lt_succ_self _)).trans (cell_of_row _ _ 1 _ _ _ (alloc_new w _)),
      (hW.cell (p := ⟨w.heap.size, 2, none⟩) (Nat.lt_succ_self _)).trans (cell_of_row _ _ 2 _ _ _ (alloc_new w _)), (hW.cell (p := ⟨w.heap.size, 3, none⟩) (Nat.lt_succ_self _)).trans (cell_of_row _ _ 3 _ _ _ (alloc_new w _))⟩
  have HBX := Lib.hid hbx
  have HZ0 := Lib.hid hz0
  have HVR := Lib.hid hVR
  have HGR := Lib.hid hgR
  have HCLS := Lib.hid hcls
  have HMB := Lib.hid hmb
  have HNZ := Lib.hid hnz
  have HCLEN := Lib.hid hclen
  clear hbx hz0 hVR hgR hcls hmb hnz hclen hR hrb hmb' hnb hf hcz
  cases rb
  · go_enter Tryz.func99, Tryz.ntmps99
    go_wp2_with (go_at_call 51; refine (HRT.out _ hb0).mono ?_; rintro e w1 ⟨rfl, hb1⟩)
    go_ret2
    rw [HVR.out, if_neg (by simp)]
    exact ⟨rfl, below_c hb0 hb0.size hb1⟩
  · cases mb
    · go_enter Tryz.func99, Tryz.ntmps99
      go_wp2_with (first
        | (go_at_call 51; refine (HRT.out _ hb0).mono ?_; rintro e w1 ⟨rfl, hb1⟩; (rw [HZ0.out] at hb1); have hB1 : Below w.heap.size w w1 := hb0.trans (hb1.mono (Nat.le_succ _)); obtain ⟨x0, x1, x2, x3⟩ := HBX.out w1 hb1)
        | (go_at_call 162; refine (HML.out _ hB1).mono ?_; rintro e w2 ⟨rfl, hb2⟩))
      go_ret2
      rw [HVR.out, if_neg (by simp)]
      exact ⟨rfl, below_c hB1 hB1.size hb2⟩
    · by_cases hle : zs.length = ps.length
      · have hne : ((zs.length : Int) != (ps.length : Int)) = false := by rw [hle]; simp
        have HLE := Lib.hid hle
        clear hle
        cases nb
        · go_enter Tryz.func99, Tryz.ntmps99
          go_wp2_with (first
            | (go_at_call 51; refine (HRT.out _ hb0).mono ?_; rintro e w1 ⟨rfl, hb1⟩; (rw [HZ0.out] at hb1); have hB1 : Below w.heap.size w w1 := hb0.trans (hb1.mono (Nat.le_succ _)); obtain ⟨x0, x1, x2, x3⟩ := HBX.out w1 hb1)
            | (go_at_call 162; refine (HML.out _ hB1).mono ?_; rintro e w2 ⟨rfl, hb2⟩; have hb2' := hb1.trans (hb2.mono (by have := hb1.size; rw [HZ0.out] at this; exact this)); have hB2 : Below w.heap.size w w2 := hb0.trans (hb2'.mono (Nat.le_succ _)); clear x0 x1 x2 x3; obtain ⟨x0, x1, x2, x3⟩ := HBX.out w2 hb2')
            | (go_at_call 167; refine (HNU.out _ hB2).mono ?_; rintro e w3 ⟨rfl, hW⟩; obtain rfl : w2 = w3 := hW))
          go_ret2
          rw [HVR.out, if_neg (by simp)]
          exact ⟨rfl, hB2⟩
        · have hgr := HGR.out rfl rfl
          have hps := HMB.out rfl
          have hzz := HLE.out
          by_cases hsh : (codesM ps).any (shortB ls) = true
          · rw [if_pos hsh] at hgr
            have hvr := HVR.out
            rw [if_pos ⟨rfl, rfl, hzz, rfl⟩, if_pos hsh] at hvr
            subst hvr
            rw [hgr] at HGP
            dsimp only at HGP
            clear hgr hzz
            go_enter Tryz.func99, Tryz.ntmps99
            go_wp2_with (first
              | (go_at_call 51; refine (HRT.out _ hb0).mono ?_; rintro e w1 ⟨rfl, hb1⟩; (rw [HZ0.out] at hb1); have hB1 : Below w.heap.size w w1 := hb0.trans (hb1.mono (Nat.le_succ _)); obtain ⟨x0, x1, x2, x3⟩ := HBX.out w1 hb1)
              | (go_at_call 162; refine (HML.out _ hB1).mono ?_; rintro e w2 ⟨rfl, hb2⟩; have hb2' := hb1.trans (hb2.mono (by have := hb1.size; rw [HZ0.out] at this; exact this)); have hB2 : Below w.heap.size w w2 := hb0.trans (hb2'.mono (Nat.le_succ _)); clear x0 x1 x2 x3; obtain ⟨x0, x1, x2, x3⟩ := HBX.out w2 hb2')
              | (go_at_call 167; refine (HNU.out _ hB2).mono ?_; rintro e w3 ⟨rfl, hW⟩; obtain rfl : w2 = w3 := hW)
              | (go_at_call 168; refine (HCO.out _ hB2).mono ?_; rintro e w3 ⟨u, rfl, hb3, hrc3⟩; have hB3 : Below w.heap.size w w3 := below_c hB2 hB2.size hb3)
              | (go_at_call 101; refine (HGP.out _ _ hB3 hrc3).mono ?_; rintro e w4 ⟨vg, rfl, hb4, hog⟩))
            go_ret2
            exact ⟨rfl, below_c hB3 hB3.size hb4⟩
          · rw [if_neg hsh] at hgr
            have hvr := HVR.out
            rw [if_pos ⟨rfl, rfl, hzz, rfl⟩, if_neg hsh] at hvr
            rw [hgr] at HGP
            dsimp only at HGP
            have hgb := gTo_bound2 ls (codesM ps)
            rw [HCLS.out] at HGP
            dsimp only at HGP
            have hitems : ∀ x ∈ gAll ls (codesM ps) ls.length, x.items.length ≤ 2000 ∧ (∃ mm : Nat, mm < ls.length ∧ x.lvl = (mm : Int)) ∧ ∀ i ∈ x.items, ∃ q : Nat, q < zs.length ∧ i = (q : Int) := fun x hx => by
              obtain ⟨mm, n, hmm, _, rfl⟩ := mem_gAll.1 hx
              refine ⟨?_, ⟨mm, hmm, rfl⟩, fun i hi => ?_⟩
              · have : (itm ls (codesM ps) mm n).length ≤ (codesM ps).length := itm_len ls _ mm n
                have h2 := HCLEN.out
                exact Nat.le_trans this (by omega)
              · obtain ⟨q, hq, _, rfl⟩ := mem_itm.1 hi
                have h2 := HCLEN.out
                exact ⟨q, by omega, rfl⟩
            rw [HCLEN.out] at hgb
            have hl6 := (right_len HRB.out.symm).2
            have hgl : (gAll ls (codesM ps) ls.length).length ≤ 12000 := Nat.le_trans hgb (by have : ls.length * ps.length ≤ 6 * 2000 := Nat.mul_le_mul hl6 hps; omega)
            obtain ⟨Gs, hGs⟩ : ∃ G, G = gAll ls (codesM ps) ls.length := ⟨_, rfl⟩
            rw [← hGs] at HGP hvr hitems hgl
            subst hvr
            have HIT := Lib.hid hitems
            clear hgr hGs hitems hgb hzz
            go_enter Tryz.func99, Tryz.ntmps99
            go_wp2_with (first
              | (go_at_call 51; refine (HRT.out _ hb0).mono ?_; rintro e w1 ⟨rfl, hb1⟩; (rw [HZ0.out] at hb1); have hB1 : Below w.heap.size w w1 := hb0.trans (hb1.mono (Nat.le_succ _)); obtain ⟨x0, x1, x2, x3⟩ := HBX.out w1 hb1)
              | (go_at_call 162; refine (HML.out _ hB1).mono ?_; rintro e w2 ⟨rfl, hb2⟩; have hb2' := hb1.trans (hb2.mono (by have := hb1.size; rw [HZ0.out] at this; exact this)); have hB2 : Below w.heap.size w w2 := hb0.trans (hb2'.mono (Nat.le_succ _)); clear x0 x1 x2 x3; obtain ⟨x0, x1, x2, x3⟩ := HBX.out w2 hb2')
              | (go_at_call 167; refine (HNU.out _ hB2).mono ?_; rintro e w3 ⟨rfl, hW⟩; obtain rfl : w2 = w3 := hW)
              | (go_at_call 168; refine (HCO.out _ hB2).mono ?_; rintro e w3 ⟨u, rfl, hb3, hrc3⟩; have hB3 : Below w.heap.size w w3 := below_c hB2 hB2.size hb3)
              | (go_at_call 101; refine (HGP.out _ _ hB3 hrc3).mono ?_; rintro e w4 ⟨vg, rfl, hb4, hog⟩; have hrg := RdGrps.of_owns hog; obtain ⟨ag, cg, hvg⟩ := hog.len; subst hvg; clear x0 x1 x2 x3))
            have hB4 : Below w.heap.size w w4 := below_c hB3 hB3.size hb4
            have HB4 := Lib.hid hB4
            have HRG := Lib.hid hrg
            have HRL4 := Lib.hid (RdLevs.below HRL.out hB4)
            have HZ4 := Lib.hid (RdInts.below HZ.out hB4)
            clear hb1 hB1 hb2 hb2' hB2 hb3 hrc3 hB3 hb4 hB4 hog hrg hb0 hsh HRT HML HCO HGP HBX HNU HVR HGR HCLS HMB HRB HNB HCLEN HLE HZ0
            go_loopw [49] (fun i wr => ∃ k : Nat, k ≤ Gs.length ∧ i = .int .i64 k ∧ Below w4.heap.size w4 wr ∧ ∀ j (hj : j < Gs.length), j < k → grpOkB ls zs Gs[j] = true) (fun i _ => Gs.length - (intOf i).toNat)
            case atStart => exact ⟨0, Nat.zero_le _, rfl, Below.refl _ _, fun j _ h => absurd h (Nat.not_lt_zero _)⟩
            case round =>
              obtain ⟨wo, hwo⟩ : ∃ x, x = wr := ⟨_, rfl⟩
              subst hwo
              obtain ⟨k, hk, rfl, hB, hok⟩ := hrel
              have HOK := Lib.hid hok
              clear hok
              by_cases hlt : k < Gs.length
              · have hrg := RdGrps.below HRG.out hB
                obtain ⟨ag', cg', hvg, hgr⟩ := hrg
                injection hvg with q1 q2 q3
                subst q1
                clear q2 q3
                obtain ⟨gg, og, rfl, hgg, hcg⟩ := hgr (by omega)
                obtain ⟨sv, hsv, g0, g1, g2, g3⟩ := hcg k hlt
                obtain ⟨hi1, ⟨mm, hmm, hlv⟩, hi3⟩ := HIT.out _ (List.getElem_mem hlt)
                obtain ⟨x, hx⟩ : ∃ x, x = Gs[k] := ⟨_, rfl⟩
                have HX := Lib.hid hx
                rw [← hx] at hsv g0 g1 g2 hi1 hlv hi3
                rw [hlv] at g0
                obtain ⟨nm, hnm⟩ : ∃ z, z = x.name := ⟨_, rfl⟩
                obtain ⟨up, hup⟩ : ∃ z, z = x.up := ⟨_, rfl⟩
                rw [← hnm] at g1
                rw [← hup] at g2
                obtain ⟨ai, ci, rfl, hci⟩ := hsv
                obtain ⟨CG, hCG⟩ : ∃ c, c = Obj.cells #[.int .i64 mm, .string nm, .int .i64 up, .slice ai x.items.length ci] 114 (0, 0) := ⟨_, rfl⟩
                have hbc : Below wo.heap.size wo (wo.alloc CG) := (Below.refl _ _).alloc (Nat.le_refl _) _
                have q0 : (wo.alloc CG).cell? ⟨wo.heap.size, 0, none⟩ = some (.int .i64 mm) := by rw [hCG]; exact cell_of_row _ _ 0 _ _ _ (alloc_new wo _)
                have q3 : (wo.alloc CG).cell? ⟨wo.heap.size, 3, none⟩ = some (.slice ai x.items.length ci) := by rw [hCG]; exact cell_of_row _ _ 3 _ _ _ (alloc_new wo _)
                have hBg : Below w4.heap.size w4 (wo.alloc CG) := hB.alloc hB.size _
                have hz1 : (wo.alloc CG).heap.size = wo.heap.size + 1 := World.size_alloc _ _
                have hTS := fun p (hp : p < x.items.length) => takes_succ zs x hp
                have HTS := Lib.hid hTS
                have HLV := Lib.hid hlv
                have HI3 := Lib.hid hi3
                have HCI := Lib.hid hci
                have HQ0 := Lib.hid q0
                have HZ1 := Lib.hid hz1
                have HBC := Lib.hid hbc
                clear hTS hlv hi3 hci hgr hcg hnm hup hx q0 hz1 hbc
                go_wp2_with fail
                rw [← hCG]
                have HCG := Lib.hid hCG
                clear hCG
                go_loopw [12, 56] (fun t i wq => ∃ p : Nat, p ≤ x.items.length ∧ i = .int .i64 p ∧ t = .int .i64 (takesTo zs x p : Nat) ∧ Below (wo.alloc CG).heap.size (wo.alloc CG) wq) (fun _ i _ => x.items.length - (intOf i).toNat)
                case atStart => exact ⟨0, Nat.zero_le _, rfl, by simp [takesTo], Below.refl _ _⟩
                case round =>
                  clear q3
                  obtain ⟨p, hp, rfl, rfl, hBq⟩ := hrel
                  have hz1 := HZ1.out
                  have r0 := (hBq.cell (p := ⟨wo.heap.size, 0, none⟩) (by show wo.heap.size < _; omega)).trans HQ0.out
                  have htl := takes_le zs x p
                  by_cases hltp : p < x.items.length
                  · obtain ⟨gi, oi, rfl, hgi, hcc⟩ := HCI.out (by omega)
                    obtain ⟨q, hq, hqe⟩ := HI3.out _ (List.getElem_mem hltp)
                    have hts := HTS.out p hltp
                    have e1 := hcc p hltp
                    rw [hqe] at e1 hts
                    have e1' : wr.cell? ⟨gi, oi + p, none⟩ = some (.int .i64 q) := (hBq.cell (p := ⟨gi, oi + p, none⟩) (by show gi < _; omega)).trans ((HBC.out.cell (p := ⟨gi, oi + p, none⟩) hgi).trans e1)
                    obtain ⟨az', cz', hvz, hcz⟩ := HZ4.out
                    injection hvz with q1 q2 q3
                    subst q1
                    clear q2 q3
                    obtain ⟨gz, oz, rfl, hgz, hcz⟩ := hcz (by omega)
                    have e2 : wr.cell? ⟨gz, oz + q, none⟩ = some (.int .i64 zs[q]) := ((hBg.trans (hBq.mono hBg.size)).cell (p := ⟨gz, oz + q, none⟩) hgz).trans (hcz q hq)
                    rw [Int.toNat_natCast, HLV.out, List.getD_eq_getElem?_getD, List.getElem?_eq_getElem hq] at hts
                    obtain ⟨z, hz⟩ : ∃ z, z = zs[q] := ⟨_, rfl⟩
                    rw [← hz] at e2 hts
                    have hts' : takesTo zs x (p + 1) = takesTo zs x p + (if z = (mm : Int) then 1 else 0) := hts
                    obtain ⟨t, ht⟩ : ∃ t, t = takesTo zs x p := ⟨_, rfl⟩
                    rw [← ht] at hts' htl ⊢
                    clear hts e1 hz hcz hcc hqe ht
                    by_cases hzm : z = (mm : Int)
                    · rw [if_pos hzm] at hts'
                      have hbq : (z == (mm : Int)) = true := by simp [hzm]
                      have HT := Lib.hid hts'
                      clear hts' hzm
                      go_wp2_with fail
                      go_quiet (fail)
                      go_wp2_with fail
                      go_roundw
                      case rel => exact ⟨p + 1, by omega, by go_num, by rw [HT.out]; go_num, below_drewN hBq _⟩
                      case measure => simp [intOf]; omega
                    · rw [if_neg hzm] at hts'
                      have hbq : (z == (mm : Int)) = false := by simp [hzm]
                      have HT := Lib.hid hts'
                      clear hts' hzm
                      go_wp2_with fail
                      go_quiet (fail)
                      go_wp2_with fail
                      go_roundw
                      case rel => exact ⟨p + 1, by omega, by go_num, by rw [HT.out]; rfl, below_drewN hBq _⟩
                      case measure => simp [intOf]; omega
                  · obtain rfl : p = x.items.length := by omega
                    have hBn : Below w4.heap.size w4 wr := hBg.trans (hBq.mono hBg.size)
                    obtain ⟨al', cl', hvl, hcl⟩ := RdLevs.below HRL4.out hBn
                    injection hvl with q1 q2 q3
                    subst q1
                    clear q2 q3
                    obtain ⟨gl, ol, rfl, hgl, hcl⟩ := hcl (by omega)
                    obtain ⟨sv, _, _, _, _, l3, _⟩ := hcl mm hmm
                    have hgo : grpOkB ls zs x = !(decide (0 < takesTo zs x x.items.length) && decide ((takesTo zs x x.items.length : Int) < ls[mm].min)) := by
                      unfold grpOkB
                      rw [HLV.out, minAt_get hmm]
                    obtain ⟨mn, hmn⟩ : ∃ z, z = ls[mm].min := ⟨_, rfl⟩
                    rw [← hmn] at l3 hgo
                    obtain ⟨t, ht⟩ : ∃ t, t = takesTo zs x x.items.length := ⟨_, rfl⟩
                    rw [← ht] at htl hgo ⊢
                    have HGO := Lib.hid hgo
                    have HBN := Lib.hid hBn
                    clear hgo hmn ht hcl
                    by_cases h0 : t = 0
                    · have hok : grpOkB ls zs x = true := by rw [HGO.out, h0]; simp
                      have HK := Lib.hid hok
                      have hgt : ¬ ((t : Int) > 0) := by omega
                      clear hok h0
                      go_wp2_with fail
                      go_roundw
                      case rel =>
                        refine ⟨k + 1, by omega, by go_num, HBN.out, fun j hj hjk => ?_⟩
                        by_cases e : j = k
                        · subst e; rw [← HX.out]; exact HK.out
                        · exact HOK.out j hj (by omega)
                      case measure => simp [intOf]; omega
                    · have hgt : (t : Int) > 0 := by omega
                      by_cases hmt : (t : Int) < mn
                      · have hok : grpOkB ls zs x = false := by rw [HGO.out, decide_eq_true (by omega), decide_eq_true hmt]; rfl
                        have hall : grpsOkB ls zs Gs = false := by
                          unfold grpsOkB
                          rw [List.all_eq_false]
                          exact ⟨Gs[k], List.getElem_mem hlt, by rw [← HX.out, hok]; simp⟩
                        have HAL := Lib.hid hall
                        clear hok hall h0
                        go_wp2_with fail
                        go_ret2
                        rw [HAL.out]
                        exact ⟨rfl, HB4.out.trans (HBN.out.mono HB4.out.size)⟩
                      · have hok : grpOkB ls zs x = true := by rw [HGO.out, decide_eq_false hmt]; simp
                        have HK := Lib.hid hok
                        clear hok h0
                        go_wp2_with fail
                        go_roundw
                        case rel =>
                          refine ⟨k + 1, by omega, by go_num, HBN.out, fun j hj hjk => ?_⟩
                          by_cases e : j = k
                          · subst e; rw [← HX.out]; exact HK.out
                          · exact HOK.out j hj (by omega)
                        case measure => simp [intOf]; omega
              · obtain rfl : k = Gs.length := by omega
                have hall : grpsOkB ls zs Gs = true := by
                  unfold grpsOkB
                  rw [List.all_eq_true]
                  intro x hx
                  obtain ⟨j, hj, rfl⟩ := List.mem_iff_getElem.1 hx
                  exact HOK.out j hj hj
                have HAL := Lib.hid hall
                clear hall
                go_wp2_with fail
                go_ret2
                rw [HAL.out]
                exact ⟨rfl, HB4.out.trans (hB.mono HB4.out.size)⟩
      · have hne : ((zs.length : Int) != (ps.length : Int)) = true := by simp; omega
        go_enter Tryz.func99, Tryz.ntmps99
        go_wp2_with (first
          | (go_at_call 51; refine (HRT.out _ hb0).mono ?_; rintro e w1 ⟨rfl, hb1⟩; (rw [HZ0.out] at hb1); have hB1 : Below w.heap.size w w1 := hb0.trans (hb1.mono (Nat.le_succ _)); obtain ⟨x0, x1, x2, x3⟩ := HBX.out w1 hb1)
          | (go_at_call 162; refine (HML.out _ hB1).mono ?_; rintro e w2 ⟨rfl, hb2⟩; have hb2' := hb1.trans (hb2.mono (by have := hb1.size; rw [HZ0.out] at this; exact this)); have hB2 : Below w.heap.size w w2 := hb0.trans (hb2'.mono (Nat.le_succ _)); clear x0 x1 x2 x3; obtain ⟨x0, x1, x2, x3⟩ := HBX.out w2 hb2'))
        go_ret2
        rw [HVR.out, if_neg (fun h => hle h.2.2.1)]
        exact ⟨rfl, hB2⟩
end Go.Proofs.YtojedplbhialpaaGreatDoor

/-! MD -/
namespace Go.Proofs.YtojedplbhialpaaGreatDoor
open Go.RowKit
set_option linter.unusedVariables false
set_option maxRecDepth 100000
set_option maxHeartbeats 4000000 in
theorem min_any (zs : List Int) (v : Value) (w : World) (hv : RdInts w v zs) (h0 : 0 < zs.length) (hl : zs.length ≤ 100000) :
    Calls Tryz.prog 200 #[v] w fun e w' => ∃ m, m ∈ zs ∧ e = .returned (.int .i64 m) ∧ w' = w := by
  obtain ⟨a, ca, rfl, hc⟩ := hv
  obtain ⟨g, off, rfl, hg, hcc⟩ := hc h0
  have c0 : w.cell? ⟨g, off, none⟩ = some (.int .i64 (zs[0]'h0)) := hcc 0 h0
  have HC := Lib.hid hcc
  have HM0 := Lib.hid (List.getElem_mem h0)
  clear hc hcc
  generalize zs[0] = z0 at c0 HM0
  go_enter Tryz.func200, Tryz.ntmps200
  go_wp2_with fail
  go_loop [3, 4] (fun x i => ∃ (k : Nat) (m : Int), 1 ≤ k ∧ k ≤ zs.length ∧ i = .int .i64 k ∧ x = .int .i64 m ∧ Hid (m ∈ zs)) (fun _ i => zs.length - (intOf i).toNat)
  case atStart => exact ⟨1, z0, Nat.le_refl _, h0, rfl, rfl, HM0.out⟩
  case round =>
    obtain ⟨k, m, hk1, hk, rfl, rfl, HM⟩ := hrel
    by_cases hlt : k < zs.length
    · have c1 := HC.out k hlt
      have HMk := Lib.hid (List.getElem_mem hlt)
      clear HC
      generalize zs[k] = zk at c1 HMk
      have d4 : decide ((k : Int) < (zs.length : Int)) = true := decide_eq_true (by omega)
      have HMIN : Hid (min m zk ∈ zs) := by
        show min m zk ∈ zs
        rcases Int.le_total m zk with h | h
        · rw [Int.min_eq_left h]; exact HM.out
        · rw [Int.min_eq_right h]; exact HMk.out
      go_wp2_with fail
      go_round
      case rel => exact ⟨k + 1, min m zk, by omega, by omega, by go_num, rfl, HMIN.out⟩
      case measure => simp [intOf]; omega
    · obtain rfl : k = zs.length := by omega
      go_wp2_with fail
      go_ret
      exact ⟨m, HM.out, rfl, rfl⟩
set_option maxHeartbeats 4000000 in
theorem step1_any (s : Stp) (g : Int) (X : Nat) (v : Value) (w : World) (hv : ∃ a n c, v = .slice a n c) (hX : w.cell? ⟨X, 0, none⟩ = some (.int .i64 g)) (hXl : X < w.heap.size) :
    Calls Tryz.prog 204 #[.agg #[.int .i64 s.grams, v], .pointer (some ⟨X, 0, none⟩)] w fun e w' => e = .returned (.bool (decide (g ≤ s.grams))) ∧ Below w.heap.size w w' := by
  obtain ⟨a, n, c, rfl⟩ := hv
  have HB := Lib.hid ((Below.refl _ w).alloc (Nat.le_refl _) (.cells #[.int .i64 s.grams, .slice a n c] 95))
  go_enter Tryz.func204, Tryz.ntmps204
  go_wp2_with fail
  go_ret
  exact ⟨rfl, HB.out⟩
set_option maxHeartbeats 8000000 in
theorem ixs_any (g : Int) (X : Nat) (xs : List Stp) (v : Value) (w : World) (hr : RdSteps w v xs) (hX : w.cell? ⟨X, 0, none⟩ = some (.int .i64 g)) (hXl : X < w.heap.size) (hl : xs.length ≤ 1000000) :
    Calls Tryz.prog 205 #[v, .func (Fn.func 204) #[] #[.pointer (some ⟨X, 0, none⟩)]] w fun e w' => e = .returned (.int .i64 (stepOf xs g)) ∧ Below w.heap.size w w' := by
  obtain ⟨a, cap, rfl, hc⟩ := hr
  have HC := Lib.hid hc
  have HX := Lib.hid hX
  have HXL := Lib.hid hXl
  clear hc hX hXl
  go_enter Tryz.func205, Tryz.ntmps205
  go_wp2_with fail
  go_loopw [8] (fun i wx => ∃ q : Nat, q ≤ xs.length ∧ i = .int .i64 q ∧ Below w.heap.size w wx ∧ ∀ i (hi : i < xs.length), i < q → decide (g ≤ xs[i].grams) = false) (fun i _ => xs.length - (intOf i).toNat)
  case atStart => exact ⟨0, Nat.zero_le _, rfl, Below.refl _ _, fun i _ h => absurd h (Nat.not_lt_zero _)⟩
  case round =>
    obtain ⟨q, hq, rfl, hB, hno⟩ := hrel
    have HNO := Lib.hid hno
    have HB := Lib.hid hB
    clear hno
    by_cases hlt : q < xs.length
    · obtain ⟨gx, off, rfl, hg, hcc⟩ := HC.out (by omega)
      obtain ⟨s, hs, hcell⟩ := hcc q hlt
      have hyes := fun h => ixF_at (f := fun s : Stp => decide (g ≤ s.grams)) hlt h (fun i hi hiq => HNO.out i hi hiq)
      obtain ⟨b, hb⟩ : ∃ b, b = xs[q] := ⟨_, rfl⟩
      have HBB := Lib.hid hb
      rw [← hb] at hs hcell hyes
      obtain ⟨asx, csx, rfl, _⟩ := hs
      have f0 : wr.cell? ⟨gx, off + q * 2, none⟩ = some (.int .i64 b.grams) := (hB.cell (p := ⟨gx, off + q * 2, none⟩) hg).trans (hcell 0 _ rfl)
      have f1 : wr.cell? ⟨gx, off + q * 2 + 1, none⟩ = some (.slice asx b.cents.length csx) := (hB.cell (p := ⟨gx, off + q * 2 + 1, none⟩) hg).trans (hcell 1 _ rfl)
      have hcall := step1_any b g X (.slice asx b.cents.length csx) wr ⟨_, _, _, rfl⟩ ((hB.cell (p := ⟨X, 0, none⟩) HXL.out).trans HX.out) (Nat.lt_of_lt_of_le HXL.out hB.size)
      have HCALL := Lib.hid hcall
      have HY := Lib.hid hyes
      clear hcall hyes hcell hcc hb
      cases hct : decide (g ≤ b.grams)
      · rw [hct] at HCALL
        go_wp2_with (go_at_call 204; refine HCALL.out.mono ?_; rintro e w2 ⟨rfl, hb2⟩)
        go_roundw
        case rel =>
          refine ⟨q + 1, by omega, by go_num, below_c HB.out HB.out.size hb2, fun i hi hiq => ?_⟩
          by_cases e : i = q
          · subst e; rw [← HBB.out]; exact hct
          · exact HNO.out i hi (by omega)
        case measure => simp [intOf]; omega
      · rw [hct] at HCALL
        have hy := HY.out hct
        have HYY := Lib.hid hy
        clear hy
        go_wp2_with (go_at_call 204; refine HCALL.out.mono ?_; rintro e w2 ⟨rfl, hb2⟩)
        go_ret
        unfold stepOf
        rw [HYY.out]
        exact ⟨rfl, below_c HB.out HB.out.size hb2⟩
    · have hn := ixF_none (f := fun s : Stp => decide (g ≤ s.grams)) (l := xs) (fun i hi => HNO.out i hi (by omega))
      have HN := Lib.hid hn
      clear hn
      go_wp2_with fail
      go_ret
      unfold stepOf
      rw [HN.out]
      exact ⟨rfl, HB.out⟩
set_option maxHeartbeats 8000000 in
theorem price_any {zn : Nat} {r : Rat} (hr : RatOk zn r) (v : Value) (z g : Int) (w : World) (hv : RdSteps w v r.steps) (hz : 1 ≤ z ∧ z ≤ zn) (hzn : zn ≤ 20) :
    Calls Tryz.prog 165 #[.agg #[.int .u8 r.cls, v, .int .i64 r.bar], .int .i64 z, .int .i64 g] w fun e w' => e = .returned (.tuple #[.int .i64 (priceR r z g).1, .int .i64 (priceR r z g).2]) ∧ Below w.heap.size w w' := by
  obtain ⟨m, rfl⟩ : ∃ m : Nat, z = (m + 1 : Nat) := ⟨(z - 1).toNat, by omega⟩
  have hm : m < zn := by omega
  have HIX : Hid (∀ W X, RdSteps W v r.steps → W.cell? ⟨X, 0, none⟩ = some (.int .i64 g) → X < W.heap.size → Calls Tryz.prog 205 #[v, .func (Fn.func 204) #[] #[.pointer (some ⟨X, 0, none⟩)]] W fun e w' => e = .returned (.int .i64 (stepOf r.steps g)) ∧ Below W.heap.size W w') :=
    fun W X h1 h2 h3 => ixs_any g X r.steps v W h1 h2 h3 (by have := hr.some_; omega)
  have HRD := Lib.hid hv
  have hs := hr.some_
  have HCE := Lib.hid hr.cents
  have hcs := ixF_cases (fun s : Stp => decide (g ≤ s.grams)) r.steps
  have hex : ∃ P, P = priceR r ((m + 1 : Nat) : Int) g := ⟨_, rfl⟩
  obtain ⟨P, hP⟩ := hex
  rw [← hP]
  have hPe : P = if stepOf r.steps g < 0 then (0, 3) else (centAt (r.steps.getD (stepOf r.steps g).toNat ⟨0, []⟩) ((m + 1 : Nat) : Int), 0) := hP
  have hst : stepOf r.steps g = ixF (fun s : Stp => decide (g ≤ s.grams)) r.steps := rfl
  clear hr hP
  have hbx : Below w.heap.size w ((w.alloc (.cells #[.int .u8 r.cls, v, .int .i64 r.bar] 98)).alloc (.cells #[.int .i64 g] 3)) := ((Below.refl _ w).alloc (Nat.le_refl _) _).alloc (by simp) _
  have HBX := Lib.hid hbx
  obtain ⟨a, ca, rfl, hcc⟩ := hv
  have HC := Lib.hid hcc
  clear hbx hcc
  rcases hcs with ⟨h1, _⟩ | ⟨q, hq, h1, _⟩
  · rw [← hst] at h1
    rw [h1] at HIX hPe
    have hPv : P = (0, 3) := hPe
    clear hPe hst h1 HC
    go_enter Tryz.func165, Tryz.ntmps165
    go_wp2_with (go_at_call 205; refine (HIX.out _ _ (HRD.out.below HBX.out) (by simp [go_sem]) (by simp)).mono ?_; rintro e w2 ⟨rfl, hb2⟩)
    go_ret2
    rw [hPv]
    exact ⟨rfl, HBX.out.trans (hb2.mono HBX.out.size)⟩
  · rw [← hst] at h1
    rw [h1] at HIX hPe
    obtain ⟨gx, off, rfl, hg, hcell⟩ := HC.out (by omega)
    obtain ⟨sv, hsv, hcs⟩ := hcell q hq
    obtain ⟨q1, _⟩ := HCE.out _ (List.getElem_mem hq)
    obtain ⟨ax, cx, rfl, hints⟩ := hsv
    have hmc : m < r.steps[q].cents.length := by omega
    obtain ⟨gc, oc, rfl, hgc, hcc⟩ := hints (Nat.lt_of_le_of_lt (Nat.zero_le _) hmc)
    have x1 := hcs 1 _ rfl
    have x2 : w.cell? ⟨gc, oc + m, none⟩ = some (.int .i64 (r.steps[q].cents[m]'hmc)) := hcc m hmc
    have hPv : P = (r.steps[q].cents[m]'hmc, 0) := by
      rw [hPe, if_neg (by omega), Int.toNat_natCast, List.getD_eq_getElem?_getD, List.getElem?_eq_getElem hq]
      unfold centAt
      rw [show (((m + 1 : Nat) : Int) - 1).toNat = m by omega, List.getD_eq_getElem?_getD, Option.getD_some, List.getElem?_eq_getElem hmc]
      rfl
    clear hPe hst h1 HC hcell hcs hints hcc HCE
    obtain ⟨ce, hce⟩ : ∃ ce, ce = r.steps[q].cents[m]'hmc := ⟨_, rfl⟩
    rw [← hce] at x2 hPv
    have x1' : w.cell? ⟨gx, off + q * 2 + 1, none⟩ = some (.slice (some ⟨gc, oc, none⟩) zn cx) := by rw [← q1]; exact x1
    clear hce x1 q1 hmc
    have hq2 : q < r.steps.length := hq
    have hm2 : IntKind.i64.wrap (((m + 1 : Nat) : Int) - 1) = (m : Int) := by rw [IntWalk.i64_in _ (by omega)]; omega
    go_enter Tryz.func165, Tryz.ntmps165
    go_wp2_with (go_at_call 205; refine (HIX.out _ _ (HRD.out.below HBX.out) (by simp [go_sem]) (by simp)).mono ?_; rintro e w2 ⟨rfl, hb2⟩; obtain ⟨k1, k2, k3, k4⟩ := two_after hb2; have y1 := cell_of_row _ _ 1 _ _ _ k1; have y2 := (k4.cell (p := ⟨gx, off + q * 2 + 1, none⟩) hg).trans x1'; have y3 := (k4.cell (p := ⟨gc, oc + m, none⟩) hgc).trans x2; have HK4 := Lib.hid k4; clear hb2 k1 k2 k4)
    go_ret2
    rw [hPv]
    exact ⟨rfl, HK4.out⟩
theorem cls_first {l : List Rat} (ha : l.Pairwise (fun a b => a.cls ≠ b.cls)) {k j : Nat} (hk : k < l.length) (hj : j < l.length) (h : l[k].cls = l[j].cls) : k = j := by
  rcases Nat.lt_trichotomy k j with e | e | e
  · exact absurd h (List.pairwise_iff_getElem.1 ha k j hk hj e)
  · exact e
  · exact absurd h.symm (List.pairwise_iff_getElem.1 ha j k hj hk e)
theorem results_cell_tmp {fn : Func} {p u : Tmp} {ty : TypeId} (h : fn.results = #[.cell p ty, .tmp u]) (tmps : Array Value) (w : World) (g : Nat) (x : Value)
    (hp : tmps.getD p undef = .pointer (some ⟨g, 0, none⟩)) (hL : (loadVar ty ⟨g, 0, none⟩).run Tryz.prog w = .ok x w) : (results fn tmps).run Tryz.prog w = .ok (.tuple #[x, tmps.getD u undef]) w := by
  have hp' : tmps[p]?.getD undef = .pointer (some ⟨g, 0, none⟩) := by simpa using hp
  simp [results, h, hp', asAddr, hL, Result.andThen]
theorem set3m {w : World} {g : Nat} {a b c a' b' c' : Value} {t : TypeId} {fr : Nat × Nat} (h : w.heap[g]? = some (.cells #[a, b, c] t fr)) :
    (((w.setCell ⟨g, 0, none⟩ a').setCell ⟨g, 1, none⟩ b').setCell ⟨g, 2, none⟩ c').heap[g]? = some (.cells #[a', b', c'] t fr) := by
  simp [World.setCell, Array.getElem?_modify, h]
theorem set3_below {B : Nat} {w w' : World} {g : Nat} {a b c : Value} (h : Below B w w') (hg : B ≤ g) : Below B w (((w'.setCell ⟨g, 0, none⟩ a).setCell ⟨g, 1, none⟩ b).setCell ⟨g, 2, none⟩ c) :=
  ((h.setCell (p := ⟨g, 0, none⟩) hg _).setCell (p := ⟨g, 1, none⟩) hg _).setCell (p := ⟨g, 2, none⟩) hg _
theorem not_frozen {w : World} {g j : Nat} {cs : Array Value} {t : TypeId} (h : w.heap[g]? = some (.cells cs t (0, 0))) : w.frozen? ⟨g, j, none⟩ = false := by simp [World.frozen?, h]
def ratV (r : Rat) (sv : Value) : Value := .agg #[.int .u8 r.cls, sv, .int .i64 r.bar]
set_option maxHeartbeats 8000000 in
theorem rateOf_yes {T : Tar} {vr vz : Value} (c : Int) (w : World) (h : RdTar w vr vz T) (hl : T.rates.length ≤ 20) {q : Nat} (hq : q < T.rates.length) (hc : T.rates[q].cls = c) (hn : ∀ i (hi : i < T.rates.length), i < q → T.rates[i].cls ≠ c) :
    Calls Tryz.prog 163 #[.agg #[vr, vz], .int .u8 c] w fun e w' => ∃ sv, e = .returned (.tuple #[ratV T.rates[q] sv, .bool true]) ∧ Below w.heap.size w w' ∧ RdSteps w' sv T.rates[q].steps := by
  obtain ⟨a, ca, rfl, hcc⟩ := h.r
  obtain ⟨az, cz, rfl, _⟩ := h.z
  obtain ⟨g, off, rfl, hg, hst⟩ := hcc (by omega)
  have HST := Lib.hid hst
  have HN := Lib.hid hn
  have HC := Lib.hid hc
  clear h hcc hst hn hc
  have hbx : Below w.heap.size w ((w.alloc (.cells #[.slice (some ⟨g, off, none⟩) T.rates.length ca, .slice az T.zones.length cz] 25)).alloc (.cells #[.int .u8 0, .slice none 0 0, .int .i64 0] 98)) := ((Below.refl _ w).alloc (Nat.le_refl _) _).alloc (by simp) _
  obtain ⟨t1, t2, t3, t4⟩ := two_new (w := w) (A := .cells #[.slice (some ⟨g, off, none⟩) T.rates.length ca, .slice az T.zones.length cz] 25) (B := .cells #[.int .u8 0, .slice none 0 0, .int .i64 0] 98) rfl
  have HBX := Lib.hid hbx
  have HT2 := Lib.hid t2
  have HT3 := Lib.hid t3
  clear hbx t1 t2 t3 t4
  unfold ratV
  go_enter Tryz.func163, Tryz.ntmps163
  go_wp2_with fail
  go_loopw [11] (fun i wr => ∃ k : Nat, k ≤ q ∧ i = .int .i64 k ∧ Below w.heap.size w wr ∧ wr.heap[w.heap.size + 1]? = some (.cells #[.int .u8 0, .slice none 0 0, .int .i64 0] 98 (0, 0))) (fun i _ => T.rates.length - (intOf i).toNat)
  case atStart => exact ⟨0, Nat.zero_le _, rfl, HBX.out, HT2.out⟩
  case round =>
    obtain ⟨k, hk, rfl, hb, h1⟩ := hrel
    have hlt : k < T.rates.length := by omega
    obtain ⟨sv, hsv, hat⟩ := HST.out k hlt
    obtain ⟨c0, c1, c2⟩ := hat.below hb hg
    have hgr : g < wr.heap.size := by have := hb.size; omega
    have hwl := (Array.getElem?_eq_some_iff.1 h1).1
    have d4 : decide ((k : Int) < (T.rates.length : Int)) = true := decide_eq_true (by omega)
    have HSV := Lib.hid hsv
    obtain ⟨sa, sc, rfl, _⟩ := hsv
    have HB := Lib.hid hb
    have H1 := Lib.hid h1
    by_cases e : k = q
    · subst e
      have hcl := HC.out
      clear hat HST HN HC hb h1
      generalize hrr : T.rates[k] = r at c0 c1 c2 HSV hcl ⊢
      have d5 : (r.cls == c) = true := by rw [hcl]; simp
      have z0 := cell_of_row _ _ 0 _ _ _ H1.out
      have z1 := cell_of_row _ _ 1 _ _ _ H1.out
      have z2 := cell_of_row _ _ 2 _ _ _ H1.out
      have y0 := not_frozen (j := 0) H1.out
      have y1 := not_frozen (j := 1) H1.out
      have y2 := not_frozen (j := 2) H1.out
      go_wp2_with fail
      refine bodyPost_ret (results_cell_tmp rfl _ _ (w.heap.size + 1) _ rfl (run_loadVar_row _ _ _ _ _ _ _ ((Below.heap_alloc _ _ _ (by simp [World.setCell]; omega)).trans (set3m H1.out)) Tryz.underlying98 rfl (by kernel_rfl))) rfl ?_
      have HF := (set3_below (g := w.heap.size + 1) (a := .int .u8 c) (b := .slice sa r.steps.length sc) (c := .int .i64 r.bar) HB.out (Nat.le_succ w.heap.size)).alloc (by simp [World.setCell]; omega) (.cells #[.int .u8 c, .slice sa r.steps.length sc, .int .i64 r.bar] 98)
      exact ⟨_, rfl, HF, HSV.out.below HF⟩
    · have hne := HN.out k hlt (by omega)
      clear hat HST HN HC hb h1
      generalize T.rates[k] = r at c0 c1 c2 HSV hne
      have d5 : (r.cls == c) = false := by rw [beq_eq_false_iff_ne]; exact hne
      go_wp2_with fail
      go_roundw
      case rel => exact ⟨k + 1, by omega, by go_num, HB.out.alloc HB.out.size _, (Below.heap_alloc _ _ _ hwl).trans H1.out⟩
      case measure => simp [intOf]; omega
end Go.Proofs.YtojedplbhialpaaGreatDoor

/-! ME -/
namespace Go.Proofs.YtojedplbhialpaaGreatDoor
open Go.RowKit
set_option linter.unusedVariables false
set_option maxRecDepth 100000
set_option maxHeartbeats 8000000 in
theorem barOf_yes {T : Tar} {vr vz : Value} (c : Int) (w : World) (h : RdTar w vr vz T) (hl : T.rates.length ≤ 20) {q : Nat} (hq : q < T.rates.length) (hc : T.rates[q].cls = c) (hn : ∀ i (hi : i < T.rates.length), i < q → T.rates[i].cls ≠ c) :
    Calls Tryz.prog 97 #[.agg #[vr, vz], .int .u8 c] w fun e w' => e = .returned (.int .i64 T.rates[q].bar) ∧ Below w.heap.size w w' := by
  obtain ⟨a, ca, rfl, hcc⟩ := h.r
  obtain ⟨az, cz, rfl, _⟩ := h.z
  obtain ⟨g, off, rfl, hg, hst⟩ := hcc (by omega)
  have HST := Lib.hid hst
  have HN := Lib.hid hn
  have HC := Lib.hid hc
  clear h hcc hst hn hc
  have HBX := Lib.hid ((Below.refl _ w).alloc (Nat.le_refl _) (.cells #[.slice (some ⟨g, off, none⟩) T.rates.length ca, .slice az T.zones.length cz] 25))
  go_enter Tryz.func97, Tryz.ntmps97
  go_wp2_with fail
  go_loopw [10] (fun i wr => ∃ k : Nat, k ≤ q ∧ i = .int .i64 k ∧ Below w.heap.size w wr) (fun i _ => T.rates.length - (intOf i).toNat)
  case atStart => exact ⟨0, Nat.zero_le _, rfl, HBX.out⟩
  case round =>
    obtain ⟨k, hk, rfl, hb⟩ := hrel
    have hlt : k < T.rates.length := by omega
    obtain ⟨sv, hsv, hat⟩ := HST.out k hlt
    obtain ⟨c0, c1, c2⟩ := hat.below hb hg
    have hgr : g < wr.heap.size := by have := hb.size; omega
    have d4 : decide ((k : Int) < (T.rates.length : Int)) = true := decide_eq_true (by omega)
    obtain ⟨sa, sc, rfl, _⟩ := hsv
    have HB := Lib.hid hb
    by_cases e : k = q
    · subst e
      have hcl := HC.out
      clear hat HST HN HC hb
      generalize hrr : T.rates[k] = r at c0 c1 c2 hcl ⊢
      have d5 : (r.cls == c) = true := by rw [hcl]; simp
      go_wp2_with fail
      go_ret
      exact ⟨rfl, HB.out.alloc HB.out.size _⟩
    · have hne := HN.out k hlt (by omega)
      clear hat HST HN HC hb
      generalize T.rates[k] = r at c0 c1 c2 hne
      have d5 : (r.cls == c) = false := by rw [beq_eq_false_iff_ne]; exact hne
      go_wp2_with fail
      go_roundw
      case rel => exact ⟨k + 1, by omega, by go_num, HB.out.alloc HB.out.size _⟩
      case measure => simp [intOf]; omega
theorem prefix_any (s p : ByteArray) (w : World) : Calls Tryz.prog 206 #[.string s, .string p] w fun e w' => e = .returned (.bool (prefB p s)) ∧ w' = w := Tryz.strings_HasPrefix s p w
theorem zoneStep_no {fr till : ByteArray} {b r : Zn} (h : (prefB r.fr fr && prefB r.till till) = false) : zoneStep fr till b r = b := by unfold zoneStep; rw [h]; rfl
theorem zoneStep_yes {fr till : ByteArray} {b r : Zn} (h : prefB r.fr fr = true) (h' : prefB r.till till = true) (hc : b.zone = 0 ∨ b.fr.size < r.fr.size ∨ (r.fr.size = b.fr.size ∧ b.till.size < r.till.size)) : zoneStep fr till b r = r := by
  unfold zoneStep; rw [h, h', Bool.and_self, if_pos rfl, if_pos hc]
theorem zoneStep_keep {fr till : ByteArray} {b r : Zn} (hc : ¬ (b.zone = 0 ∨ b.fr.size < r.fr.size ∨ (r.fr.size = b.fr.size ∧ b.till.size < r.till.size))) : zoneStep fr till b r = b := by
  unfold zoneStep
  by_cases h : (prefB r.fr fr && prefB r.till till) = true
  · rw [if_pos h, if_neg hc]
  · rw [if_neg h]
def znO (z : Zn) : Obj := .cells #[.string z.fr, .string z.till, .int .i64 z.zone] 100
set_option maxHeartbeats 16000000 in
theorem zoneOf_any (l : List Zn) (v : Value) (fr till : ByteArray) (w : World) (hv : RdZones w v l) (hl : l.length ≤ 500) (hsz : ∀ r ∈ l, r.fr.size ≤ 1000 ∧ r.till.size ≤ 1000) :
    Calls Tryz.prog 166 #[v, .string fr, .string till] w fun e w' => e = .returned (.int .i64 (zoneR l fr till)) ∧ Below w.heap.size w w' := by
  obtain ⟨a, ca, rfl, hcc⟩ := hv
  have HC := Lib.hid hcc
  have HSZ := Lib.hid hsz
  have HB0 := Lib.hid ((Below.refl _ w).alloc (Nat.le_refl _) (.cells #[.string ⟨#[]⟩, .string ⟨#[]⟩, .int .i64 0] 100))
  clear hcc hsz
  unfold zoneR
  go_enter Tryz.func166, Tryz.ntmps166
  go_wp2_with fail
  go_loopw [14] (fun i wr => ∃ (k : Nat) (b : Zn), k ≤ l.length ∧ i = .int .i64 k ∧ Below w.heap.size w wr ∧ wr.heap[w.heap.size]? = some (znO b) ∧ Hid (b = zoneTo l fr till k) ∧ b.fr.size ≤ 1000 ∧ b.till.size ≤ 1000) (fun i _ => l.length - (intOf i).toNat)
  case atStart => exact ⟨0, noZn, Nat.zero_le _, rfl, HB0.out, alloc_new w _, rfl, Nat.zero_le _, Nat.zero_le _⟩
  case round =>
    obtain ⟨k, b, hk, rfl, hb, h1, HBE, b1, b2⟩ := hrel
    have hwl := (Array.getElem?_eq_some_iff.1 h1).1
    have HB := Lib.hid hb
    have H1 := Lib.hid h1
    unfold znO at h1
    have z0 := cell_of_row _ _ 0 _ _ _ h1
    have z1 := cell_of_row _ _ 1 _ _ _ h1
    have z2 := cell_of_row _ _ 2 _ _ _ h1
    by_cases hlt : k < l.length
    · obtain ⟨g, off, rfl, hg, hst⟩ := HC.out (by omega)
      obtain ⟨c0, c1, c2⟩ := (hst k hlt).below hb hg
      have hgr : g < wr.heap.size := by have := hb.size; omega
      have d4 : decide ((k : Int) < (l.length : Int)) = true := decide_eq_true (by omega)
      have HSU := Lib.hid (zoneTo_succ l fr till k hlt)
      obtain ⟨r1, r2⟩ := HSZ.out _ (List.getElem_mem hlt)
      have y0 := not_frozen (j := 0) h1
      have y1 := not_frozen (j := 1) h1
      have y2 := not_frozen (j := 2) h1
      have H1' := Lib.hid h1
      clear hst HC HSZ hb h1
      generalize l[k] = r at c0 c1 c2 HSU r1 r2
      have HP1 := Lib.hid (fun W => prefix_any fr r.fr W)
      have HP2 := Lib.hid (fun W => prefix_any till r.till W)
      cases hp1 : prefB r.fr fr
      · rw [hp1] at HP1
        go_wp2_with (first | (go_at_call 206; refine (HP2.out _).mono ?_; rintro e w3 ⟨rfl, rfl⟩) | (go_at_call 206; refine (HP1.out _).mono ?_; rintro e w2 ⟨rfl, rfl⟩))
        go_roundw
        case rel => exact ⟨k + 1, b, by omega, by go_num, HB.out.alloc HB.out.size _, (Below.heap_alloc _ _ _ hwl).trans H1.out, (by show b = _; rw [HSU.out, ← HBE.out]; exact (zoneStep_no (by rw [hp1]; rfl)).symm), b1, b2⟩
        case measure => simp [intOf]; omega
      · rw [hp1] at HP1
        cases hp2 : prefB r.till till
        · rw [hp2] at HP2
          go_wp2_with (first | (go_at_call 206; refine (HP2.out _).mono ?_; rintro e w3 ⟨rfl, rfl⟩) | (go_at_call 206; refine (HP1.out _).mono ?_; rintro e w2 ⟨rfl, rfl⟩))
          go_roundw
          case rel => exact ⟨k + 1, b, by omega, by go_num, HB.out.alloc HB.out.size _, (Below.heap_alloc _ _ _ hwl).trans H1.out, (by show b = _; rw [HSU.out, ← HBE.out]; exact (zoneStep_no (by rw [hp1, hp2]; rfl)).symm), b1, b2⟩
          case measure => simp [intOf]; omega
        · rw [hp2] at HP2
          by_cases e1 : b.zone = 0
          · have d1 : (b.zone == 0) = true := by rw [e1]; rfl
            go_wp2_with (first | (go_at_call 206; refine (HP2.out _).mono ?_; rintro e w3 ⟨rfl, rfl⟩) | (go_at_call 206; refine (HP1.out _).mono ?_; rintro e w2 ⟨rfl, rfl⟩))
            go_roundw
            case rel => exact ⟨k + 1, r, by omega, by go_num, (set3_below HB.out (Nat.le_refl _)).alloc (by simp [World.setCell]; exact HB.out.size) _, (Below.heap_alloc _ _ _ (by simp [World.setCell]; exact hwl)).trans (set3m H1'.out), (by show r = _; rw [HSU.out, ← HBE.out]; exact (zoneStep_yes hp1 hp2 (.inl e1)).symm), r1, r2⟩
            case measure => simp [intOf]; omega
          · have d1 : (b.zone == 0) = false := by rw [beq_eq_false_iff_ne]; exact e1
            by_cases e2 : b.fr.size < r.fr.size
            · have d2 : decide ((b.fr.size : Int) < (r.fr.size : Int)) = true := decide_eq_true (by omega)
              go_wp2_with (first | (go_at_call 206; refine (HP2.out _).mono ?_; rintro e w3 ⟨rfl, rfl⟩) | (go_at_call 206; refine (HP1.out _).mono ?_; rintro e w2 ⟨rfl, rfl⟩))
              go_roundw
              case rel => exact ⟨k + 1, r, by omega, by go_num, (set3_below HB.out (Nat.le_refl _)).alloc (by simp [World.setCell]; exact HB.out.size) _, (Below.heap_alloc _ _ _ (by simp [World.setCell]; exact hwl)).trans (set3m H1'.out), (by show r = _; rw [HSU.out, ← HBE.out]; exact (zoneStep_yes hp1 hp2 (.inr (.inl e2))).symm), r1, r2⟩
              case measure => simp [intOf]; omega
            · have d2 : decide ((b.fr.size : Int) < (r.fr.size : Int)) = false := decide_eq_false (by omega)
              by_cases e3 : r.fr.size = b.fr.size
              · have d3 : ((r.fr.size : Int) == (b.fr.size : Int)) = true := by rw [e3]; simp
                by_cases e5 : b.till.size < r.till.size
                · have d5 : decide ((b.till.size : Int) < (r.till.size : Int)) = true := decide_eq_true (by omega)
                  go_wp2_with (first | (go_at_call 206; refine (HP2.out _).mono ?_; rintro e w3 ⟨rfl, rfl⟩) | (go_at_call 206; refine (HP1.out _).mono ?_; rintro e w2 ⟨rfl, rfl⟩))
                  go_roundw
                  case rel => exact ⟨k + 1, r, by omega, by go_num, (set3_below HB.out (Nat.le_refl _)).alloc (by simp [World.setCell]; exact HB.out.size) _, (Below.heap_alloc _ _ _ (by simp [World.setCell]; exact hwl)).trans (set3m H1'.out), (by show r = _; rw [HSU.out, ← HBE.out]; exact (zoneStep_yes hp1 hp2 (.inr (.inr ⟨e3, e5⟩))).symm), r1, r2⟩
                  case measure => simp [intOf]; omega
                · have d5 : decide ((b.till.size : Int) < (r.till.size : Int)) = false := decide_eq_false (by omega)
                  go_wp2_with (first | (go_at_call 206; refine (HP2.out _).mono ?_; rintro e w3 ⟨rfl, rfl⟩) | (go_at_call 206; refine (HP1.out _).mono ?_; rintro e w2 ⟨rfl, rfl⟩))
                  go_roundw
                  case rel => exact ⟨k + 1, b, by omega, by go_num, HB.out.alloc HB.out.size _, (Below.heap_alloc _ _ _ hwl).trans H1.out, (by show b = _; rw [HSU.out, ← HBE.out]; exact (zoneStep_keep (by omega)).symm), b1, b2⟩
                  case measure => simp [intOf]; omega
              · have d3 : ((r.fr.size : Int) == (b.fr.size : Int)) = false := by rw [beq_eq_false_iff_ne]; omega
                go_wp2_with (first | (go_at_call 206; refine (HP2.out _).mono ?_; rintro e w3 ⟨rfl, rfl⟩) | (go_at_call 206; refine (HP1.out _).mono ?_; rintro e w2 ⟨rfl, rfl⟩))
                go_roundw
                case rel => exact ⟨k + 1, b, by omega, by go_num, HB.out.alloc HB.out.size _, (Below.heap_alloc _ _ _ hwl).trans H1.out, (by show b = _; rw [HSU.out, ← HBE.out]; exact (zoneStep_keep (by omega)).symm), b1, b2⟩
                case measure => simp [intOf]; omega
    · obtain rfl : k = l.length := by omega
      go_wp2_with fail
      go_ret
      rw [← HBE.out]
      exact ⟨rfl, hb⟩
end Go.Proofs.YtojedplbhialpaaGreatDoor

/-! MF -/
namespace Go.Proofs.YtojedplbhialpaaGreatDoor
open Go.RowKit
set_option linter.unusedVariables false
set_option maxRecDepth 100000
set_option maxHeartbeats 16000000 in
theorem fits_yes {z : Nat} {T : Tar} (hT : TarOk z T) {lo hb hc : Int} {ls : List Lev} (hF : FitT lo hb hc T ls) {vr vz v : Value} (w : World) (h : RdTar w vr vz T) (hr : RdLevs w v ls) (hf : ∀ l ∈ ls, LevFits l) (hri : rightB ls = true) :
    Calls Tryz.prog 161 #[.agg #[vr, vz], v] w fun e w' => e = .returned (.bool true) ∧ Below w.heap.size w w' := by
  have hl6 := right_len hri
  have HTR := Lib.hid (fun W (hW : Below w.heap.size w W) => tright_yes hT W (h.below hW))
  have HSR := Lib.hid (fun W (hW : Below w.heap.size w W) => right_any ls v W (hr.below hW) hf (by have := hl6; unfold maxLen; omega))
  rw [hri] at HSR
  have HT := Lib.hid hT
  obtain ⟨lo0, lo1, hc0, hlo⟩ := hF.num
  have HFC := Lib.hid hF.cents
  have HFB := Lib.hid hF.bar
  have HFL := Lib.hid hF.lev
  have hr20 := hT.rates
  have hz20 := hT.zn
  obtain ⟨a, ca, rfl, hcc⟩ := h.r
  obtain ⟨az, cz, rfl, _⟩ := h.z
  have HC := Lib.hid hcc
  obtain ⟨al, cl, rfl, hlc⟩ := hr
  have HLC := Lib.hid hlc
  have HB0 := Lib.hid ((Below.refl _ w).alloc (Nat.le_refl _) (.cells #[.slice a T.rates.length ca, .slice az T.zones.length cz] 25))
  clear hcc hlc h hT hF hri hf
  go_enter Tryz.func161, Tryz.ntmps161
  go_wp2_with (first
    | (go_at_call 164; refine (HTR.out _ HB0.out).mono ?_; rintro e w1 ⟨rfl, hb1⟩; obtain ⟨k1, k2, k3⟩ := one_after hb1; clear hb1)
    | (go_at_call 51; refine (HSR.out _ k3).mono ?_; rintro e w2 ⟨rfl, hb2⟩; have j1 := (hb2.block _ (by omega)).trans k1; have j3 := below_c k3 k3.size hb2; have j2 := Nat.le_trans k2 hb2.size; clear hb2 k1 k2 k3))
  have HJ1 := Lib.hid j1
  have HJ3 := Lib.hid j3
  have HJ2 := Lib.hid j2
  clear j1 j2 j3 HTR HSR
  go_loopw [5, 23] (fun x i wr => ∃ (k : Nat) (m : Int), k ≤ ls.length ∧ i = .int .i64 k ∧ x = .int .i64 m ∧ 0 ≤ m ∧ m ≤ hc ∧ Below w.heap.size w wr ∧ wr.heap[w.heap.size]? = some (.cells #[.slice a T.rates.length ca, .slice az T.zones.length cz] 25 (0, 0))) (fun _ i _ => ls.length - (intOf i).toNat)
  case atStart => exact ⟨0, 0, Nat.zero_le _, rfl, rfl, Int.le_refl _, hc0, HJ3.out, HJ1.out⟩
  case round =>
    obtain ⟨k, m, hk, rfl, rfl, m0, m1, hb1, hbox⟩ := hrel
    have HB := Lib.hid hb1
    have HBOX := Lib.hid hbox
    have hwl := (Array.getElem?_eq_some_iff.1 hbox).1
    by_cases hlt : k < ls.length
    · obtain ⟨g, off, rfl, hg, hst⟩ := HLC.out (by omega)
      obtain ⟨sv, hlab, hat⟩ := hst k hlt
      obtain ⟨t0, t1, t2, t3, t4⟩ := hat
      have s0 := (hb1.cell (p := ⟨g, off + k * 5, none⟩) hg).trans t0
      have s1 := (hb1.cell (p := ⟨g, off + k * 5 + 1, none⟩) hg).trans t1
      have s2 := (hb1.cell (p := ⟨g, off + k * 5 + 2, none⟩) hg).trans t2
      have s3 := (hb1.cell (p := ⟨g, off + k * 5 + 3, none⟩) hg).trans t3
      have s4 := (hb1.cell (p := ⟨g, off + k * 5 + 4, none⟩) hg).trans t4
      have hgr : g < wr.heap.size := by have := hb1.size; omega
      obtain ⟨q1, q2⟩ := HFL.out _ (List.getElem_mem hlt)
      have d4 : decide ((k : Int) < (ls.length : Int)) = true := decide_eq_true (by omega)
      obtain ⟨sa, sc, rfl, _⟩ := hlab
      clear t0 t1 t2 t3 t4 hst HLC HFL hb1 hbox
      generalize ls[k] = l at s0 s1 s2 s3 s4 q1 q2
      have hmx : 0 ≤ max m l.cents ∧ max m l.cents ≤ hc := ⟨Int.le_trans m0 (Int.le_max_left _ _), by omega⟩
      have HMX := Lib.hid hmx
      clear hmx
      go_wp2_with fail
      go_roundw
      case rel => exact ⟨k + 1, max m l.cents, by omega, by go_num, rfl, HMX.out.1, HMX.out.2, HB.out.alloc HB.out.size _, (Below.heap_alloc _ _ _ hwl).trans HBOX.out⟩
      case measure => simp [intOf]; omega
    · obtain rfl : k = ls.length := by omega
      have x0 := cell_of_row _ _ 0 _ _ _ hbox
      clear HLC HFL hb1 hbox HJ1 HJ3 HJ2
      go_wp2_with fail
      go_loopw [35] (fun i wq => ∃ n : Nat, n ≤ T.rates.length ∧ i = .int .i64 n ∧ Below w.heap.size w wq) (fun i _ => T.rates.length - (intOf i).toNat)
      case atStart => exact ⟨0, Nat.zero_le _, rfl, HB.out⟩
      case round =>
        clear HB HBOX hwl x0
        obtain ⟨n, hn, rfl, hb2⟩ := hrel
        have HB := Lib.hid hb2
        by_cases hnl : n < T.rates.length
        · obtain ⟨g, off, rfl, hg, hst⟩ := HC.out (by omega)
          obtain ⟨sv, hsv, hat⟩ := hst n hnl
          obtain ⟨c0, c1, c2⟩ := hat.below hb2 hg
          have hgr : g < wr.heap.size := by have := hb2.size; omega
          have d4 : decide ((n : Int) < (T.rates.length : Int)) = true := decide_eq_true (by omega)
          obtain ⟨_, _, hok⟩ := HT.out.rate _ (List.getElem_mem hnl)
          have hbar := hok.bar
          have hsn := hok.some_
          have hzl := fun s hs => (hok.cents s hs).1
          have HZL := Lib.hid hzl
          have HCU := Lib.hid (fun s hs c hcx => ((hok.cents s hs).2 c hcx).2)
          have hbb := HFB.out _ (List.getElem_mem hnl)
          have HLO := Lib.hid (HFC.out _ (List.getElem_mem hnl))
          obtain ⟨sa, sc, rfl, hss⟩ := hsv
          have HSS := Lib.hid hss
          clear hst hat HC HFB HFC hok hzl hss hb2
          generalize T.rates[n] = r at c0 c1 c2 hbar hsn HZL HCU hbb HLO HSS
          go_wp2_with fail
          go_loopw [10, 42] (fun x i wq => ∃ (j : Nat) (y : Int), j ≤ r.steps.length ∧ i = .int .i64 j ∧ x = .int .i64 y ∧ lo ≤ y ∧ y ≤ 1000000 ∧ Below w.heap.size w wq ∧ wq.heap[wr.heap.size]? = some (.cells #[.int .u8 r.cls, .slice sa r.steps.length sc, .int .i64 r.bar] 98 (0, 0))) (fun _ i _ => r.steps.length - (intOf i).toNat)
          case atStart => exact ⟨0, 1000000, Nat.zero_le _, rfl, rfl, by omega, by omega, HB.out.alloc HB.out.size _, alloc_new _ _⟩
          case round =>
            obtain ⟨j, y, hj, rfl, rfl, y0, y1, hb3, h3⟩ := hrel
            have HB3 := Lib.hid hb3
            have H3 := Lib.hid h3
            have hwl3 := (Array.getElem?_eq_some_iff.1 h3).1
            by_cases hjl : j < r.steps.length
            · obtain ⟨gs, os, rfl, hgs, hsc⟩ := HSS.out (by omega)
              obtain ⟨cv, hcv, hcell⟩ := hsc j hjl
              have f0 : wr.cell? ⟨gs, os + j * 2, none⟩ = some (.int .i64 r.steps[j].grams) := (hb3.cell (p := ⟨gs, os + j * 2, none⟩) hgs).trans (hcell 0 _ rfl)
              have f1 : wr.cell? ⟨gs, os + j * 2 + 1, none⟩ = some cv := (hb3.cell (p := ⟨gs, os + j * 2 + 1, none⟩) hgs).trans (hcell 1 _ rfl)
              have hgsr : gs < wr.heap.size := by have := hb3.size; omega
              have hzc := HZL.out _ (List.getElem_mem hjl)
              have HMIN : Hid (∀ W, Below w.heap.size w W → Calls Tryz.prog 200 #[cv] W fun e w' => ∃ m, m ∈ r.steps[j].cents ∧ e = .returned (.int .i64 m) ∧ w' = W) := fun W hW => min_any _ _ W (hcv.below hW) (by omega) (by omega)
              have HM1 := Lib.hid (HLO.out _ (List.getElem_mem hjl))
              have HM2 := Lib.hid (HCU.out _ (List.getElem_mem hjl))
              obtain ⟨ax, cx, rfl, _⟩ := hcv
              have d6 : decide ((j : Int) < (r.steps.length : Int)) = true := decide_eq_true (by omega)
              clear hcell hsc HSS HZL HLO HCU hb3 h3 hzc
              generalize r.steps[j] = st at f0 f1 HMIN HM1 HM2
              go_wp2_with (go_at_call 200; refine (HMIN.out _ (HB3.out.alloc HB3.out.size _)).mono ?_; rintro e w5 ⟨m, hm, rfl, rfl⟩; have n1 := HM1.out m hm; have n2 := HM2.out m hm; have HMN : Hid (lo ≤ min y m ∧ min y m ≤ 1000000) := (⟨by omega, by omega⟩ : lo ≤ min y m ∧ min y m ≤ 1000000); clear hm)
              go_roundw
              case rel => exact ⟨j + 1, min y m, by omega, by go_num, rfl, HMN.out.1, HMN.out.2, HB3.out.alloc HB3.out.size _, (Below.heap_alloc _ _ _ hwl3).trans H3.out⟩
              case measure => simp [intOf]; omega
            · obtain rfl : j = r.steps.length := by omega
              have x2 := cell_of_row _ _ 2 _ _ _ h3
              have hw1 : IntKind.i64.wrap (y - r.bar) = y - r.bar := IntWalk.i64_in _ (by omega)
              have hw2 : IntKind.i64.wrap (y - r.bar - m) = y - r.bar - m := IntWalk.i64_in _ (by omega)
              have d7 : decide (y - r.bar - m < 0) = false := decide_eq_false (by omega)
              clear HSS HZL HLO HCU hb3 h3
              go_wp2_with fail
              go_roundw
              case rel => exact ⟨n + 1, by omega, by go_num, HB3.out⟩
              case measure => simp [intOf]; omega
        · obtain rfl : n = T.rates.length := by omega
          go_wp2_with fail
          go_ret
          exact ⟨rfl, HB.out⟩
end Go.Proofs.YtojedplbhialpaaGreatDoor

/-! MG -/
namespace Go.Proofs.YtojedplbhialpaaGreatDoor
open Go.RowKit Go.Sort
set_option linter.unusedVariables false
set_option maxRecDepth 100000
theorem zone_in {z : Nat} {T : Tar} (hT : TarOk z T) (fr till : ByteArray) : 1 ≤ zoneR T.zones fr till ∧ zoneR T.zones fr till ≤ z := by
  have key : ∀ k, k ≤ T.zones.length → ((zoneTo T.zones fr till k).zone = 0 ∨ (1 ≤ (zoneTo T.zones fr till k).zone ∧ (zoneTo T.zones fr till k).zone ≤ z)) ∧ ((∃ j, j < k ∧ ∃ h : j < T.zones.length, T.zones[j].fr.size = 0 ∧ T.zones[j].till.size = 0) → (zoneTo T.zones fr till k).zone ≠ 0) := fun k => by
    induction k with
    | zero => exact fun _ => ⟨.inl rfl, fun ⟨j, hj, _⟩ => absurd hj (Nat.not_lt_zero _)⟩
    | succ k ih =>
      intro hk
      obtain ⟨i1, i2⟩ := ih (by omega)
      have hrow := (hT.row _ (List.getElem_mem (show k < T.zones.length by omega))).2.2
      rw [zoneTo_succ _ _ _ _ (by omega)]
      have hst : zoneStep fr till (zoneTo T.zones fr till k) (T.zones[k]'(by omega)) = zoneTo T.zones fr till k ∨ zoneStep fr till (zoneTo T.zones fr till k) (T.zones[k]'(by omega)) = T.zones[k]'(by omega) := by
        unfold zoneStep
        split
        · split
          · exact .inr rfl
          · exact .inl rfl
        · exact .inl rfl
      refine ⟨?_, fun ⟨j, hj, h, h1, h2⟩ => ?_⟩
      · rcases hst with e | e
        · rw [e]; exact i1
        · rw [e]; exact .inr hrow
      · by_cases ej : j = k
        · subst ej
          by_cases e0 : (zoneTo T.zones fr till j).zone = 0
          · rw [zoneStep_yes (prefB_nil h1 fr) (prefB_nil h2 till) (.inl e0)]
            omega
          · rcases hst with e | e
            · rw [e]; exact e0
            · rw [e]; omega
        · have := i2 ⟨j, by omega, h, h1, h2⟩
          rcases hst with e | e
          · rw [e]; exact this
          · rw [e]; omega
  obtain ⟨r, hr, h1, h2⟩ := hT.all
  obtain ⟨j, hj, rfl⟩ := List.getElem_of_mem hr
  obtain ⟨k1, k2⟩ := key T.zones.length (Nat.le_refl _)
  have := k2 ⟨j, hj, hj, h1, h2⟩
  unfold zoneR
  omega
def pricedR (T : Tar) (r : Rat) (m : Mai) (i : Nat) : Int × Int := let p := m.ps.getD i ⟨0, 0, ⟨#[]⟩, 0, false⟩; priceR r (zoneR T.zones m.origin p.code) p.grams
theorem mail_pts {m : Mai} (h : mailB m = true) : (1 ≤ m.cls ∧ 1 ≤ m.ctr ∧ m.ctr ≤ 3) ∧ codeB m.origin = true ∧ m.ps.length ≤ 2000 := by
  unfold mailB at h
  simp only [Bool.and_eq_true, decide_eq_true_eq] at h
  exact ⟨h.1, h.2.1, h.2.2.1⟩
theorem below_of_none {w w' : World} (h : w.grownBy w' none) : Below w.heap.size w w' := ⟨h.os, h.tape, h.output, h.size, fun k hk => h.block k hk (by simp)⟩
theorem infoI2 : (Tryz.prog.info? 3).map (fun i => (i.zero, i.size, i.bytes)) = some (some (.int .i64 0), 1, 8) := by kernel_rfl
set_option maxHeartbeats 16000000 in
theorem bases_ok {z : Nat} {T : Tar} (hT : TarOk z T) {vr vz vp : Value} {m : Mai} (w : World) (h : RdTar w vr vz T) (hrp : RdPces w vp m.ps) (hm : mailB m = true) (h8 : m.cls ≤ 255) (hcz : ∀ p ∈ m.ps, p.code.size ≤ maxLen) {q : Nat} (hq : q < T.rates.length) (hqc : T.rates[q].cls = m.cls)
    (hok : ∀ i, i < m.ps.length → (pricedR T T.rates[q] m i).2 = 0) :
    Calls Tryz.prog 96 #[.agg #[vr, vz], maiV m vp] w fun e w' => ∃ g, e = .returned (.tuple #[.slice (some ⟨g, 0, none⟩) m.ps.length m.ps.length, .int .i64 0]) ∧ Below w.heap.size w w' ∧ w.heap.size ≤ g ∧
      w'.ownsRow w.heap.size 3 1 (.slice (some ⟨g, 0, none⟩) m.ps.length m.ps.length) m.ps.length ((List.range m.ps.length).map (fun i => Value.int .i64 (pricedR T T.rates[q] m i).1)) := by
  obtain ⟨i0, hi⟩ := info_parts infoI2
  have HI := Lib.hid hi
  clear hi
  obtain ⟨m1, m2, m3⟩ := mail_pts hm
  have hos : m.origin.size ≤ maxLen := by have := codeB_size m2; unfold maxLen; omega
  have HTR := Lib.hid (fun W (hW : Below w.heap.size w W) => tright_yes hT W (h.below hW))
  have HML := Lib.hid (fun W (hW : Below w.heap.size w W) => mailing_any m vp W (hrp.below hW) ⟨by omega, h8, by omega, by omega⟩ hos (by omega) hcz)
  rw [hm] at HML
  have HRO := Lib.hid (fun W (hW : Below w.heap.size w W) => rateOf_yes m.cls W (h.below hW) hT.rates.2 hq hqc (fun i hi hlt e => by have := cls_first hT.apart hi hq (e.trans hqc.symm); omega))
  have HZN : Hid (∀ W (c : ByteArray), Below w.heap.size w W → Calls Tryz.prog 166 #[vz, .string m.origin, .string c] W fun e w' => e = .returned (.int .i64 (zoneR T.zones m.origin c)) ∧ Below W.heap.size W w') := fun W c hW =>
    zoneOf_any T.zones vz m.origin c W (h.z.below hW) hT.zones.2 (fun r hr => by
      obtain ⟨x1, x2, _⟩ := hT.row r hr
      constructor
      · rcases x1 with x | x
        · omega
        · have := codeB_size x; omega
      · rcases x2 with x | x
        · omega
        · have := codeB_size x; omega)
  have HPR : Hid (∀ W (i : Nat) sv, RdSteps W sv T.rates[q].steps → i < m.ps.length → Calls Tryz.prog 165 #[ratV T.rates[q] sv, .int .i64 (zoneR T.zones m.origin (m.ps.getD i ⟨0, 0, ⟨#[]⟩, 0, false⟩).code), .int .i64 (m.ps.getD i ⟨0, 0, ⟨#[]⟩, 0, false⟩).grams] W fun e w' => e = .returned (.tuple #[.int .i64 (pricedR T T.rates[q] m i).1, .int .i64 0]) ∧ Below W.heap.size W w') := fun W i sv hs hi => by
    have := price_any (hT.rate _ (List.getElem_mem hq)).2.2 sv (zoneR T.zones m.origin (m.ps.getD i ⟨0, 0, ⟨#[]⟩, 0, false⟩).code) (m.ps.getD i ⟨0, 0, ⟨#[]⟩, 0, false⟩).grams W hs (zone_in hT _ _) hT.zn.2
    have e := hok i hi
    unfold pricedR at e ⊢
    rw [e] at this
    exact this
  obtain ⟨a, ca, rfl, _⟩ := h.r
  obtain ⟨az, cz, rfl, _⟩ := h.z
  obtain ⟨ap, cp, rfl, hpc⟩ := hrp
  have HPC := Lib.hid hpc
  generalize T.rates[q] = r at HRO HPR ⊢
  clear hpc h hT hm hqc hok hcz m2 hos hq
  obtain ⟨t1, t2, t3, t4⟩ := two_new (w := w) (A := .cells #[.slice a T.rates.length ca, .slice az T.zones.length cz] 25) (B := .cells #[.int .u8 m.cls, .int .u8 m.ctr, .string m.origin, .slice ap m.ps.length cp] 29) rfl
  have HT4 := Lib.hid t4
  clear t1 t2 t3 t4
  unfold maiV at HML ⊢
  unfold ratV at HRO HPR
  go_enter Tryz.func96, Tryz.ntmps96
  go_wp2_with (first
    | (go_at_call 162; refine (HML.out _ k4).mono ?_; rintro e w2 ⟨rfl, hb2⟩; have j1 := (hb2.block _ (by omega)).trans k1; have j2 := (hb2.block _ (by omega)).trans k2; have j4 := below_c k4 k4.size hb2; have j3 := Nat.le_trans k3 hb2.size; clear hb2 k1 k2 k3 k4; have x10 := cell_of_row _ _ 0 _ _ _ j1; have x11 := cell_of_row _ _ 1 _ _ _ j1; have x20 := cell_of_row _ _ 0 _ _ _ j2)
    | (go_at_call 164; refine (HTR.out _ HT4.out).mono ?_; rintro e w1 ⟨rfl, hb1⟩; obtain ⟨k1, k2, k3, k4⟩ := two_after hb1; clear hb1; have x20 := cell_of_row _ _ 0 _ _ _ k2; have x21 := cell_of_row _ _ 1 _ _ _ k2; have x22 := cell_of_row _ _ 2 _ _ _ k2; have x23 := cell_of_row _ _ 3 _ _ _ k2)
    | (go_at_call 163; refine (HRO.out _ j4).mono ?_; rintro e w3 ⟨sv, rfl, hb3, hsv⟩; obtain ⟨sva, svc, rfl, _⟩ := id hsv; have i1 := (hb3.block _ (by omega)).trans j1; have i2 := (hb3.block _ (by omega)).trans j2; have i4 := below_c j4 j4.size hb3; have i3 := Nat.le_trans j3 hb3.size; clear hb3 j1 j2 j3 j4 x20 x21 x22 x23 x10 x11; have z0 := cell_of_row _ _ 3 _ _ _ i2; have hlz : w.heap.size + 1 < w3.heap.size := by omega)
    | (at_make; refine wpList_make_own _ rfl _ _ 30 rfl w.heap.size 3 i0 (.int .i64 0) 1 Tryz.underlying30 HI.out.1 HI.out.2.1 HI.out.2.2.1 _ _ _ m.ps.length rfl (by first | rfl | simp) rfl (by rw [HI.out.2.2.2]; omega) (by unfold maxLen; omega) (by have := i4.size; simp; omega) ?_; intro w4 hown hgrow; rw [World.size_alloc] at hown; obtain ⟨l1, l2, l3⟩ := one_after (below_of_none hgrow); have n1 := (l3.block _ (by omega)).trans i1; have n2 := (l3.block _ (by omega)).trans i2; have n4 := below_c i4 i4.size l3; have z4 := cell_of_row _ _ 3 _ _ _ n2; clear hgrow))
  have HL1 := Lib.hid l1
  have HL3 := Lib.hid l3
  have HN1 := Lib.hid n1
  have HN2 := Lib.hid n2
  have HN4 := Lib.hid n4
  have HOWN := Lib.hid hown
  have HSV := Lib.hid hsv
  have HW3 := Lib.hid i3
  have HB4 := Lib.hid i4
  clear l1 l2 l3 n1 n2 n4 z4 hown hsv i1 i2 i3 i4 z0 hlz HTR HML HRO HT4
  go_loopw [8, 37] (fun x i wr => ∃ k : Nat, k ≤ m.ps.length ∧ i = .int .i64 k ∧ x = .slice (some ⟨w3.heap.size + 1, 0, none⟩) k m.ps.length ∧ Below w.heap.size w wr ∧ Below w3.heap.size w3 wr ∧ wr.heap[w.heap.size]? = some (.cells #[.slice a T.rates.length ca, .slice az T.zones.length cz] 25 (0, 0)) ∧ wr.heap[w.heap.size + 1]? = some (.cells #[.int .u8 m.cls, .int .u8 m.ctr, .string m.origin, .slice ap m.ps.length cp] 29 (0, 0)) ∧
    wr.heap[w3.heap.size]? = some (.cells #[.int .u8 r.cls, .slice sva r.steps.length svc, .int .i64 r.bar] 98 (0, 0)) ∧ wr.ownsRow w.heap.size 3 1 (.slice (some ⟨w3.heap.size + 1, 0, none⟩) k m.ps.length) k ((List.range k).map (fun i => Value.int .i64 (pricedR T r m i).1))) (fun _ i _ => m.ps.length - (intOf i).toNat)
  case atStart => exact ⟨0, Nat.zero_le _, rfl, rfl, HN4.out, HL3.out, HN1.out, HN2.out, HL1.out, HOWN.out⟩
  case round =>
    clear HL1 HL3 HN1 HN2 HN4 HOWN
    obtain ⟨k, hk, rfl, rfl, hB, hB3, hx1, hx2, hx3, hO⟩ := hrel
    have HB := Lib.hid hB
    have HB3 := Lib.hid hB3
    have HX1 := Lib.hid hx1
    have HX2 := Lib.hid hx2
    have HX3 := Lib.hid hx3
    have HO := Lib.hid hO
    by_cases hlt : k < m.ps.length
    · obtain ⟨g, off, rfl, hg, hst⟩ := HPC.out (by omega)
      obtain ⟨p0, p1, p2, p3, p4⟩ := (hst k hlt).below hB hg
      have hgr : g < wr.heap.size := by have := hB.size; omega
      have d4 : decide ((k : Int) < (m.ps.length : Int)) = true := decide_eq_true (by omega)
      have hpk : m.ps.getD k ⟨0, 0, ⟨#[]⟩, 0, false⟩ = m.ps[k] := by rw [List.getD_eq_getElem?_getD, List.getElem?_eq_getElem hlt]; rfl
      have HPK : Hid (∀ W, Below wr.heap.size wr W → Calls Tryz.prog 165 #[.agg #[.int .u8 r.cls, .slice sva r.steps.length svc, .int .i64 r.bar], .int .i64 (zoneR T.zones m.origin m.ps[k].code), .int .i64 m.ps[k].grams] W fun e w' => e = .returned (.tuple #[.int .i64 (pricedR T r m k).1, .int .i64 0]) ∧ Below W.heap.size W w') := fun W hW => by
        have := HPR.out W k _ (HSV.out.below (below_c HB3.out HB3.out.size hW)) hlt
        rw [hpk] at this
        exact this
      have HZK : Hid (∀ W, Below wr.heap.size wr W → Calls Tryz.prog 166 #[.slice az T.zones.length cz, .string m.origin, .string m.ps[k].code] W fun e w' => e = .returned (.int .i64 (zoneR T.zones m.origin m.ps[k].code)) ∧ Below W.heap.size W w') := fun W hW => HZN.out W _ (below_c HB.out HB.out.size hW)
      have hs3 := (Array.getElem?_eq_some_iff.1 hx3).1
      have hs2 := (Array.getElem?_eq_some_iff.1 hx2).1
      have hs1 := (Array.getElem?_eq_some_iff.1 hx1).1
      clear hst HPC HPR HZN HSV hB hB3 hx1 hx2 hx3 hO hpk
      generalize m.ps[k] = p at p0 p1 p2 p3 p4 HPK HZK
      generalize zoneR T.zones m.origin p.code = zz at HPK HZK
      generalize hpr : (pricedR T r m k).1 = pr at HPK
      have HPRK := Lib.hid hpr
      clear hpr
      obtain ⟨Wp, hWp⟩ : ∃ Wp, Wp = wr.alloc (.cells #[.int .i64 p.id, .int .i64 p.point, .string p.code, .int .i64 p.grams, .bool p.barred] 90) := ⟨_, rfl⟩
      have hBp : Below wr.heap.size wr Wp := by rw [hWp]; exact (Below.refl _ _).alloc (Nat.le_refl _) _
      have hpp : Wp.heap[wr.heap.size]? = some (.cells #[.int .i64 p.id, .int .i64 p.point, .string p.code, .int .i64 p.grams, .bool p.barred] 90 (0, 0)) := by rw [hWp]; exact alloc_new _ _
      have b1 := (hBp.block _ hs1).trans HX1.out
      have b2 := (hBp.block _ hs2).trans HX2.out
      have b3 := (hBp.block _ hs3).trans HX3.out
      have s0 := cells_inM (cell_of_row _ _ 0 _ _ _ b3)
      have s1 := cells_inM (cell_of_row _ _ 1 _ _ _ b3)
      have s2 := cells_inM (cell_of_row _ _ 2 _ _ _ b3)
      have s3 := cells_inM (cell_of_row _ _ 1 _ _ _ b1)
      have s4 := cells_inM (cell_of_row _ _ 2 _ _ _ b2)
      have s5 := cells_inM (cell_of_row _ _ 2 _ _ _ hpp)
      have s6 := cells_inM (cell_of_row _ _ 3 _ _ _ hpp)
      have HZ2 : Hid (∀ W, Below Wp.heap.size Wp W → Calls Tryz.prog 166 #[.slice az T.zones.length cz, .string m.origin, .string p.code] W fun e w' => e = .returned (.int .i64 zz) ∧ Below W.heap.size W w') := fun W hW => HZK.out W (below_c hBp hBp.size hW)
      have HP2 : Hid (∀ W, Below Wp.heap.size Wp W → Calls Tryz.prog 165 #[.agg #[.int .u8 r.cls, .slice sva r.steps.length svc, .int .i64 r.bar], .int .i64 zz, .int .i64 p.grams] W fun e w' => e = .returned (.tuple #[.int .i64 pr, .int .i64 0]) ∧ Below W.heap.size W w') := fun W hW => HPK.out W (below_c hBp hBp.size hW)
      have HBP := Lib.hid hBp
      clear hBp hpp b1 b2 b3 HZK HPK
      go_wp2_with fail
      rw [← hWp]
      clear hWp
      refine wp_region_quiet_below (by kernel_rfl) (by kernel_rfl) ?_
      repeat (go_big_quiet_step ((first | (with_reducible exact regrown_in HZ2.out _) | (with_reducible exact regrown_in HP2.out _))))
      refine wpQuiet_nil ?_
      intro _ hw'
      obtain ⟨pp, hw''⟩ := hw'
      subst hw''
      have hBq : Below wr.heap.size wr (grow (redrawn Wp pp.d) pp.os) := below_c HBP.out HBP.out.size (below_inM Wp pp)
      generalize grow (redrawn Wp pp.d) pp.os = Wq at hBq ⊢
      have hOq := HO.out.kept (grown_none hBq) (Classical.em _)
      have HBQ := Lib.hid hBq
      have hzq := hBq.size
      have hzw := HB.out.size
      clear hBq s0 s1 s2 s3 s4 s5 s6 HZ2 HP2 HBP
      go_wp2_with (at_builtin; refine wpList_append_fits _ rfl _ _ 30 rfl w.heap.size 3 i0 1 Tryz.underlying30 HI.out.1 HI.out.2.2.1 (w3.heap.size + 1) k m.ps.length _ rfl (hOq.alloc _) ⟨Wq.heap.size, 0, none⟩ 1 1 [.int .i64 pr] rfl rfl (cell_one_new _ _ _) (by simp [Value.oneCell']) (by omega) ?_; intro w6 hown6 hgrow6)
      have hB6 : Below wr.heap.size wr (Wq.alloc (.cells #[.int .i64 pr] 3)) := HBQ.out.alloc hzq _
      have hle : w3.heap.size + 1 < wr.heap.size := (HO.out.lt _ rfl).2
      have hw3 := HB4.out.size
      have hk6 : ∀ b, b < w3.heap.size + 1 → w6.heap[b]? = wr.heap[b]? := fun b hb => (hgrow6.block b (by simp; omega) (by intro e; have := Option.some.inj e; omega)).trans (hB6.block b (by omega))
      go_roundw
      case rel =>
        refine ⟨k + 1, by omega, by go_num, rfl, (below_c HB.out HB.out.size hB6).grown hgrow6 (by simp; omega) (fun r e => by rw [← Option.some.inj e]; omega), (below_c HB3.out HB3.out.size hB6).grown hgrow6 (by simp; have := HB3.out.size; omega) (fun r e => by rw [← Option.some.inj e]; omega), (hk6 _ (by omega)).trans HX1.out, (hk6 _ (by have := HW3.out; omega)).trans HX2.out, (hk6 _ (by omega)).trans HX3.out, ?_⟩
        rw [List.range_succ, List.map_append, List.map_singleton, HPRK.out]
        exact hown6
      case measure => simp [intOf]; omega
    · obtain rfl : k = m.ps.length := by omega
      go_wp2_with fail
      go_ret2
      exact ⟨_, rfl, HB.out, by have := HB4.out.size; omega, HO.out⟩
end Go.Proofs.YtojedplbhialpaaGreatDoor

/-! MI -/
namespace Go.Proofs.YtojedplbhialpaaGreatDoor
open Go.RowKit Go.Sort
set_option linter.unusedVariables false
set_option maxRecDepth 100000
theorem price_in {z : Nat} {r : Rat} (hr : RatOk z r) {zz g : Int} (hz : 1 ≤ zz ∧ zz ≤ z) (h : (priceR r zz g).2 = 0) : ∃ s ∈ r.steps, (priceR r zz g).1 ∈ s.cents := by
  unfold priceR at h ⊢
  split at h
  · cases h
  · rename_i hs
    rw [if_neg hs]
    rcases ixF_cases (fun s : Stp => decide (g ≤ s.grams)) r.steps with ⟨h1, _⟩ | ⟨q, hq, h1, _⟩
    · exact absurd h1 (fun e => hs (by unfold stepOf; omega))
    · have hst : stepOf r.steps g = q := h1
      rw [hst, Int.toNat_natCast, List.getD_eq_getElem?_getD, List.getElem?_eq_getElem hq]
      refine ⟨r.steps[q], List.getElem_mem hq, ?_⟩
      show centAt r.steps[q] zz ∈ r.steps[q].cents
      have hl := (hr.cents _ (List.getElem_mem hq)).1
      unfold centAt
      rw [List.getD_eq_getElem?_getD, List.getElem?_eq_getElem (by omega)]
      exact List.getElem_mem _
def centL (ls : List Lev) (n : Int) : Int := (ls.getD n.toNat ⟨⟨#[]⟩, 0, [], 0, 0⟩).cents
def brdAt (m : Mai) (i : Nat) : Bool := (m.ps.getD i ⟨0, 0, ⟨#[]⟩, 0, false⟩).barred
def postR (T : Tar) (r : Rat) (ls : List Lev) (m : Mai) (zs : List Int) (i : Nat) : Int := (pricedR T r m i).1 - (if brdAt m i then r.bar else 0) - centL ls (zs.getD i (-1))
theorem range_set {F : Nat → Value} {n k : Nat} (u : Value) (hk : k < n) : ((List.range n).map F).set k u = (List.range n).map (fun i => if i = k then u else F i) := by
  refine List.ext_getElem (by simp) (fun q h1 h2 => ?_)
  rw [List.getElem_set]
  simp only [List.getElem_map, List.getElem_range]
  by_cases e : k = q
  · rw [if_pos e, if_pos e.symm]
  · rw [if_neg e, if_neg (fun e' => e e'.symm)]
theorem range_at {F : Nat → Value} {n k : Nat} (hk : k < n) : ((List.range n).map F)[k]? = some (F k) := by
  rw [List.getElem?_map, List.getElem?_range hk]; rfl
set_option maxHeartbeats 32000000 in
theorem postage_ok {z : Nat} {T : Tar} (hT : TarOk z T) {lo hb hc : Int} {ls : List Lev} (hF : FitT lo hb hc T ls) {vr vz vp vl vn : Value} {m : Mai} {zs : List Int} (w : World) (h : RdTar w vr vz T) (hr : RdLevs w vl ls) (hf : ∀ l ∈ ls, LevFits l) (hri : rightB ls = true)
    (hrp : RdPces w vp m.ps) (hm : mailB m = true) (h8 : m.cls ≤ 255) (hcz : ∀ p ∈ m.ps, p.code.size ≤ maxLen) (hn : RdInts w vn zs) (hzl : zs.length = m.ps.length) (hzs : ∀ x ∈ zs, 0 ≤ x ∧ x < (ls.length : Int)) {q : Nat} (hq : q < T.rates.length) (hqc : T.rates[q].cls = m.cls)
    (hok : ∀ i, i < m.ps.length → (pricedR T T.rates[q] m i).2 = 0) :
    Calls Tryz.prog 95 #[.agg #[vr, vz], vl, maiV m vp, vn] w fun e w' => ∃ g, e = .returned (.tuple #[.slice (some ⟨g, 0, none⟩) m.ps.length m.ps.length, .int .i64 0]) ∧ Below w.heap.size w w' ∧ w.heap.size ≤ g ∧
      w'.ownsRow w.heap.size 3 1 (.slice (some ⟨g, 0, none⟩) m.ps.length m.ps.length) m.ps.length ((List.range m.ps.length).map (fun i => Value.int .i64 (postR T T.rates[q] ls m zs i))) := by
  obtain ⟨m1, m2, m3⟩ := mail_pts hm
  have hl6 := right_len hri
  have hos : m.origin.size ≤ maxLen := by have := codeB_size m2; unfold maxLen; omega
  have HFT := Lib.hid (fun W (hW : Below w.heap.size w W) => fits_yes hT hF W (h.below hW) (hr.below hW) hf hri)
  have HML := Lib.hid (fun W (hW : Below w.heap.size w W) => mailing_any m vp W (hrp.below hW) ⟨by omega, h8, by omega, by omega⟩ hos (by omega) hcz)
  have HBA := Lib.hid (fun W (hW : Below w.heap.size w W) => bases_ok hT W (h.below hW) (hrp.below hW) hm h8 hcz hq hqc hok)
  rw [hm] at HML
  have HRO := Lib.hid (fun W (hW : Below w.heap.size w W) => rateOf_yes m.cls W (h.below hW) hT.rates.2 hq hqc (fun i hi hlt e => by have := cls_first hT.apart hi hq (e.trans hqc.symm); omega))
  have hbar := (hT.rate _ (List.getElem_mem hq)).2.2.bar
  have HBI : Hid (∀ i, i < m.ps.length → 0 ≤ (pricedR T T.rates[q] m i).1 ∧ (pricedR T T.rates[q] m i).1 ≤ 1000000) := fun i hi => by
    obtain ⟨s, hs, hcx⟩ := price_in (hT.rate _ (List.getElem_mem hq)).2.2 (zone_in hT _ _) (hok i hi)
    exact ((hT.rate _ (List.getElem_mem hq)).2.2.cents s hs).2 _ hcx
  obtain ⟨lo0, lo1, hc0, hlo⟩ := hF.num
  have HFL := Lib.hid hF.lev
  have hcx : hc ≤ 1000000 := by
    have := hF.bar _ (List.getElem_mem hq)
    omega
  obtain ⟨a, ca, rfl, _⟩ := h.r
  obtain ⟨az, cz, rfl, _⟩ := h.z
  obtain ⟨ap, cp, rfl, hpc⟩ := hrp
  obtain ⟨al, cl, rfl, hlc⟩ := hr
  obtain ⟨an, cn, rfl, hnc⟩ := hn
  have HPC := Lib.hid hpc
  have HLC := Lib.hid hlc
  have HNC := Lib.hid hnc
  have HZS := Lib.hid hzs
  have HZS2 := Lib.hid hzs
  have HZL := Lib.hid hzl
  obtain ⟨R, hR⟩ : ∃ R : Nat → Int, R = postR T T.rates[q] ls m zs := ⟨_, rfl⟩
  obtain ⟨Bs, hBs⟩ : ∃ Bs : Nat → Int, Bs = fun i => (pricedR T T.rates[q] m i).1 := ⟨_, rfl⟩
  have HRE : Hid (∀ i, R i = Bs i - (if brdAt m i then T.rates[q].bar else 0) - centL ls (zs.getD i (-1))) := fun i => by rw [hR, hBs]; rfl
  have HBI2 : Hid (∀ i, i < m.ps.length → 0 ≤ Bs i ∧ Bs i ≤ 1000000) := fun i hi => by rw [hBs]; exact HBI.out i hi
  have HBA2 : Hid (∀ W, Below w.heap.size w W → Calls Tryz.prog 96 #[.agg #[.slice a T.rates.length ca, .slice az T.zones.length cz], maiV m (.slice ap m.ps.length cp)] W fun e w' => ∃ g, e = .returned (.tuple #[.slice (some ⟨g, 0, none⟩) m.ps.length m.ps.length, .int .i64 0]) ∧ Below W.heap.size W w' ∧ W.heap.size ≤ g ∧
      w'.ownsRow W.heap.size 3 1 (.slice (some ⟨g, 0, none⟩) m.ps.length m.ps.length) m.ps.length ((List.range m.ps.length).map (fun i => Value.int .i64 (Bs i)))) := fun W hW => by rw [hBs]; exact HBA.out W hW
  have hgoal : (fun i => Value.int .i64 (postR T T.rates[q] ls m zs i)) = fun i => Value.int .i64 (R i) := by rw [hR]
  rw [hgoal]
  clear hgoal hR hBs HBA HBI
  generalize T.rates[q] = r at HRO hbar HRE
  clear hpc hlc hnc hzs h hT hm hqc hok hcz m2 hos hq hF hf hri
  have hzl2 : ((zs.length : Int) != (m.ps.length : Int)) = false := by rw [hzl]; simp
  have hzl3 : zs.length ≤ 2000 := by omega
  clear hzl
  obtain ⟨t1, t2, t3, t4⟩ := two_new (w := w) (A := .cells #[.slice a T.rates.length ca, .slice az T.zones.length cz] 25) (B := .cells #[.int .u8 m.cls, .int .u8 m.ctr, .string m.origin, .slice ap m.ps.length cp] 29) rfl
  have HT4 := Lib.hid t4
  clear t1 t2 t3 t4
  unfold maiV at HML HBA2 ⊢
  unfold ratV at HRO
  go_enter Tryz.func95, Tryz.ntmps95
  go_wp2_with (first
    | (go_at_call 162; refine (HML.out _ k4).mono ?_; rintro e w2 ⟨rfl, hb2⟩; have j1 := (hb2.block _ (by omega)).trans k1; have j2 := (hb2.block _ (by omega)).trans k2; have j4 := below_c k4 k4.size hb2; have j3 := Nat.le_trans k3 hb2.size; clear hb2 k1 k2 k3 k4 x20 x21 x22; have x23 := cell_of_row _ _ 3 _ _ _ j2)
    | (go_at_call 161; refine (HFT.out _ HT4.out).mono ?_; rintro e w1 ⟨rfl, hb1⟩; obtain ⟨k1, k2, k3, k4⟩ := two_after hb1; clear hb1; have x20 := cell_of_row _ _ 0 _ _ _ k2; have x21 := cell_of_row _ _ 1 _ _ _ k2; have x22 := cell_of_row _ _ 2 _ _ _ k2; have x23 := cell_of_row _ _ 3 _ _ _ k2))
  have HJ1 := Lib.hid j1
  have HJ2 := Lib.hid j2
  have HJ3 := Lib.hid j3
  have HJ4 := Lib.hid j4
  clear j1 j2 j3 j4 x23 HFT HML HT4 hzl2
  go_loop [37] (fun i => ∃ k : Nat, k ≤ zs.length ∧ i = .int .i64 k) (fun i => zs.length - (intOf i).toNat)
  case atStart => exact ⟨0, Nat.zero_le _, rfl⟩
  case round =>
    obtain ⟨k, hk, rfl⟩ := hrel
    by_cases hlt : k < zs.length
    · obtain ⟨gz, oz, rfl, hgz, hcell⟩ := HNC.out (by omega)
      have c1 := (HJ4.out.cell (p := ⟨gz, oz + k, none⟩) hgz).trans (hcell k hlt)
      have hgr : gz < w2.heap.size := by have := HJ4.out.size; omega
      obtain ⟨s1, s2⟩ := HZS.out _ (List.getElem_mem hlt)
      clear hcell
      generalize zs[k] = y at c1 s1 s2
      have d1 : decide (y < 0) = false := decide_eq_false (by omega)
      have d2 : decide ((ls.length : Int) ≤ y) = false := decide_eq_false (by omega)
      have d4 : decide ((k : Int) < (zs.length : Int)) = true := decide_eq_true (by omega)
      go_wp2_with fail
      go_round
      case rel => exact ⟨k + 1, by omega, by go_num⟩
      case measure => simp [intOf]; omega
    · obtain rfl : k = zs.length := by omega
      have x20 := cell_of_row _ _ 0 _ _ _ HJ2.out
      have x21 := cell_of_row _ _ 1 _ _ _ HJ2.out
      have x22 := cell_of_row _ _ 2 _ _ _ HJ2.out
      have x23 := cell_of_row _ _ 3 _ _ _ HJ2.out
      have x10 := cell_of_row _ _ 0 _ _ _ HJ1.out
      have x11 := cell_of_row _ _ 1 _ _ _ HJ1.out
      go_wp2_with (first
        | (go_at_call 163; refine (HRO.out _ i4).mono ?_; rintro e w4 ⟨sv, rfl, hb4, hsv⟩; obtain ⟨sva, svc, rfl, _⟩ := id hsv; have n1 := (hb4.block _ (by omega)).trans i1; have n2 := (hb4.block _ (by omega)).trans i2; have n4 := below_c i4 i4.size hb4; have n3 := Nat.le_trans i3 hb4.size; have n5 := hown3.kept (grown_none hb4) (Classical.em _); clear hb4 i1 i2 i4 hown3 y20 y21 y22 y23 y10 y11; have z3 := cell_of_row _ _ 3 _ _ _ n2; have hlz : w.heap.size + 1 < w4.heap.size := by omega)
        | (go_at_call 96; refine (HBA2.out _ HJ4.out).mono ?_; rintro e w3 ⟨G, rfl, hb3, hG, hown3⟩; have i1 := (hb3.block _ (by have := HJ3.out; omega)).trans HJ1.out; have i2 := (hb3.block _ (by have := HJ3.out; omega)).trans HJ2.out; have i4 := below_c HJ4.out HJ4.out.size hb3; have i3 := Nat.le_trans HJ3.out hb3.size; have hG2 := (hown3.lt G rfl).2; clear hb3 x20 x21 x22 x23 x10 x11; have y20 := cell_of_row _ _ 0 _ _ _ i2; have y21 := cell_of_row _ _ 1 _ _ _ i2; have y22 := cell_of_row _ _ 2 _ _ _ i2; have y23 := cell_of_row _ _ 3 _ _ _ i2; have y10 := cell_of_row _ _ 0 _ _ _ i1; have y11 := cell_of_row _ _ 1 _ _ _ i1))
      have HG := Lib.hid hG
      have HN4 := Lib.hid n4
      have HOWN := Lib.hid n5
      have HB2 := Lib.hid HJ4.out.size
      have HG2 := Lib.hid (n5.lt G rfl).2
      clear n1 n2 n3 n4 n5 z3 hlz HJ1 HJ2 HJ3 HJ4 HRO HBA2 HZS hsv hG2 hG
      go_loopw [69] (fun i wr => ∃ (k : Nat) (F : Nat → Int), k ≤ m.ps.length ∧ i = .int .i64 k ∧ Below w.heap.size w wr ∧ wr.heap[w4.heap.size]? = some (.cells #[.int .u8 r.cls, .slice sva r.steps.length svc, .int .i64 r.bar] 98 (0, 0)) ∧ wr.ownsRow w2.heap.size 3 1 (.slice (some ⟨G, 0, none⟩) m.ps.length m.ps.length) m.ps.length ((List.range m.ps.length).map (fun i => Value.int .i64 (F i))) ∧ Hid (∀ i, i < k → F i = R i) ∧ Hid (∀ i, k ≤ i → F i = Bs i)) (fun i _ => m.ps.length - (intOf i).toNat)
      case atStart => exact ⟨0, Bs, Nat.zero_le _, rfl, HN4.out.alloc HN4.out.size _, alloc_new _ _, HOWN.out.alloc _, fun i hi => absurd hi (Nat.not_lt_zero _), fun _ _ => rfl⟩
      case round =>
        clear HN4 HOWN
        obtain ⟨k, F, hk, rfl, hB, hx3, hO, HF1, HF2⟩ := hrel
        have HB := Lib.hid hB
        have HX3 := Lib.hid hx3
        have HO := Lib.hid hO
        have hs3 := (Array.getElem?_eq_some_iff.1 hx3).1
        have hGr := (hO.lt G rfl).2
        by_cases hlt : k < m.ps.length
        · obtain ⟨g, off, rfl, hg, hst⟩ := HPC.out (by omega)
          obtain ⟨p0, p1, p2, p3, p4⟩ := (hst k hlt).below hB hg
          have hgr : g < wr.heap.size := by have := hB.size; omega
          have hkz : k < zs.length := by rw [HZL.out]; exact hlt
          obtain ⟨gz, oz, rfl, hgz, hzc⟩ := HNC.out (by omega)
          have z1 := (hB.cell (p := ⟨gz, oz + k, none⟩) hgz).trans (hzc k hkz)
          have hgzr : gz < wr.heap.size := by have := hB.size; omega
          obtain ⟨s1, s2⟩ := HZS2.out _ (List.getElem_mem hkz)
          obtain ⟨j, hj⟩ : ∃ j : Nat, zs[k] = j := ⟨zs[k].toNat, by omega⟩
          rw [hj] at z1 s2
          have hjl : j < ls.length := by omega
          obtain ⟨gl, ol, rfl, hgl, hlc⟩ := HLC.out (by omega)
          obtain ⟨lv, _, hlat⟩ := hlc j hjl
          have l4 := (hB.cell (p := ⟨gl, ol + j * 5 + 4, none⟩) hgl).trans hlat.2.2.2.2
          have hglr : gl < wr.heap.size := by have := hB.size; omega
          obtain ⟨q1, q2⟩ := HFL.out _ (List.getElem_mem hjl)
          have hFk := HF2.out k (Nat.le_refl _)
          obtain ⟨bb0, bb1⟩ := HBI2.out k hlt
          have o1 : wr.cell? ⟨G, k, none⟩ = some (.int .i64 (Bs k)) := by rw [hO.cellAt k (by omega), range_at hlt, hFk]
          have o2 : wr.frozen? ⟨G, k, none⟩ = false := hO.frozenAt k
          have y2 := cell_of_row _ _ 2 _ _ _ hx3
          have hRk := HRE.out k
          have hpk : brdAt m k = m.ps[k].barred := by unfold brdAt; rw [List.getD_eq_getElem?_getD, List.getElem?_eq_getElem hlt]; rfl
          have hck : centL ls (zs.getD k (-1)) = ls[j].cents := by
            unfold centL
            rw [List.getD_eq_getElem?_getD, List.getD_eq_getElem?_getD, List.getElem?_eq_getElem hkz, Option.getD_some, hj, Int.toNat_natCast, List.getElem?_eq_getElem hjl]; rfl
          rw [hpk, hck] at hRk
          have HRK := Lib.hid hRk
          have d4 : decide ((k : Int) < (m.ps.length : Int)) = true := decide_eq_true (by omega)
          clear hst hzc hlc hlat hj hRk hpk hck hB hx3 hO hFk HPC HNC HLC HZS2 HFL HRE HBI2 s1
          generalize ls[j] = l at l4 q1 q2 HRK
          generalize m.ps[k] = p at p0 p1 p2 p3 p4 HRK
          generalize Bs k = bk at bb0 bb1 o1 HRK
          have hw1 : IntKind.i64.wrap (bk - l.cents) = bk - l.cents := IntWalk.i64_in _ (by omega)
          cases hbar2 : p.barred
          · rw [hbar2] at p4 HRK
            go_wp2_with fail
            go_region
            have hnew := own_set HO.out (j := k) (by rw [List.length_map, List.length_range]; exact hlt) (.int .i64 (bk - l.cents))
            rw [range_set _ hlt] at hnew
            have HNW := Lib.hid hnew
            clear hnew
            go_wp2_with fail
            go_roundw
            case rel =>
              refine ⟨k + 1, fun i => if i = k then bk - l.cents else F i, by omega, by go_num, ((HB.out.setCell (p := ⟨G, k, none⟩) (by have := HG.out; have := HB2.out; show w.heap.size ≤ G; omega) _).alloc (by simp [World.setCell]; exact HB.out.size) _).drew, ?_, ?_, ?_, ?_⟩
              · exact (Below.heap_alloc _ _ _ (by simp [World.setCell]; exact hs3)).trans ((Below.heap_setCell _ _ _ _ (by have := HG2.out; show w4.heap.size ≠ G; omega)).trans HX3.out)
              · have hfe : (fun i => Value.int .i64 (if i = k then bk - l.cents else F i)) = fun i => if i = k then Value.int .i64 (bk - l.cents) else Value.int .i64 (F i) := by funext i; split <;> rfl
                rw [hfe]
                exact (HNW.out.alloc _).drew
              · intro i hi
                dsimp only
                by_cases e : i = k
                · subst e; rw [if_pos rfl, HRK.out]; simp
                · rw [if_neg e]; exact HF1.out i (by omega)
              · intro i hi
                dsimp only
                rw [if_neg (by omega)]
                exact HF2.out i (by omega)
            case measure => simp [intOf]; omega
          · rw [hbar2] at p4 HRK
            have hw2 : IntKind.i64.wrap (bk - r.bar) = bk - r.bar := IntWalk.i64_in _ (by omega)
            have hw3 : IntKind.i64.wrap (bk - r.bar - l.cents) = bk - r.bar - l.cents := IntWalk.i64_in _ (by omega)
            go_wp2_with fail
            go_region
            go_wp2_with fail
            have hGw : w.heap.size ≤ G := by have := HG.out; have := HB2.out; omega
            have hG4 : w4.heap.size ≠ G := by have := HG2.out; omega
            obtain ⟨W1, hW1⟩ : ∃ W1, W1 = ((wr.setCell ⟨G, k, none⟩ (.int .i64 (bk - r.bar))).alloc (.cells #[.int .i64 p.id, .int .i64 p.point, .string p.code, .int .i64 p.grams, .bool true] 90)).drew := ⟨_, rfl⟩
            have hB1 : Below w.heap.size w W1 := by rw [hW1]; exact ((HB.out.setCell (p := ⟨G, k, none⟩) hGw _).alloc (by simp [World.setCell]; exact HB.out.size) _).drew
            have hX1 : W1.heap[w4.heap.size]? = some (.cells #[.int .u8 r.cls, .slice sva r.steps.length svc, .int .i64 r.bar] 98 (0, 0)) := by
              rw [hW1]
              exact (Below.heap_alloc _ _ _ (by simp [World.setCell]; exact hs3)).trans ((Below.heap_setCell _ _ _ _ hG4).trans HX3.out)
            have hnew := own_set HO.out (j := k) (by rw [List.length_map, List.length_range]; exact hlt) (.int .i64 (bk - r.bar))
            rw [range_set _ hlt] at hnew
            have hO1 : W1.ownsRow w2.heap.size 3 1 (.slice (some ⟨G, 0, none⟩) m.ps.length m.ps.length) m.ps.length ((List.range m.ps.length).map (fun i => if i = k then Value.int .i64 (bk - r.bar) else Value.int .i64 (F i))) := by rw [hW1]; exact (hnew.alloc _).drew
            have o1' : W1.cell? ⟨G, k, none⟩ = some (.int .i64 (bk - r.bar)) := by rw [hO1.cellAt k (by omega), range_at hlt, if_pos rfl]
            have o2' : W1.frozen? ⟨G, k, none⟩ = false := hO1.frozenAt k
            have hGr' := (hO1.lt G rfl).2
            have e1 : ∀ g o, g < w.heap.size → W1.cell? ⟨g, o, none⟩ = wr.cell? ⟨g, o, none⟩ := fun g o hg => (hB1.cell (p := ⟨g, o, none⟩) hg).trans (HB.out.cell (p := ⟨g, o, none⟩) hg).symm
            have z1' := (e1 gz (oz + k) hgz).trans z1
            have l4' := (e1 gl (ol + j * 5 + 4) hgl).trans l4
            have hgz' : gz < W1.heap.size := by have := hB1.size; omega
            have hgl' : gl < W1.heap.size := by have := hB1.size; omega
            rw [← hW1]
            have HB1 := Lib.hid hB1
            have HX1 := Lib.hid hX1
            have HO1 := Lib.hid hO1
            clear hW1 hB1 hX1 hO1 hnew e1 o1 o2 z1 l4 y2 p0 p1 p2 p3 p4
            go_region
            have hnew := own_set HO1.out (j := k) (by rw [List.length_map, List.length_range]; exact hlt) (.int .i64 (bk - r.bar - l.cents))
            rw [range_set _ hlt] at hnew
            have HNW := Lib.hid hnew
            clear hnew
            go_wp2_with fail
            go_roundw
            case rel =>
              refine ⟨k + 1, fun i => if i = k then bk - r.bar - l.cents else F i, by omega, by go_num, (HB1.out.setCell (p := ⟨G, k, none⟩) hGw _).drew, ?_, ?_, ?_, ?_⟩
              · exact (Below.heap_setCell _ _ _ _ hG4).trans HX1.out
              · have hfe : (fun i => Value.int .i64 (if i = k then bk - r.bar - l.cents else F i)) = fun i => if i = k then Value.int .i64 (bk - r.bar - l.cents) else (if i = k then Value.int .i64 (bk - r.bar) else Value.int .i64 (F i)) := by
                  funext i
                  by_cases e : i = k
                  · rw [if_pos e, if_pos e]
                  · rw [if_neg e, if_neg e, if_neg e]
                rw [hfe]
                exact HNW.out.drew
              · intro i hi
                dsimp only
                by_cases e : i = k
                · subst e; rw [if_pos rfl, HRK.out]; simp
                · rw [if_neg e]; exact HF1.out i (by omega)
              · intro i hi
                dsimp only
                rw [if_neg (by omega)]
                exact HF2.out i (by omega)
            case measure => simp [intOf]; omega
        · obtain rfl : k = m.ps.length := by omega
          have hfin : (List.range m.ps.length).map (fun i => Value.int .i64 (F i)) = (List.range m.ps.length).map (fun i => Value.int .i64 (R i)) := List.map_congr_left (fun i hi => by rw [HF1.out i (List.mem_range.1 hi)])
          rw [hfin] at HO
          go_wp2_with fail
          go_ret2
          exact ⟨G, rfl, HB.out, Nat.le_trans HB2.out HG.out, own_less HO.out HB2.out⟩
end Go.Proofs.YtojedplbhialpaaGreatDoor

/-! MN -/
namespace Go.Proofs.YtojedplbhialpaaGreatDoor
open Go.RowKit Go.Sort
set_option linter.unusedVariables false
set_option maxRecDepth 100000
theorem LnIn.mono {m m' : Int} {x : Ln} (h : LnIn m x) (hm : m ≤ m') : LnIn m' x := by
  obtain ⟨a1, a2, a3, a4, a5, a6, a7⟩ := h
  exact ⟨by omega, by omega, by omega, by omega, by omega, by omega, by omega⟩
theorem sumLn_bound {m : Int} (lv : Int) {l : List Ln} (h : ∀ x ∈ l, LnIn m x) (hm : 0 ≤ m ∧ m ≤ 1000000000000) (hl : l.length ≤ 10000) : LnIn 10000000000000000 (sumLn lv l) := by
  refine (sumLn_in lv h).mono ?_
  have h1 : (l.length : Int) * m ≤ 10000 * m := Int.mul_le_mul_of_nonneg_right (by omega) hm.1
  omega
def lnO (x : Ln) : Obj := .cells #[.int .i64 x.level, .int .i64 x.pieces, .int .i64 x.barred, .int .i64 x.grams, .int .i64 x.base, .int .i64 x.bar, .int .i64 x.saved, .int .i64 x.cents] 42
theorem set7 {w : World} {g : Nat} {a b c d e f p q b' c' d' e' f' p' q' : Value} {t : TypeId} {fr : Nat × Nat} (h : w.heap[g]? = some (.cells #[a, b, c, d, e, f, p, q] t fr)) :
    (((((((w.setCell ⟨g, 1, none⟩ b').setCell ⟨g, 2, none⟩ c').setCell ⟨g, 3, none⟩ d').setCell ⟨g, 4, none⟩ e').setCell ⟨g, 5, none⟩ f').setCell ⟨g, 6, none⟩ p').setCell ⟨g, 7, none⟩ q').heap[g]? = some (.cells #[a, b', c', d', e', f', p', q'] t fr) := by
  simp [World.setCell, Array.getElem?_modify, h]
theorem set8 {w : World} {g : Nat} {a b c d e f p q a' b' c' d' e' f' p' q' : Value} {t : TypeId} {fr : Nat × Nat} (h : w.heap[g]? = some (.cells #[a, b, c, d, e, f, p, q] t fr)) :
    ((((((((w.setCell ⟨g, 0, none⟩ a').setCell ⟨g, 1, none⟩ b').setCell ⟨g, 2, none⟩ c').setCell ⟨g, 3, none⟩ d').setCell ⟨g, 4, none⟩ e').setCell ⟨g, 5, none⟩ f').setCell ⟨g, 6, none⟩ p').setCell ⟨g, 7, none⟩ q').heap[g]? = some (.cells #[a', b', c', d', e', f', p', q'] t fr) := by
  simp [World.setCell, Array.getElem?_modify, h]
theorem set7_below {B : Nat} {w w' : World} {g : Nat} {b c d e f p q : Value} (h : Below B w w') (hg : B ≤ g) : Below B w (((((((w'.setCell ⟨g, 1, none⟩ b).setCell ⟨g, 2, none⟩ c).setCell ⟨g, 3, none⟩ d).setCell ⟨g, 4, none⟩ e).setCell ⟨g, 5, none⟩ f).setCell ⟨g, 6, none⟩ p).setCell ⟨g, 7, none⟩ q) :=
  ((((((h.setCell (p := ⟨g, 1, none⟩) hg _).setCell (p := ⟨g, 2, none⟩) hg _).setCell (p := ⟨g, 3, none⟩) hg _).setCell (p := ⟨g, 4, none⟩) hg _).setCell (p := ⟨g, 5, none⟩) hg _).setCell (p := ⟨g, 6, none⟩) hg _).setCell (p := ⟨g, 7, none⟩) hg _
theorem set8_below {B : Nat} {w w' : World} {g : Nat} {a b c d e f p q : Value} (h : Below B w w') (hg : B ≤ g) : Below B w ((((((((w'.setCell ⟨g, 0, none⟩ a).setCell ⟨g, 1, none⟩ b).setCell ⟨g, 2, none⟩ c).setCell ⟨g, 3, none⟩ d).setCell ⟨g, 4, none⟩ e).setCell ⟨g, 5, none⟩ f).setCell ⟨g, 6, none⟩ p).setCell ⟨g, 7, none⟩ q) :=
  set7_below (h.setCell (p := ⟨g, 0, none⟩) hg _) hg
set_option maxHeartbeats 16000000 in
theorem add_any {m : Int} (lv : Int) (l : List Ln) (v : Value) (w : World) (hv : RdLns w v l) (hin : ∀ x ∈ l, LnIn m x) (hm : 0 ≤ m ∧ m ≤ 1000000000000) (hl : l.length ≤ 10000) :
    Calls Tryz.prog 98 #[.int .i64 lv, v] w fun e w' => e = .returned (lnA (sumLn lv l)) ∧ Below w.heap.size w w' := by
  obtain ⟨a, ca, rfl, hcc⟩ := hv
  have HC := Lib.hid hcc
  have HIN := Lib.hid hin
  have HSB : Hid (∀ k, LnIn 10000000000000000 (sumLn lv (l.take k))) := fun k => sumLn_bound lv (fun x hx => hin x (List.mem_of_mem_take hx)) hm (by rw [List.length_take]; omega)
  obtain ⟨t1, t2, t3, t4⟩ := two_new (w := w) (A := lnO (zeroLn 0)) (B := lnO (zeroLn lv)) rfl
  have HT1 := Lib.hid t1
  have HT2 := Lib.hid t2
  have HT4 := Lib.hid t4
  have hm1 := hm.2
  clear hcc hin t1 t2 t3 t4 hm
  unfold lnO zeroLn at HT1 HT2 HT4
  unfold lnA
  go_enter Tryz.func98, Tryz.ntmps98
  go_wp2_with fail
  go_loopw [12] (fun i wr => ∃ (k : Nat) (s : Ln), k ≤ l.length ∧ i = .int .i64 k ∧ Below w.heap.size w wr ∧ wr.heap[w.heap.size]? = some (lnO (zeroLn 0)) ∧ wr.heap[w.heap.size + 1]? = some (lnO s) ∧ Hid (s = sumLn lv (l.take k))) (fun i _ => l.length - (intOf i).toNat)
  case atStart => exact ⟨0, zeroLn lv, Nat.zero_le _, rfl, HT4.out, HT1.out, HT2.out, rfl⟩
  case round =>
    obtain ⟨k, s, hk, rfl, hb, h1, h2, HS⟩ := hrel
    have HB := Lib.hid hb
    have H1 := Lib.hid h1
    have H2 := Lib.hid h2
    have hs1 := (Array.getElem?_eq_some_iff.1 h1).1
    have hs2 := (Array.getElem?_eq_some_iff.1 h2).1
    unfold lnO at h1 h2
    by_cases hlt : k < l.length
    · obtain ⟨g, off, rfl, hg, hcell⟩ := HC.out (by omega)
      have hgr : g < wr.heap.size := by have := hb.size; omega
      have hx := HIN.out _ (List.getElem_mem hlt)
      have HSU : Hid (sumLn lv (l.take (k + 1)) = addLn s l[k]) := by
        show _ = _
        rw [List.take_succ_eq_append_getElem hlt, sumLn_snoc, ← HS.out]
      have hsb := HSB.out k
      rw [← HS.out] at hsb
      have hc := hcell k hlt
      generalize l[k] = x at hx HSU hc
      have c0 := (hb.cell (p := ⟨g, off + k * 8, none⟩) hg).trans (hc 0 _ rfl)
      have c1 := (hb.cell (p := ⟨g, off + k * 8 + 1, none⟩) hg).trans (hc 1 _ rfl)
      have c2 := (hb.cell (p := ⟨g, off + k * 8 + 2, none⟩) hg).trans (hc 2 _ rfl)
      have c3 := (hb.cell (p := ⟨g, off + k * 8 + 3, none⟩) hg).trans (hc 3 _ rfl)
      have c4 := (hb.cell (p := ⟨g, off + k * 8 + 4, none⟩) hg).trans (hc 4 _ rfl)
      have c5 := (hb.cell (p := ⟨g, off + k * 8 + 5, none⟩) hg).trans (hc 5 _ rfl)
      have c6 := (hb.cell (p := ⟨g, off + k * 8 + 6, none⟩) hg).trans (hc 6 _ rfl)
      have c7 := (hb.cell (p := ⟨g, off + k * 8 + 7, none⟩) hg).trans (hc 7 _ rfl)
      obtain ⟨⟨a10, a11⟩, ⟨a20, a21⟩, ⟨a30, a31⟩, ⟨a40, a41⟩, ⟨a50, a51⟩, ⟨a60, a61⟩, ⟨a70, a71⟩⟩ := hsb
      obtain ⟨⟨b10, b11⟩, ⟨b20, b21⟩, ⟨b30, b31⟩, ⟨b40, b41⟩, ⟨b50, b51⟩, ⟨b60, b61⟩, ⟨b70, b71⟩⟩ := hx
      have s1 := cell_of_row _ _ 1 _ _ _ h2
      have s2 := cell_of_row _ _ 2 _ _ _ h2
      have s3 := cell_of_row _ _ 3 _ _ _ h2
      have s4 := cell_of_row _ _ 4 _ _ _ h2
      have s5 := cell_of_row _ _ 5 _ _ _ h2
      have s6 := cell_of_row _ _ 6 _ _ _ h2
      have s7 := cell_of_row _ _ 7 _ _ _ h2
      have f1 := not_frozen (j := 1) h2
      have f2 := not_frozen (j := 2) h2
      have f3 := not_frozen (j := 3) h2
      have f4 := not_frozen (j := 4) h2
      have f5 := not_frozen (j := 5) h2
      have f6 := not_frozen (j := 6) h2
      have f7 := not_frozen (j := 7) h2
      have w1 : IntKind.i64.wrap (s.pieces + x.pieces) = s.pieces + x.pieces := IntWalk.i64_in _ (by omega)
      have w2 : IntKind.i64.wrap (s.barred + x.barred) = s.barred + x.barred := IntWalk.i64_in _ (by omega)
      have w3 : IntKind.i64.wrap (s.grams + x.grams) = s.grams + x.grams := IntWalk.i64_in _ (by omega)
      have w4 : IntKind.i64.wrap (s.base + x.base) = s.base + x.base := IntWalk.i64_in _ (by omega)
      have w5 : IntKind.i64.wrap (s.bar + x.bar) = s.bar + x.bar := IntWalk.i64_in _ (by omega)
      have w6 : IntKind.i64.wrap (s.saved + x.saved) = s.saved + x.saved := IntWalk.i64_in _ (by omega)
      have w7 : IntKind.i64.wrap (s.cents + x.cents) = s.cents + x.cents := IntWalk.i64_in _ (by omega)
      have d4 : decide ((k : Int) < (l.length : Int)) = true := decide_eq_true (by omega)
      have H2' := Lib.hid h2
      clear hc hcell HC HIN HSB hb h1 h2 a10 a11 a20 a21 a30 a31 a40 a41 a50 a51 a60 a61 a70 a71 b10 b11 b20 b21 b30 b31 b40 b41 b50 b51 b60 b61 b70 b71 hm1
      go_wp2_with fail
      go_roundw
      case rel => exact ⟨k + 1, addLn s x, by omega, by go_num, (set7_below HB.out (Nat.le_succ w.heap.size)).alloc (by simp [World.setCell]; exact HB.out.size) _, (Below.heap_alloc _ _ _ (by simp [World.setCell]; exact hs1)).trans ((set7_below (g := w.heap.size + 1) (Below.refl (w.heap.size + 1) wr) (Nat.le_refl _)).block _ (Nat.lt_succ_self _) |>.trans H1.out), (Below.heap_alloc _ _ _ (by simp [World.setCell]; exact hs2)).trans (set7 H2'.out), HSU.out.symm⟩
      case measure => simp [intOf]; omega
    · obtain rfl : k = l.length := by omega
      rw [List.take_length] at HS
      have s0 := cell_of_row _ _ 0 _ _ _ h2
      have s1 := cell_of_row _ _ 1 _ _ _ h2
      have s2 := cell_of_row _ _ 2 _ _ _ h2
      have s3 := cell_of_row _ _ 3 _ _ _ h2
      have s4 := cell_of_row _ _ 4 _ _ _ h2
      have s5 := cell_of_row _ _ 5 _ _ _ h2
      have s6 := cell_of_row _ _ 6 _ _ _ h2
      have s7 := cell_of_row _ _ 7 _ _ _ h2
      have r0 := cell_of_row _ _ 0 _ _ _ h1
      have r1 := cell_of_row _ _ 1 _ _ _ h1
      have r2 := cell_of_row _ _ 2 _ _ _ h1
      have r3 := cell_of_row _ _ 3 _ _ _ h1
      have r4 := cell_of_row _ _ 4 _ _ _ h1
      have r5 := cell_of_row _ _ 5 _ _ _ h1
      have r6 := cell_of_row _ _ 6 _ _ _ h1
      have r7 := cell_of_row _ _ 7 _ _ _ h1
      have f0 := not_frozen (j := 0) h1
      have f1 := not_frozen (j := 1) h1
      have f2 := not_frozen (j := 2) h1
      have f3 := not_frozen (j := 3) h1
      have f4 := not_frozen (j := 4) h1
      have f5 := not_frozen (j := 5) h1
      have f6 := not_frozen (j := 6) h1
      have f7 := not_frozen (j := 7) h1
      have H1' := Lib.hid h1
      have HSO := Lib.hid HS.out
      clear HC HIN HSB hb h1 h2 HS hlt
      go_wp2_with fail
      refine bodyPost_ret (results_cell_row rfl _ _ w.heap.size 42 _ (0, 0) _ rfl (set8 H1'.out) Tryz.underlying42 rfl (by kernel_rfl)) rfl ?_
      rw [← HSO.out]
      exact ⟨rfl, set8_below HB.out (Nat.le_refl _)⟩
end Go.Proofs.YtojedplbhialpaaGreatDoor
