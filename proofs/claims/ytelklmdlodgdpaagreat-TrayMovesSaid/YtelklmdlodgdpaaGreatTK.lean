/-
  tray.Pack at a valid plan.
-/
import Derived.Test.YtelklmdlodgdpaaGreatTJ
import Derived.BigQuiet
namespace Go.Proofs.YtelklmdlodgdpaaGreat
open Go.RowKit Go.Sort
set_option linter.unusedVariables false
set_option maxRecDepth 100000
set_option maxHeartbeats 32000000 in
theorem pack_ok {ls : List Lev} {m : Mai} (h : HasPlan ls m) (v vp vz : Value) (zs : List Int) (k : Pck) (w : World) (hr : RdLevs w v ls) (hrp : RdPces w vp m.ps) (hz : RdInts w vz zs) (hzl : zs.length = m.ps.length) (hn : numsB ls.length zs = true) (hA : allR ls m zs k = 0)
    (hk : pckB k = true) (hkg : ∀ p ∈ m.ps, p.grams ≤ k.grams) :
    Calls Tryz.prog 11 #[v, maiV m vp, vz, pckV k] w fun e w' => ∃ vb vt vc, e = .returned (.tuple #[lodV vb vt vc, .int .i64 0]) ∧ Below w.heap.size w w' ∧
      OwnsX 47 4 bunCell (fun b => b.ids) w' w.heap.size vb (pkTo k m.ps zs (gAll ls (codesM m.ps) ls.length) (gAll ls (codesM m.ps) ls.length).length).buns ∧
      OwnsX 49 3 traCell (fun t => t.bs) w' w.heap.size vt (pkTo k m.ps zs (gAll ls (codesM m.ps) ls.length) (gAll ls (codesM m.ps) ls.length).length).tras ∧
      OwnsX 51 2 conCell (fun c => c.ts) w' w.heap.size vc (pkTo k m.ps zs (gAll ls (codesM m.ps) ls.length) (gAll ls (codesM m.ps) ls.length).length).cons := by
  obtain ⟨j0, hj⟩ := info_parts Tryz.infoB4
  have HJB := Lib.hid hj
  obtain ⟨j1, hj1⟩ := info_parts Tryz.infoTr
  have HJT := Lib.hid hj1
  obtain ⟨j2, hj2⟩ := info_parts Tryz.infoCo
  have HJC := Lib.hid hj2
  have hpl := h.few
  have hll := right_len h.right
  have hgf := h.groups_few
  obtain ⟨hidg, hup⟩ := mail_ids h.mail
  have hcl : (codesM m.ps).length = m.ps.length := codesM_len _
  have hG : GrpsIn m.ps (gAll ls (codesM m.ps) ls.length) := gAll_in hcl
  have hO : OwnIn m.ps zs (gAll ls (codesM m.ps) ls.length) := gAll_own hcl hzl hn
  have hkk : (1 ≤ k.pieces ∧ k.pieces ≤ 2000 ∧ 1 ≤ k.grams ∧ k.grams ≤ 1000000) ∧ (1 ≤ k.bundles ∧ k.bundles ≤ 200 ∧ 1 ≤ k.trays ∧ k.trays ≤ 200) := by
    unfold pckB at hk
    rw [Bool.and_eq_true, decide_eq_true_eq, decide_eq_true_eq] at hk
    exact hk
  have HAL := Lib.hid (fun W (hW : Below w.heap.size w W) => allowed_any ls v vp vz m zs k W (hr.below hW) (right_fits h.right) (by omega) (hrp.below hW) h.rng h.org (by omega) (fun p hp => by have := codeB_size ((mail_parts h.mail).2 p hp); unfold maxLen; omega) (hz.below hW) (by omega))
  rw [hA] at HAL
  have HGO := Lib.hid (fun W (hW : Below w.heap.size w W) => groupsOf_ok h (hr.below hW) (hrp.below hW))
  have hitl : ∀ x ∈ gAll ls (codesM m.ps) ls.length, x.items.length ≤ 2000 := fun x hx => by
    obtain ⟨mm, n, _, _, rfl⟩ := mem_gAll.1 hx
    have := itm_len ls (codesM m.ps) mm n
    show (itm ls (codesM m.ps) mm n).length ≤ 2000
    omega
  obtain ⟨Gs, hGs⟩ : ∃ Gs, Gs = gAll ls (codesM m.ps) ls.length := ⟨_, rfl⟩
  rw [← hGs] at hgf hG hO HGO hitl ⊢
  have HBO := Lib.hid (fun (x : Grp) (hx : x ∈ Gs) sv W (hW : Below w.heap.size w W) (hs : RdInts W sv x.items) => bundlesOf_any x sv vp vz m zs k W hs (hrp.below hW) (hz.below hW) hzl hpl (hitl x hx) (fun i hi => (hG.items x hx).2 i hi) ⟨hkk.1.1, hkk.1.2.1, by omega, hkk.1.2.2.2⟩ (fun p hp => ⟨by have := hidg p hp; omega, by have := hidg p hp; omega, hkg p hp⟩))
  have HSM := Lib.hid (fun n hn => pk_small (k := k) (ps := m.ps) (zs := zs) (Gs := Gs) hkk.1.1 (by omega) hkk.2.1 hkk.2.2.2.1 hkg hup hG hO n hn)
  have HRP := Lib.hid hrp
  have HKG := Lib.hid hkg
  have HYES := Lib.hid (fun j hj he st hst bs hbs ts hts => pkTo_yes (k := k) (ps := m.ps) (zs := zs) (Gs := Gs) (j := j) hj he (st := st) hst (bs := bs) hbs (ts := ts) hts)
  have HNOT := Lib.hid (fun j hj he st hst bs hbs ts hts => pkTo_not (k := k) (ps := m.ps) (zs := zs) (Gs := Gs) (j := j) hj he (st := st) hst (bs := bs) hbs (ts := ts) hts)
  obtain ⟨av, cv, rfl, hpc⟩ := hrp
  have HPC := Lib.hid hpc
  clear hj hj1 hj2 hidg hup hcl hG hO hk hitl hGs hr hz hn hA h hpc hkg
  obtain ⟨pkS, hpk⟩ : ∃ f : Nat → PkS, f = pkTo k m.ps zs Gs := ⟨_, rfl⟩
  have HP0 : Hid (pkS 0 = ⟨[], [], [], 0⟩) := by rw [hpk]; unfold pkTo; rfl
  rw [← hpk] at HSM HYES HNOT ⊢
  have HBN : Hid (∀ x, bunsOf k m.ps zs x = bunsOf k m.ps zs x) := fun _ => rfl
  obtain ⟨bOf, hbOf⟩ : ∃ f : Grp → List Bun, f = bunsOf k m.ps zs := ⟨_, rfl⟩
  rw [← hbOf] at HYES HNOT HBO
  unfold maiV pckV lodV at *
  obtain ⟨kp, kg, kb, kt⟩ := k
  obtain ⟨cls, ctr, org, ps⟩ := m
  dsimp only at *
  obtain ⟨hk1, hk2⟩ := hkk
  obtain ⟨kb, rfl⟩ : ∃ n : Nat, kb = (n : Int) := ⟨kb.toNat, by omega⟩
  obtain ⟨kt, rfl⟩ : ∃ n : Nat, kt = (n : Int) := ⟨kt.toNat, by omega⟩
  rw [Int.toNat_natCast, Int.toNat_natCast] at HYES
  rw [Int.toNat_natCast] at HNOT
  clear hpk hbOf HBN
  obtain ⟨w3, hw3⟩ : ∃ w3, w3 = ((w.alloc (.cells #[.int .u8 cls, .int .u8 ctr, .string org, .slice av ps.length cv] 29)).alloc (.cells #[.int .i64 kp, .int .i64 kg, .int .i64 kb, .int .i64 kt] 32)).alloc (.cells #[.slice none 0 0, .slice none 0 0, .slice none 0 0] 39) := ⟨_, rfl⟩
  obtain ⟨g1, g2, g3⟩ := boxes3 hw3
  have hz3 : w3.heap.size = w.heap.size + 1 + 1 + 1 := by rw [hw3, World.size_alloc, World.size_alloc, World.size_alloc]
  have hb3 : Below w.heap.size w w3 := by
    rw [hw3]
    exact (((Below.refl _ w).alloc (Nat.le_refl _) _).alloc (by simp) _).alloc (by simp; omega) _
  have HBX := Lib.hid (fun (W : World) (hB : Below w3.heap.size w3 W) => And.intro (cells4 ((hB.block _ (by omega)).trans g1)) (cells4 ((hB.block _ (by omega)).trans g2)))
  have HL8 := Lib.hid (fun (W : World) (hB : Below w3.heap.size w3 W) => (hB.block _ (by omega)).trans g3)
  have HFR := Lib.hid (fun (W : World) (hB : Below w3.heap.size w3 W) => (fun j => row_free (i := j) ((hB.block _ (by omega)).trans g3) : ∀ j, W.frozen? ⟨w.heap.size + 1 + 1, j, none⟩ = false))
  have HW3 := Lib.hid hw3
  have HB3 := Lib.hid hb3
  have HZ3 := Lib.hid hz3
  clear hw3 hb3 hz3 g1 g2 g3
  obtain ⟨⟨x0, x1, x2, x3⟩, y0, y1, y2, y3⟩ := HBX.out w3 (Below.refl _ _)
  go_enter Tryz.func11, Tryz.ntmps11
  go_upto_region 1 with fail
  rw [← HW3.out]
  go_wp2_with (go_at_call 22; refine (HAL.out _ HB3.out).mono ?_; rintro e w4 ⟨rfl, hb4⟩; obtain ⟨⟨f0, f1, f2, f3⟩, e0, e1, e2, e3⟩ := HBX.out w4 hb4)
  go_loopw [37] (fun i wx => ∃ j : Nat, j ≤ ps.length ∧ i = .int .i64 j ∧ Below w3.heap.size w3 wx) (fun i _ => ps.length - (intOf i).toNat)
  case atStart => exact ⟨0, Nat.zero_le _, rfl, hb4⟩
  case round =>
    clear f0 f1 f2 f3 e0 e1 e2 e3 hb4 x0 x1 x2 x3 y0 y1 y2 y3
    obtain ⟨j, hj, rfl, hB⟩ := hrel
    have HBB := Lib.hid hB
    by_cases hlt : j < ps.length
    · obtain ⟨g, off, rfl, hg, hat⟩ := HPC.out (by omega)
      have hp := ((hat j hlt).below HB3.out hg).below hB (Nat.lt_of_lt_of_le hg HB3.out.size)
      have hgt := HKG.out _ (List.getElem_mem hlt)
      obtain ⟨p, hpe⟩ : ∃ p, p = ps[j] := ⟨_, rfl⟩
      rw [← hpe] at hp hgt
      obtain ⟨id, pt, cd, gr, br⟩ := p
      obtain ⟨p0, p1, p2, p3, p4⟩ := hp
      dsimp only at p0 p1 p2 p3 p4 hgt
      obtain ⟨⟨f0, f1, f2, f3⟩, e0, e1, e2, e3⟩ := HBX.out (wr.alloc (.cells #[.int .i64 id, .int .i64 pt, .string cd, .int .i64 gr, .bool br] 45)) (hB.alloc hB.size _)
      have hle : ¬ gr > kg := by omega
      clear hpe hat hB hgt
      go_wp2_with fail
      go_roundw
      case rel => exact ⟨j + 1, by omega, by go_num, HBB.out.alloc HBB.out.size _⟩
      case measure => simp [intOf]; omega
    · obtain ⟨⟨f0, f1, f2, f3⟩, e0, e1, e2, e3⟩ := HBX.out wr hB
      have hbw : Below w.heap.size w wr := HB3.out.trans (hB.mono HB3.out.size)
      have HBW := Lib.hid hbw
      clear hB hbw
      go_wp2_with (go_at_call 23; refine (HGO.out _ HBW.out).mono ?_; rintro e wg ⟨ag, cg, rfl, hbg, hrg⟩; have HBG3 := Lib.hid (HBB.out.trans (hbg.mono HBB.out.size)); have HBGW := Lib.hid (HBW.out.trans (hbg.mono HBW.out.size)); have HRG := Lib.hid hrg; clear hbg hrg)
      have hj' : j = ps.length := by omega
      clear hlt hj' hj e0 e1 e2 e3 f0 f1 f2 f3
      have HT0 : Hid (LodW (wg.alloc (.cells #[.slice none 0 0, .slice none 0 0, .slice none 0 0] 39)) wg.heap.size wg.heap.size [] [] [] (.slice none 0 0) (.slice none 0 0) (.slice none 0 0)) := ⟨alloc_new wg _, OwnsX.nil _ _, OwnsX.nil _ _, OwnsX.nil _ _⟩
      go_loopw [16, 60] (fun bg i wx => ∃ (j : Nat) (vb vt vc : Value), j ≤ Gs.length ∧ i = .int .i64 j ∧ bg = .int .i64 ((pkS j).beg : Nat) ∧ Below wg.heap.size wg wx ∧ LodW wx wg.heap.size wg.heap.size (pkS j).buns (pkS j).tras (pkS j).cons vb vt vc) (fun _ i _ => Gs.length - (intOf i).toNat)
      case atStart => exact ⟨0, _, _, _, Nat.zero_le _, rfl, by rw [HP0.out]; rfl, (Below.refl _ _).alloc (Nat.le_refl _) _, by rw [HP0.out]; exact HT0.out⟩
      case round =>
        clear HT0
        obtain ⟨wo, hwo⟩ : ∃ x, x = wr := ⟨_, rfl⟩
        subst hwo
        obtain ⟨j, vb, vt, vc, hj, rfl, rfl, hB, hL⟩ := hrel
        have HB := Lib.hid hB
        by_cases hlt : j < Gs.length
        · have hsm := HSM.out j (by omega)
          have hsm1 := HSM.out (j + 1) hlt
          have hyes := HYES.out j hlt
          have hnot := HNOT.out j hlt
          have hbo := HBO.out Gs[j] (List.getElem_mem hlt)
          have hends := ends_iff (Gs := Gs) (j := j)
          obtain ⟨gg, og, rfl, hgg, hcg⟩ := RdGrps.lies HRG.out (by omega)
          obtain ⟨sv, hsv, hgat⟩ := hcg j hlt
          obtain ⟨x, hx⟩ : ∃ x, x = Gs[j] := ⟨_, rfl⟩
          rw [← hx] at hyes hnot hbo hsv hgat
          obtain ⟨asx, csx, hsf, _⟩ := id hsv
          subst hsf
          obtain ⟨st, hst⟩ : ∃ st, st = pkS j := ⟨_, rfl⟩
          have hyes := fun he bs hbs ts hts => hyes he st hst bs hbs ts hts
          have hnot := fun he bs hbs ts hts => hnot he st hst bs hbs ts hts
          rw [← hst] at hsm hL ⊢
          obtain ⟨bs, hbs⟩ : ∃ bs, bs = st.buns ++ bOf x := ⟨_, rfl⟩
          have hyes := fun he ts hts => hyes he bs hbs ts hts
          have hnot := fun he ts hts => hnot he bs hbs ts hts
          obtain ⟨ts, hts⟩ : ∃ ts, ts = st.tras ++ (shareR st.buns.length bs.length kb).map (traOf x) := ⟨_, rfl⟩
          have hyes := fun he => hyes he ts hts
          have hnot := fun he => hnot he ts hts
          have hsz : bs.length ≤ ps.length ∧ ts.length ≤ ps.length := by
            by_cases he : endsL Gs j
            · rw [hyes he] at hsm1; exact ⟨hsm1.1, hsm1.2.1⟩
            · rw [hnot he] at hsm1; exact ⟨hsm1.1, hsm1.2.1⟩
          have HSM1 := Lib.hid hsm1
          have HY := Lib.hid hyes
          have HN := Lib.hid hnot
          have HE := Lib.hid hends
          have HX := Lib.hid hx
          have HST := Lib.hid hst
          have HBS := Lib.hid hbs
          have HTS := Lib.hid hts
          have hbWw : Below w.heap.size w wo := HBGW.out.trans (hB.mono HBGW.out.size)
          obtain ⟨Wq, N, hWq, hN, b1, b2, hgat', c0, c1, c2, c3⟩ := box_facts wo wg w x (.slice asx x.items.length csx) (.slice asx x.items.length csx) gg (og + j * 4) hbWw hB hgg hgat 81
          have hbq : Below wo.heap.size wo Wq := by rw [← hWq]; exact (Below.refl _ _).alloc (Nat.le_refl _) _
          have hb3 : Below w3.heap.size w3 Wq := HBG3.out.trans (b2.mono HBG3.out.size)
          obtain ⟨g0, g1, g2, g3⟩ := hgat.below hB hgg
          have hNlt : N < Wq.heap.size := by rw [← hWq, ← hN, World.size_alloc]; omega
          have HWQ := Lib.hid hWq
          have HNN := Lib.hid hN
          have hLq := hL.below hbq
          have hNh : Wq.heap[N]? = some (.cells #[.int .i64 x.lvl, .string x.name, .int .i64 x.up, .slice asx x.items.length csx] 81 (0, 0)) := by rw [← hWq, ← hN]; exact alloc_new wo _
          have hPQ : PkW wg Wq N x (.slice asx x.items.length csx) st.buns st.tras st.cons vb vt vc := ⟨b2, hLq, hNh⟩
          have HPQ := Lib.hid hPQ
          have HBQ := Lib.hid hbq
          have HB2 := Lib.hid b2
          have HBO2 := Lib.hid (hbo _ Wq b1 (hsv.below b2))
          have HB1 := Lib.hid b1
          have HB3Q := Lib.hid hb3
          have HSV := Lib.hid hsv
          have HTL : Hid (wg.heap.size < Wq.heap.size) := hLq.lt
          obtain ⟨⟨f0, f1, f2, f3⟩, e0, e1, e2, e3⟩ := HBX.out Wq hb3
          clear hsm1 hyes hnot hends hst hbs hts hbWw hWq hN hb3 hgat' hgat hcg hL hLq hbq hbo hsv b1 b2 hx hNh hPQ
          go_upto_region 18 with fail
          rw [HWQ.out, HNN.out]
          obtain ⟨ab, cb, hvb⟩ := HPQ.out.l.b.form
          subst hvb
          obtain ⟨z0, z1, z2⟩ := cells3 HPQ.out.l.cell
          go_wp2_with (first
            | (go_at_call 24; refine HBO2.out.mono ?_; rintro e w7 ⟨v7, rfl, hb7, ho7⟩; obtain ⟨L7, hL7, hLr7, hLo7⟩ := ho7; have HP7 := Lib.hid (HPQ.out.below hb7); obtain ⟨z0, z1, z2⟩ := cells3 HP7.out.l.cell; obtain ⟨L, hL, hLr, hLo⟩ := HP7.out.l.b; obtain ⟨hlb, hl7⟩ := app_lens hL hL7 HBS.out)
            | (at_builtin; refine wpList_append_both _ rfl _ _ 35 rfl wg.heap.size 47 j0 (.agg #[.int .i64 0, .string ⟨#[]⟩, .slice none 0 0, .int .i64 0]) 4 56 Tryz.underlying35 HJB.out.1 HJB.out.2.1 HJB.out.2.2.1 HJB.out.2.2.2 rfl (by decide) _ L.length _ rfl hLo _ _ L7.length _ rfl hLo7 (bun_one hLr7) (by unfold maxLen; omega) (by omega) (Nat.le_of_lt HP7.out.l.lt) ?_; intro v8 w8 hown hgrow; have ho8 := OwnsX.app (ids := fun b : Bun => b.ids) (by decide) hLr (fun p hp => (hLr7 p hp).mono (Nat.le_of_lt HTL.out)) hLo hgrow hown; (rw [hL, hL7, ← HBS.out] at ho8); obtain ⟨a8, c8, hv8⟩ := ho8.form; subst hv8; obtain ⟨hp9, hfz8, hc8⟩ := HP7.out.addB hgrow ho8; have HP9 := Lib.hid hp9; obtain ⟨u0, u1, u2⟩ := cells3 hp9.l.cell; obtain ⟨_, t0, t1, t2, t3⟩ := HBX.out _ (HBG3.out.trans (hp9.b.mono HBG3.out.size)); clear z0 z1 z2 hLr hLr7 hLo7 hL hL7 hlb hl7 ho8 hp9 hown e0 e1 e2 e3)
            | (go_at_call 25; refine (shares_any st.buns.length bs.length kb _ (by omega) (by rw [HBS.out, List.length_append]; omega) (by omega) (by omega)).mono ?_; rintro e w10 ⟨v10, rfl, hb10, ho10⟩; obtain ⟨a10, c10, hv10, _⟩ := ho10.lies; subst hv10; have HP10 := Lib.hid (HP9.out.below hb10); have HL10 := Lib.hid (ho10.mono HP9.out.b.size); clear ho10 hb10))
          obtain ⟨R, hR⟩ : ∃ R, R = shareR st.buns.length bs.length kb := ⟨_, rfl⟩
          rw [← hR] at HTS HL10 ⊢
          have hts := HTS.out
          have htl : st.tras.length + R.length = ts.length := by rw [hts, List.length_append, List.length_map]
          clear hR hts u0 u1 u2 t0 t1 t2 t3 hfz8 hc8 hgrow f0 f1 f2 f3 c0 c1 c2 c3
          go_loopw [86] (fun i wx => ∃ (q : Nat) (vt' : Value), q ≤ R.length ∧ i = .int .i64 q ∧ PkW wg wx N x (.slice asx x.items.length csx) bs (st.tras ++ (R.take q).map (traOf x)) st.cons (.slice a8 bs.length c8) vt' vc ∧ OwnsLL wx wg.heap.size (.slice a10 R.length c10) R) (fun i _ => R.length - (intOf i).toNat)
          case atStart => exact ⟨0, vt, Nat.zero_le _, rfl, by rw [List.take_zero, List.map_nil, List.append_nil]; exact HP10.out, HL10.out⟩
          case round =>
            obtain ⟨wi, hwi⟩ : ∃ x, x = wr := ⟨_, rfl⟩
            subst hwi
            obtain ⟨q, vt', hq, rfl, hP, hLL⟩ := hrel
            have HP := Lib.hid hP
            have HLL := Lib.hid hLL
            by_cases hqn : q < R.length
            · obtain ⟨g10, rfl, hg10, hat⟩ := hLL.at (by omega)
              obtain ⟨sl, hs, hrow⟩ := hat q hqn
              have htk : R.take (q + 1) = R.take q ++ [R[q]] := List.take_succ_eq_append_getElem hqn
              obtain ⟨l, hl⟩ : ∃ l, l = R[q] := ⟨_, rfl⟩
              rw [← hl] at hrow htk
              obtain ⟨al, cl, hsl, _⟩ := id hrow
              subst hsl
              have HTK := Lib.hid htk
              have HROW := Lib.hid hrow
              have htq : st.tras ++ (R.take (q + 1)).map (traOf x) = (st.tras ++ (R.take q).map (traOf x)) ++ [traOf x l] := by rw [htk, List.map_append, List.append_assoc]; rfl
              have hTql : (st.tras ++ (R.take q).map (traOf x)).length = st.tras.length + q := by rw [List.length_append, List.length_map, List.length_take]; omega
              obtain ⟨tq', htq'⟩ : ∃ l, l = st.tras ++ (R.take (q + 1)).map (traOf x) := ⟨_, rfl⟩
              obtain ⟨tq, htq0⟩ : ∃ l, l = st.tras ++ (R.take q).map (traOf x) := ⟨_, rfl⟩
              rw [← htq', ← htq0] at htq
              rw [← htq0] at hTql hP
              have HTQ := Lib.hid htq
              have HTQ' := Lib.hid htq'
              obtain ⟨at', ct', hvt⟩ := hP.l.t.form
              subst hvt
              obtain ⟨z0, z1, z2⟩ := cells3 hP.l.cell
              obtain ⟨c0, c1, c2, c3⟩ := cells4 hP.n
              have hPa := hP.below ((Below.refl wi.heap.size wi).alloc (Nat.le_refl _) (.cells #[.int .i64 x.lvl, .string x.name, .slice al l.length cl] 49))
              obtain ⟨L, hL, hLr, hLo⟩ := hPa.l.t
              have hLn : L.length = st.tras.length + q := by
                have := congrArg List.length hL
                rw [List.length_map] at this
                omega
              have hrow' := hrow.below ((Below.refl wi.heap.size wi).alloc (Nat.le_refl _) (.cells #[.int .i64 x.lvl, .string x.name, .slice al l.length cl] 49))
              have HROW' := Lib.hid hrow'
              have HPA := Lib.hid hPa
              have HLo := Lib.hid hLo
              have HLr := Lib.hid hLr
              have HL := Lib.hid hL
              have hzs := hPa.b.size
              have HZS := Lib.hid hzs
              have HLA : Hid (OwnsLL (wi.alloc (.cells #[.int .i64 x.lvl, .string x.name, .slice al l.length cl] 49)) wg.heap.size (.slice (some ⟨g10, 0, none⟩) R.length c10) R) := hLL.below ((Below.refl wi.heap.size wi).alloc (Nat.le_refl _) _)
              clear hl hat hP hLL hrow htk hPa hrow' hLo hLr hL hzs htq htq' htq0 hTql
              go_wp2_with (at_builtin; refine wpList_append_own _ rfl _ _ 36 rfl wg.heap.size 49 j1 (.agg #[.int .i64 0, .string ⟨#[]⟩, .slice none 0 0]) 3 48 Tryz.underlying36 HJT.out.1 HJT.out.2.1 HJT.out.2.2.1 HJT.out.2.2.2 rfl (by decide) _ L.length _ rfl HLo.out ⟨wi.heap.size, 0, none⟩ 1 1 [.int .i64 x.lvl, .string x.name, .slice al l.length cl] rfl rfl (cells_new _ _ _) (by simp [Value.oneCell']) (by unfold maxLen; omega) (by omega) HZS.out ?_; intro v8 w8 hown hgrow _; have ho8 := OwnsX.add (ids := fun t : Tra => t.bs) (x := traOf x l) HL.out (by decide) HLr.out HROW'.out HLo.out hgrow hown; (rw [← HTQ.out] at ho8); obtain ⟨a9, c9, hv8⟩ := ho8.form; subst hv8; obtain ⟨hp9, hfz8, hc8⟩ := HPA.out.addT hgrow ho8; have HP9 := Lib.hid hp9; have HL9 := Lib.hid (HPA.out.rowsT hgrow HLA.out (.slice a9 tq'.length c9)); clear ho8 hp9 hown)
              go_roundw
              case rel =>
                refine ⟨q + 1, .slice a9 tq'.length c9, by omega, by go_num, ?_, HL9.out⟩
                rw [← HTQ'.out]
                exact HP9.out
              case measure => simp [intOf]; omega
            · have hqe : q = R.length := by omega
              subst hqe
              rw [List.take_length, ← HTS.out] at hP HP
              obtain ⟨c0, c1, c2, c3⟩ := cells4 hP.n
              have hbg : Below wg.heap.size wg wi := hP.b
              clear hLL HLL hP hqn hq htl
              obtain ⟨av1, cv1, hvt⟩ := HP.out.l.t.form
              subst hvt
              go_upto_region 26 with fail
              go_cut [117] from 102 to 117 (fun b wx => ∃ c : Bool, b = .bool c ∧ (c = true ↔ ¬ endsL Gs j) ∧ Below wi.heap.size wi wx)
              case first =>
                by_cases h1 : j + 1 < Gs.length
                · obtain ⟨gg2, og2, hga, hgg2, hcg⟩ := RdGrps.lies HRG.out (by omega)
                  injection hga with hga
                  injection hga with hga1 hga2 _
                  subst hga1 hga2
                  obtain ⟨sv2, _, i0, _, _, _⟩ := hcg (j + 1) h1
                  replace i0 := (hbg.cell (p := ⟨gg, og + (j + 1) * 4, none⟩) hgg2).trans i0
                  have hend : endsL Gs j ↔ ¬ (Gs[j + 1].lvl = x.lvl) := by
                    rw [HE.out]
                    constructor
                    · intro h e; exact h ⟨h1, by rw [e, HX.out]⟩
                    · rintro h ⟨h2, h3⟩; exact h (by rw [h3, HX.out])
                  obtain ⟨lv2, hlv2⟩ : ∃ z, z = Gs[j + 1].lvl := ⟨_, rfl⟩
                  rw [← hlv2] at i0 hend
                  have HEND := Lib.hid hend
                  have hd1 : decide ((j : Int) + 1 < (Gs.length : Int)) = true := decide_eq_true (by omega)
                  have hd2 : decide (j + 1 < Gs.length) = true := decide_eq_true h1
                  clear hcg hlv2 hend
                  by_cases h2 : lv2 = x.lvl
                  · have hbq : (lv2 == x.lvl) = true := by simp [h2]
                    have h3 : ¬ endsL Gs j := fun h => HEND.out.1 h h2
                    have H3 := Lib.hid h3
                    clear h2 h3
                    go_wp2_with fail
                    go_quiet (fail)
                    go_wp2_with fail
                    go_meet
                    exact ⟨true, rfl, by simp [H3.out], (by first | exact below_drewN (Below.refl _ _) _ | exact (Below.refl _ _).drew)⟩
                  · have hbq : (lv2 == x.lvl) = false := by simp [h2]
                    have h3 : endsL Gs j := HEND.out.2 h2
                    have H3 := Lib.hid h3
                    clear h2 h3
                    go_wp2_with fail
                    go_quiet (fail)
                    go_wp2_with fail
                    go_meet
                    exact ⟨false, rfl, by simp [H3.out], (by first | exact below_drewN (Below.refl _ _) _ | exact (Below.refl _ _).drew)⟩
                · have h3 : endsL Gs j := HE.out.2 (fun ⟨h2, _⟩ => h1 h2)
                  have H3 := Lib.hid h3
                  have hd1 : decide ((j : Int) + 1 < (Gs.length : Int)) = false := decide_eq_false (by omega)
                  have hd2 : decide (j + 1 < Gs.length) = false := decide_eq_false h1
                  clear h3 h1
                  go_wp2_with fail
                  go_quiet (fail)
                  go_wp2_with fail
                  go_meet
                  exact ⟨false, rfl, by simp [H3.out], (by first | exact below_drewN (Below.refl _ _) _ | exact (Below.refl _ _).drew)⟩
              case rest =>
                obtain ⟨wk, hwk⟩ : ∃ x, x = wc := ⟨_, rfl⟩
                subst hwk
                obtain ⟨c, rfl, hc, hb⟩ := hcut
                have HPK := Lib.hid (HP.out.below hb)
                clear c0 c1 c2 c3 hbg hb
                cases c
                · have he : endsL Gs j := Classical.byContradiction (fun h => Bool.noConfusion (hc.2 h))
                  have hy := HY.out he
                  have hbl : st.beg ≤ ts.length := by
                    have h1 := HTS.out
                    have h2 := congrArg List.length h1
                    rw [List.length_append] at h2
                    omega
                  have hcl : (st.cons ++ (shareR st.beg ts.length kt).map (conOf x)).length ≤ ps.length := by
                    have h1 := HSM1.out.2.2.1
                    rw [hy] at h1
                    exact h1
                  have HYY := Lib.hid hy
                  have hsz2 := hsz.2
                  obtain ⟨z0, z1, z2⟩ := cells3 HPK.out.l.cell
                  obtain ⟨_, t0, t1, t2, t3⟩ := HBX.out wk (HBG3.out.trans (HPK.out.b.mono HBG3.out.size))
                  clear hy hc he
                  go_wp2_with (go_at_call 25; refine (shares_any st.beg ts.length kt _ (by omega) hbl (by omega) (by omega)).mono ?_; rintro e w11 ⟨v11, rfl, hb11, ho11⟩; obtain ⟨a11, c11, hv11, _⟩ := ho11.lies; subst hv11; have HP11 := Lib.hid (HPK.out.below hb11); have HL11 := Lib.hid (ho11.mono HPK.out.b.size); clear ho11 hb11)
                  obtain ⟨R2, hR2⟩ : ∃ R, R = shareR st.beg ts.length kt := ⟨_, rfl⟩
                  rw [← hR2] at HYY HL11 hcl ⊢
                  rw [List.length_append, List.length_map] at hcl
                  clear hR2 z0 z1 z2 t0 t1 t2 t3
                  go_loopw [126] (fun i wx => ∃ (q : Nat) (vc' : Value), q ≤ R2.length ∧ i = .int .i64 q ∧ PkW wg wx N x (.slice asx x.items.length csx) bs ts (st.cons ++ (R2.take q).map (conOf x)) (.slice a8 bs.length c8) (.slice av1 ts.length cv1) vc' ∧ OwnsLL wx wg.heap.size (.slice a11 R2.length c11) R2) (fun i _ => R2.length - (intOf i).toNat)
                  case atStart => exact ⟨0, vc, Nat.zero_le _, rfl, by rw [List.take_zero, List.map_nil, List.append_nil]; exact HP11.out, HL11.out⟩
                  case round =>
                    obtain ⟨wi2, hwi2⟩ : ∃ x, x = wr := ⟨_, rfl⟩
                    subst hwi2
                    obtain ⟨q, vc', hq, rfl, hP, hLL⟩ := hrel
                    have HP2 := Lib.hid hP
                    have HLL := Lib.hid hLL
                    by_cases hqn : q < R2.length
                    · obtain ⟨g11, rfl, hg11, hat⟩ := hLL.at (by omega)
                      obtain ⟨sl, hs, hrow⟩ := hat q hqn
                      have htk : R2.take (q + 1) = R2.take q ++ [R2[q]] := List.take_succ_eq_append_getElem hqn
                      obtain ⟨l, hl⟩ : ∃ l, l = R2[q] := ⟨_, rfl⟩
                      rw [← hl] at hrow htk
                      obtain ⟨al, cl, hsl, _⟩ := id hrow
                      subst hsl
                      have htq : st.cons ++ (R2.take (q + 1)).map (conOf x) = (st.cons ++ (R2.take q).map (conOf x)) ++ [conOf x l] := by rw [htk, List.map_append, List.append_assoc]; rfl
                      have hTql : (st.cons ++ (R2.take q).map (conOf x)).length = st.cons.length + q := by rw [List.length_append, List.length_map, List.length_take]; omega
                      obtain ⟨tq', htq'⟩ : ∃ l, l = st.cons ++ (R2.take (q + 1)).map (conOf x) := ⟨_, rfl⟩
                      obtain ⟨tq, htq0⟩ : ∃ l, l = st.cons ++ (R2.take q).map (conOf x) := ⟨_, rfl⟩
                      rw [← htq', ← htq0] at htq
                      rw [← htq0] at hTql hP
                      have HTQ := Lib.hid htq
                      have HTQ' := Lib.hid htq'
                      obtain ⟨at', ct', hvt⟩ := hP.l.c.form
                      subst hvt
                      obtain ⟨z0, z1, z2⟩ := cells3 hP.l.cell
                      obtain ⟨c0, c1, c2, c3⟩ := cells4 hP.n
                      have hPa := hP.below ((Below.refl wi2.heap.size wi2).alloc (Nat.le_refl _) (.cells #[.int .i64 x.lvl, .slice al l.length cl] 51))
                      obtain ⟨L, hL, hLr, hLo⟩ := hPa.l.c
                      have hLn : L.length = st.cons.length + q := by
                        have := congrArg List.length hL
                        rw [List.length_map] at this
                        omega
                      have hrow' := hrow.below ((Below.refl wi2.heap.size wi2).alloc (Nat.le_refl _) (.cells #[.int .i64 x.lvl, .slice al l.length cl] 51))
                      have HROW' := Lib.hid hrow'
                      have HPA := Lib.hid hPa
                      have HLo := Lib.hid hLo
                      have HLr := Lib.hid hLr
                      have HL := Lib.hid hL
                      have hzs := hPa.b.size
                      have HZS := Lib.hid hzs
                      have HLA : Hid (OwnsLL (wi2.alloc (.cells #[.int .i64 x.lvl, .slice al l.length cl] 51)) wg.heap.size (.slice (some ⟨g11, 0, none⟩) R2.length c11) R2) := hLL.below ((Below.refl wi2.heap.size wi2).alloc (Nat.le_refl _) _)
                      clear hl hat hP hLL hrow htk hPa hrow' hLo hLr hL hzs htq htq' htq0 hTql
                      go_wp2_with (at_builtin; refine wpList_append_own _ rfl _ _ 37 rfl wg.heap.size 51 j2 (.agg #[.int .i64 0, .slice none 0 0]) 2 32 Tryz.underlying37 HJC.out.1 HJC.out.2.1 HJC.out.2.2.1 HJC.out.2.2.2 rfl (by decide) _ L.length _ rfl HLo.out ⟨wi2.heap.size, 0, none⟩ 1 1 [.int .i64 x.lvl, .slice al l.length cl] rfl rfl (cells_new _ _ _) (by simp [Value.oneCell']) (by unfold maxLen; omega) (by omega) HZS.out ?_; intro v8 w8 hown hgrow _; have ho8 := OwnsX.add (ids := fun t : Con => t.ts) (x := conOf x l) HL.out (by decide) HLr.out HROW'.out HLo.out hgrow hown; (rw [← HTQ.out] at ho8); obtain ⟨a9, c9, hv8⟩ := ho8.form; subst hv8; obtain ⟨hp9, hfz8, hc8⟩ := HPA.out.addC hgrow ho8; have HP9 := Lib.hid hp9; have HL9 := Lib.hid (HPA.out.rowsC hgrow HLA.out (.slice a9 tq'.length c9)); clear ho8 hp9 hown)
                      go_roundw
                      case rel =>
                        refine ⟨q + 1, .slice a9 tq'.length c9, by omega, by go_num, ?_, HL9.out⟩
                        rw [← HTQ'.out]
                        exact HP9.out
                      case measure => simp [intOf]; omega
                    · have hqe : q = R2.length := by omega
                      subst hqe
                      rw [List.take_length] at HP2
                      obtain ⟨z0, z1, z2⟩ := cells3 HP2.out.l.cell
                      clear hLL HLL hP hqn hq
                      go_wp2_with fail
                      go_roundw
                      case rel =>
                        refine ⟨j + 1, .slice a8 bs.length c8, .slice av1 ts.length cv1, vc', by omega, by go_num, by rw [HYY.out], HP2.out.b, ?_⟩
                        rw [HYY.out]
                        exact HP2.out.l
                      case measure => simp [intOf]; omega
                · have hn := HN.out (hc.1 rfl)
                  have HNO := Lib.hid hn
                  clear hc hn
                  go_wp2_with fail
                  go_roundw
                  case rel =>
                    refine ⟨j + 1, .slice a8 bs.length c8, .slice av1 ts.length cv1, vc, by omega, by go_num, by rw [HNO.out], HPK.out.b, ?_⟩
                    rw [HNO.out]
                    exact HPK.out.l
                  case measure => simp [intOf]; omega
        · obtain rfl : j = Gs.length := by omega
          obtain ⟨ab, cb, hvb⟩ := hL.b.form
          obtain ⟨at', ct, hvt⟩ := hL.t.form
          obtain ⟨ac, cc, hvc⟩ := hL.c.form
          have HL := Lib.hid hL
          have h3o : Below w3.heap.size w3 wo := HBG3.out.trans (hB.mono HBG3.out.size)
          have hwo : Below w.heap.size w wo := HB3.out.trans (h3o.mono HB3.out.size)
          subst hvb hvt hvc
          obtain ⟨z0, z1, z2⟩ := cells3 hL.cell
          have hres := HL8.out wo h3o
          obtain ⟨c0, c1, c2⟩ := cells3 hres
          have f0 := HFR.out wo h3o 0
          have f1 := HFR.out wo h3o 1
          have f2 := HFR.out wo h3o 2
          have HRES := Lib.hid hres
          have HWO := Lib.hid hwo
          have HWG := HBGW.out.size
          clear hL hres h3o hwo
          go_wp2_with fail
          refine bodyPost_ret (results_cell_two rfl _ _ (w.heap.size + 1 + 1) 39 _ (0, 0) _ (.int .i64 0) rfl rfl (set3all HRES.out) Tryz.underlying39 rfl (by kernel_rfl)) rfl ?_
          exact ⟨_, _, _, rfl, ((HWO.out.setCell (p := ⟨w.heap.size + 1 + 1, 0, none⟩) (Nat.le_add_right _ 2) _).setCell (p := ⟨w.heap.size + 1 + 1, 1, none⟩) (Nat.le_add_right _ 2) _).setCell (p := ⟨w.heap.size + 1 + 1, 2, none⟩) (Nat.le_add_right _ 2) _,
            (own_lod3 HL.out.b (by decide) HRES.out).mono HWG, (own_lod3 HL.out.t (by decide) HRES.out).mono HWG, (own_lod3 HL.out.c (by decide) HRES.out).mono HWG⟩
end Go.Proofs.YtelklmdlodgdpaaGreat
