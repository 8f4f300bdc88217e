/-
  PresortBeats: the walk.
-/
import Derived.Test.YtpieagaggjngjaaGI
import Derived.Test.YtpieagaggjngjaaGL
import Derived.Test.YtpieagaggjngjaaGJ
import Derived.BigQuiet
import Derived.Deep.DeepCutAuto
namespace Go.Proofs.Ytpieagaggjngjaa
open Go.RowKit Go.Sort
set_option linter.unusedVariables false
set_option maxRecDepth 100000
theorem rd_row5 {w : World} {base : Nat} {v : Value} {zs : List Int} {n : Nat} (h : w.ownsRow base 3 1 v n (zs.map (Value.int .i64))) (hn : zs.length = n) : RdInts w v zs := by
  subst hn
  exact (RowJ.of_rowI h).rd
theorem row_drewN {w : World} {base : Nat} {e : TypeId} {k n : Nat} {v : Value} {xs : List Value} (h : w.ownsRow base e k v n xs) (m : Nat) : (w.drewN m).ownsRow base e k v n xs := h.kept (row := none) ⟨rfl, rfl, rfl, Nat.le_refl _, fun _ _ _ => rfl⟩ (by
  cases v.ownBlock with
  | none => exact .inl rfl
  | some g => exact .inr (by simp))
theorem come_rel {W1 w6 : World} {N B0 m k n : Nat} {e : TypeId} {v : Value} {xs : List Value} {o : Obj} {w5 : World} (hg : ((W1.drewN m).alloc o).grownBy w6 v.ownBlock) (hO : W1.ownsRow (N + 1) e k v n xs) (hQ : Below B0 w5 W1) (hz : N + 1 ≤ W1.heap.size) (hB0 : B0 ≤ N) :
    Below B0 w5 w6 ∧ N + 1 ≤ w6.heap.size ∧ ∀ b, b ≤ N → w6.heap[b]? = W1.heap[b]? := by
  have hsz : ((W1.drewN m).alloc o).heap.size = W1.heap.size + 1 := World.size_alloc _ _
  have hb : ∀ b, b ≤ N → w6.heap[b]? = W1.heap[b]? := fun b hbN => by
    rw [hg.block b (by rw [hsz]; omega) (fun e => by have := (hO.lt b e.symm).1; omega)]
    exact Below.heap_alloc _ _ _ (by show b < W1.heap.size; omega)
  refine ⟨?_, ?_, hb⟩
  · exact ((below_drewN hQ m).alloc (by show B0 ≤ W1.heap.size; omega) _).grown hg (by rw [hsz]; omega) (fun r e => by have := (hO.lt r e).1; omega)
  · have := hg.size
    rw [hsz] at this
    omega
theorem set_keeps {zs : List Int} {q i : Nat} {u : Int} (d : Int) (h : zs.getD i d = u) : (zs.set q u).getD i d = u := by
  rw [List.getD_eq_getElem?_getD] at h ⊢
  by_cases e : q = i
  · subst e
    by_cases hl : q < zs.length
    · rw [List.getElem?_set_self hl]; rfl
    · rw [List.set_eq_of_length_le (by omega)]; exact h
  · rw [List.getElem?_set_ne e]; exact h
theorem two_made (w : World) (n : Nat) : IntsAt ((w.alloc (.cells (madeCells #[.int .i64 0] n) 3)).alloc (.cells (madeCells #[.int .i64 0] n) 3)).drew w.heap.size (List.replicate n 0) ∧
    IntsAt ((w.alloc (.cells (madeCells #[.int .i64 0] n) 3)).alloc (.cells (madeCells #[.int .i64 0] n) 3)).drew (w.heap.size + 1) (List.replicate n 0) ∧
    Below w.heap.size w ((w.alloc (.cells (madeCells #[.int .i64 0] n) 3)).alloc (.cells (madeCells #[.int .i64 0] n) 3)).drew := by
  have h1 := made_ints w n
  have h2 := made_ints (w.alloc (.cells (madeCells #[.int .i64 0] n) 3)) n
  rw [World.size_alloc] at h2
  refine ⟨?_, h2, (((Below.refl _ w).alloc (Nat.le_refl _) _).alloc (by simp) _).drew⟩
  exact (Below.heap_alloc _ _ _ (by simp)).trans h1
set_option maxHeartbeats 32000000 in
theorem beats_walk (n : Int) (vl vc vs : Value) (ls : List Lev) (cs : List ByteArray) (w : World) (h : HasPlan ls (mail25 cs)) (hM : MadeC #[.int .u32 n, vl, vc, vs, .int .i64 300] ls cs w) :
    Calls Try.prog 5 #[.int .u32 n, vl, vc, vs] w fun e w' => e = .returned (.bool true) ∧ Below w.heap.size w w' := by
  have HAW := Lib.hid (fun W => awake_any W)
  have HMD : Hid (MadeC #[.int .u32 n, vl, vc, vs, .int .i64 300] ls cs w) := hM
  have hlm : (mail25 cs).ps.length = cs.length := mailTo_len _ _
  have hcm : codesM (mail25 cs).ps = cs := mail_codesM cs
  have hpc : planM ls (mail25 cs) = planC ls cs := by unfold planM; rw [hcm]
  have hfew := h.few
  rw [hlm] at hfew
  have hcode := h.code
  have hpre := h.pre
  rw [hcm] at hcode hpre
  have hright := h.right
  have HCO := Lib.hid (fun W ap cp (hrp : RdPces W (.slice ap cs.length cp) (mail25 cs).ps) => codesL_any (mail25 cs) (.slice ap cs.length cp) W hrp (by have := h.few; omega))
  rw [hcm] at HCO
  have HGP := Lib.hid (fun W al cl vc (hr : RdLevs W (.slice al ls.length cl) ls) (hrc : ReadsT W vc (codesM (mail25 cs).ps)) => groups_of h hr hrc)
  rw [hcm] at HGP
  have HSV := Lib.hid (fun W al cl ap cp (hr : RdLevs W (.slice al ls.length cl) ls) (hrp : RdPces W (.slice ap cs.length cp) (mail25 cs).ps) => saves_any h hr hrp)
  have HSG := Lib.hid (fun (zs : List Int) (hz : zs.length = cs.length) (hzn : numsB ls.length zs = true) W al cl (hr : RdLevs W (.slice al ls.length cl) ls) vz (hrz : RdInts W vz zs) => (show Calls Try.prog 17 #[.slice al ls.length cl, vz] W fun e w' => e = .returned (.tuple #[.int .i64 (savesTo ls zs cs.length), .int .i64 0]) ∧ Below W.heap.size W w' by
    have := saving_of h.right hr hrz (by omega) hzn
    rwa [hz] at this))
  have hval : ∀ zs : List Int, zs.length = cs.length → numsB ls.length zs = true → ∀ W al cl ap cp vz, RdLevs W (.slice al ls.length cl) ls → RdPces W (.slice ap cs.length cp) (mail25 cs).ps → RdInts W vz zs → Calls Try.prog 15 #[.slice al ls.length cl, maiV (mail25 cs) (.slice ap cs.length cp), vz] W fun e w' => e = .returned (.tuple #[.bool (grpsOkB ls zs (gAll ls cs ls.length)), .int .i64 0]) ∧ Below W.heap.size W w' := fun zs hz hzn W al cl ap cp vz hr hrp hrz => by
    have := valid_of h hr hrp hrz (by rw [hlm]; exact hz) hzn
    rwa [hcm] at this
  have hbest : ∀ zs : List Int, zs.length = cs.length → numsB ls.length zs = true → grpsOkB ls zs (gAll ls cs ls.length) = true → savesTo ls zs cs.length ≤ savesM ls (mail25 cs) := fun zs hz hzn ho => by
    have := planC_best hright hcode hpre hz hzn ho
    unfold savesM
    rw [hlm, hpc]
    exact this
  have HVL := Lib.hid hval
  unfold maiV mail25 at HCO HSV HVL
  dsimp only at HCO HSV HVL
  have hgl := h.groups_few
  rw [hcm] at hgl
  have hitems := gAll_items (ls := ls) (cs := cs)
  have hl6 := (right_len h.right).2
  have hl1 := (right_len h.right).1
  have hsv0 : 0 ≤ savesM ls (mail25 cs) := by
    have h1 := saves_bound h.right h.nums (mail25 cs).ps.length (by rw [planM_len]; exact Nat.le_refl _)
    exact h1.1
  obtain ⟨sv, hsv⟩ : ∃ z, z = savesM ls (mail25 cs) := ⟨_, rfl⟩
  rw [← hsv] at hbest
  unfold mail25 at hsv
  rw [← hsv] at HSV
  have hsv0 : 0 ≤ sv := by rw [hsv]; exact hsv0
  have hsvn : ¬ sv < 0 := by omega
  have HBEST := Lib.hid hbest
  have HGI : Hid (GrOk ls cs (List.replicate cs.length 0) 0) := gr_init hright
  have HLV := Lib.hid (fun (zs : List Int) (hz : zs.length = cs.length) ha => last_valid (ls := ls) hright hcode hpre hz ha)
  have HGS := Lib.hid (fun (zs : List Int) k (hk : k < (gAll ls cs ls.length).length) (ho : GrOk ls cs zs k) => gr_step hright hcode hpre hk ho)
  have HGV := Lib.hid (fun (zs : List Int) (ho : GrOk ls cs zs (gAll ls cs ls.length).length) => gr_valid ho)
  have HBA := Lib.hid (fun (zs : List Int) (x : Grp) (hx : x ∈ gAll ls cs ls.length) (hz : zs.length = cs.length) p (hp : p < (comeG zs x x.items.length).length) => bump_at hx hz hp)
  clear hsv hpc hcm hlm hval hbest
  obtain ⟨Gs, hGs⟩ : ∃ z, z = gAll ls cs ls.length := ⟨_, rfl⟩
  rw [← hGs] at HGP hgl hitems HVL HBEST HLV HGV HBA HGS
  have HIT := Lib.hid hitems
  have hwl : IntKind.i64.wrap ((ls.length : Int) - 1) = (ls.length : Int) - 1 := IntWalk.i64_in _ (by omega)
  obtain ⟨j0, hj⟩ := info_parts Try.infoI
  have HJ := Lib.hid hj
  clear hitems hGs h hM hcode hpre hright hj
  go_enter Try.func5, Try.ntmps5
  go_wp2_with (first
    | (go_at_call 10; refine (HAW.out _).mono ?_; rintro e w1 ⟨rfl, hb1⟩)
    | (go_at_call 11; refine (HMD.out _ hb1).mono ?_; rintro e w2 ⟨al, cl, ap, cp, rfl, hb2, hr2, hp2⟩; have hB2 : Below w.heap.size w w2 := hb1.trans (hb2.mono hb1.size); (have hA2 : Below w2.heap.size w2 (w2.alloc (.cells #[.int .u8 1, .int .u8 1, .string ⟨#[49, 48, 48, 48, 48]⟩, .slice ap cs.length cp] 28)) := (Below.refl _ w2).alloc (Nat.le_refl _) _); (have hz2 : (w2.alloc (.cells #[.int .u8 1, .int .u8 1, .string ⟨#[49, 48, 48, 48, 48]⟩, .slice ap cs.length cp] 28)).heap.size = w2.heap.size + 1 := World.size_alloc _ _); (have hn2 := alloc_new w2 (.cells #[.int .u8 1, .int .u8 1, .string ⟨#[49, 48, 48, 48, 48]⟩, .slice ap cs.length cp] 28)))
    | (go_at_call 14; refine (HSV.out _ al cl ap cp (RdLevs.below hr2 hA2) (RdPces.below hp2 hA2)).mono ?_; rintro e w3 ⟨rfl, hb3⟩; (have hA3 : Below w2.heap.size w2 w3 := hA2.trans (hb3.mono hA2.size)); (have hs3 : w2.heap.size < w3.heap.size := by have := hb3.size; omega); (have hn3 := (hb3.block _ (by omega)).trans hn2); obtain ⟨m0, m1, m2, m3⟩ := cells4 hn3)
    | (go_at_call 13; refine (HCO.out _ ap cp (RdPces.below hp2 hA3)).mono ?_; rintro e w4 ⟨u, rfl, hb4, hrc4⟩; (have hA4 : Below w2.heap.size w2 w4 := hA3.trans (hb4.mono hA3.size)); (have hn4 := (hb4.block _ hs3).trans hn3))
    | (go_at_call 12; refine (HGP.out _ al cl _ (RdLevs.below hr2 hA4) hrc4).mono ?_; rintro e w5 ⟨ag, cg, rfl, hb5, hrg⟩; (have hA5 : Below w2.heap.size w2 w5 := hA4.trans (hb5.mono hA4.size)); (have hn5 := (hb5.block _ (Nat.lt_of_lt_of_le hs3 hb4.size)).trans hn4); clear m0 m1 m2 m3; obtain ⟨m0, m1, m2, m3⟩ := cells4 hn5))
  have HB5 : Hid (Below w.heap.size w w5) := hB2.trans (hA5.mono hB2.size)
  have HRG := Lib.hid hrg
  have HRL := Lib.hid (RdLevs.below hr2 hA5)
  have HRP := Lib.hid (RdPces.below hp2 hA5)
  have HN5 := Lib.hid hn5
  have hm5 : w2.heap.size < w5.heap.size := (Array.getElem?_eq_some_iff.1 hn5).1
  clear hb1 hB2 hb2 hb3 hb4 hb5 hrg hA2 hA3 hA4 hA5 hn2 hn3 hn4 hn5 m0 m1 m2 hr2 hp2 hrc4 hz2 hs3 HAW HMD HCO HGP HSV
  go_cut [14, 15] from 56 to 63 (fun a b wx => ∃ A B, a = .slice (some ⟨A, 0, none⟩) cs.length cs.length ∧ b = .slice (some ⟨B, 0, none⟩) cs.length cs.length ∧ A ≠ B ∧ w5.heap.size ≤ A ∧ w5.heap.size ≤ B ∧ IntsAt wx A (List.replicate cs.length 0) ∧ IntsAt wx B (List.replicate cs.length 0) ∧ Below w5.heap.size w5 wx)
  case first =>
    have hmk := fun W => run_make_row' (P := Try.prog) 38 3 (.int .i64 0) 8 Try.underlying38 Try.infoI rfl .i64 .i64 cs.length (by omega) (by omega) W
    have m3' : (w5.drew.alloc (.cells (madeCells #[Value.int .i64 0] cs.length) 3)).cell? ⟨w2.heap.size, 3, none⟩ = some (.slice ap cs.length cp) := (((Below.refl _ w5).drew.alloc (Nat.le_refl _) _).cell (p := ⟨w2.heap.size, 3, none⟩) hm5).trans m3
    go_region
    all_goals
      go_wp2_with fail
      go_meet
    · obtain ⟨t1, t2, t3⟩ := two_made w5 cs.length
      exact ⟨_, _, rfl, rfl, by omega, Nat.le_refl _, Nat.le_succ _, t1, t2, t3⟩
    · obtain ⟨t1, t2, t3⟩ := two_made w5 cs.length
      exact ⟨_, _, rfl, rfl, by omega, Nat.le_succ _, Nat.le_refl _, t2, t1, t3⟩
  case rest =>
    obtain ⟨wx, hwx⟩ : ∃ x, x = wc := ⟨_, rfl⟩
    subst hwx
    obtain ⟨A, B, rfl, rfl, hAB, hA, hBB, hiA, hiB, hBx⟩ := hcut
    have HGI' : Hid (GrOk ls cs (List.replicate cs.length 0) 0) := HGI
    clear m3
    go_wp2_with fail
    go_loopw [66] (fun i wr => ∃ (k : Nat) (gr la : List Int), k ≤ Gs.length ∧ i = .int .i64 k ∧ Below w5.heap.size w5 wr ∧ IntsAt wr A gr ∧ IntsAt wr B la ∧ GrOk ls cs gr k ∧ la.length = cs.length ∧ ∀ j (hj : j < Gs.length), j < k → ∀ q ∈ Gs[j].items, la.getD q.toNat (-1) = (ls.length : Int) - 1) (fun i _ => Gs.length - (intOf i).toNat)
    case atStart => exact ⟨0, _, _, Nat.zero_le _, rfl, hBx, hiA, hiB, HGI'.out, by simp, fun j _ h => absurd h (Nat.not_lt_zero _)⟩
    case round =>
      clear hBx hiA hiB
      obtain ⟨wo, hwo⟩ : ∃ x, x = wr := ⟨_, rfl⟩
      subst hwo
      obtain ⟨k, gr, la, hk, rfl, hB, hiA, hiB, hGr, hla, hlast⟩ := hrel
      have HGR := Lib.hid hGr
      have HLAST := Lib.hid hlast
      have HLA := Lib.hid hla
      have HA := Lib.hid hiA
      have HB := Lib.hid hiB
      have hAs := hiA.lt
      have hBs := hiB.lt
      have HGL : Hid (gr.length = cs.length) := hGr.len
      clear hGr hlast hla hiA hiB
      by_cases hlt : k < Gs.length
      · obtain ⟨ag', cg', hvg, hgr⟩ := HRG.out
        injection hvg with q1 q2 q3
        subst q1
        clear q2 q3
        obtain ⟨gg, og, rfl, hgg, hcg⟩ := hgr (by omega)
        obtain ⟨sv', hsv, g0, g1, g2, g3⟩ := hcg k hlt
        replace g0 := (hB.cell (p := ⟨gg, og + k * 4, none⟩) hgg).trans g0
        replace g1 := (hB.cell (p := ⟨gg, og + k * 4 + 1, none⟩) hgg).trans g1
        replace g2 := (hB.cell (p := ⟨gg, og + k * 4 + 2, none⟩) hgg).trans g2
        replace g3 := (hB.cell (p := ⟨gg, og + k * 4 + 3, none⟩) hgg).trans g3
        obtain ⟨hi1, ⟨mm, hmm, hlv⟩, hi3⟩ := HIT.out _ (List.getElem_mem hlt)
        have hstep := HGS.out gr k hlt HGR.out
        have hbat := fun p hp => HBA.out gr _ (List.getElem_mem hlt) HGL.out p hp
        obtain ⟨x, hx⟩ : ∃ x, x = Gs[k] := ⟨_, rfl⟩
        have HX := Lib.hid hx
        rw [← hx] at hsv g0 g1 g2 hi1 hlv hi3 hstep hbat
        rw [hlv] at g0
        obtain ⟨nm, hnm⟩ : ∃ z, z = x.name := ⟨_, rfl⟩
        obtain ⟨up, hup⟩ : ∃ z, z = x.up := ⟨_, rfl⟩
        rw [← hnm] at g1
        rw [← hup] at g2
        obtain ⟨ai, ci, rfl, hci⟩ := hsv
        obtain ⟨CG, hCG⟩ : ∃ c, c = Obj.cells #[.int .i64 mm, .string nm, .int .i64 up, .slice ai x.items.length ci] 43 (0, 0) := ⟨_, rfl⟩
        have hnew : (wo.alloc CG).heap[wo.heap.size]? = some CG := by rw [hCG]; exact alloc_new wo _
        have q3 : (wo.alloc CG).cell? ⟨wo.heap.size, 3, none⟩ = some (.slice ai x.items.length ci) := by rw [hCG]; exact cell_of_row _ _ 3 _ _ _ (alloc_new wo _)
        have hBg : Below w5.heap.size w5 (wo.alloc CG) := hB.alloc hB.size _
        have hbc : Below wo.heap.size wo (wo.alloc CG) := (Below.refl _ _).alloc (Nat.le_refl _) _
        have hz1 : (wo.alloc CG).heap.size = wo.heap.size + 1 := World.size_alloc _ _
        have hA1 : IntsAt (wo.alloc CG) A gr := HA.out.below hbc hAs
        have hB1 : IntsAt (wo.alloc CG) B la := HB.out.below hbc hBs
        have HSTEP := Lib.hid hstep
        have HBAT := Lib.hid hbat
        have HLV := Lib.hid hlv
        have HI3 := Lib.hid hi3
        have HCI := Lib.hid hci
        have HNEW := Lib.hid hnew
        have HZ1 := Lib.hid hz1
        have HBG := Lib.hid hBg
        have HCS := Lib.hid (fun p (hp : p < x.items.length) => comeG_succ gr x hp)
        have HCL := Lib.hid (fun p => Nat.le_trans (Nat.le_of_eq (comeG_len gr x p)) (takes_le gr x p))
        have hw5o : w5.heap.size ≤ wo.heap.size := hB.size
        clear hlv hi3 hci hgr hcg hnm hup hx hnew hstep hbat hBg hbc
        go_wp2_with fail
        rw [← hCG]
        have HCG := Lib.hid hCG
        clear hCG
        go_loopw [18, 73] (fun v i wq => ∃ (p : Nat) (lb : List Int), p ≤ x.items.length ∧ i = .int .i64 p ∧ Below w5.heap.size w5 wq ∧ wo.heap.size + 1 ≤ wq.heap.size ∧ wq.heap[wo.heap.size]? = some CG ∧ IntsAt wq A gr ∧ IntsAt wq B lb ∧ lb.length = cs.length ∧
          (∀ j (hj : j < Gs.length), j < k → ∀ q ∈ Gs[j].items, lb.getD q.toNat (-1) = (ls.length : Int) - 1) ∧ (∀ j (hj : j < x.items.length), j < p → lb.getD x.items[j].toNat (-1) = (ls.length : Int) - 1) ∧
          wq.ownsRow (wo.heap.size + 1) 3 1 v (comeG gr x p).length ((comeG gr x p).map (Value.int .i64))) (fun _ i _ => x.items.length - (intOf i).toNat)
        case atStart => exact ⟨0, la, Nat.zero_le _, rfl, HBG.out, by omega, HNEW.out, hA1, hB1, HLA.out, HLAST.out, fun j _ h => absurd h (Nat.not_lt_zero _), by simpa [comeG] using World.ownsRow_nil _ _ _ _⟩
        case round =>
          clear q3 hA1 hB1 hz1
          obtain ⟨p, lb, hp, rfl, hBq, hzq, hN, hA2, hB2, hlbl, hl1', hl2, hO⟩ := hrel
          have HA2 := Lib.hid hA2
          have HB2 := Lib.hid hB2
          have HLB := Lib.hid hlbl
          have HL1 := Lib.hid hl1'
          have HL2 := Lib.hid hl2
          have HO := Lib.hid hO
          have HNN := Lib.hid hN
          rw [HCG.out] at hN
          have r0 := cell_of_row _ _ 0 _ _ _ hN
          simp only [List.getElem?_toArray, List.getElem?_cons_zero] at r0
          clear hA2 hB2 hlbl hl1' hl2 hN
          by_cases hltp : p < x.items.length
          · obtain ⟨gi, oi, rfl, hgi, hcc⟩ := HCI.out (by omega)
            obtain ⟨q, hq, hqe⟩ := HI3.out _ (List.getElem_mem hltp)
            have hcs := HCS.out p hltp
            have hcl := HCL.out p
            have e1 := hcc p hltp
            rw [hqe] at e1 hcs
            have e1' : wr.cell? ⟨gi, oi + p, none⟩ = some (.int .i64 q) := (hBq.cell (p := ⟨gi, oi + p, none⟩) hgi).trans e1
            have e2 := HB2.out.cell (i := q) (by rw [HLB.out]; exact hq)
            have e3 := HB2.out.free q
            have hqg : q < gr.length := by rw [HGL.out]; exact hq
            obtain ⟨W1, hW1⟩ : ∃ W1, W1 = wr.setCell ⟨B, q, none⟩ (.int .i64 ((ls.length : Int) - 1)) := ⟨_, rfl⟩
            have hA3 : IntsAt W1 A gr := by rw [hW1]; exact HA2.out.setOther hAB _
            have hB3 : IntsAt W1 B (lb.set q ((ls.length : Int) - 1)) := by rw [hW1]; exact HB2.out.set q _
            have hNo : B ≠ wo.heap.size := by omega
            have hN3 : W1.heap[wo.heap.size]? = some CG := by rw [hW1]; exact (Below.heap_setCell _ _ _ _ (by show wo.heap.size ≠ B; omega)).trans HNN.out
            have hBq3 : Below w5.heap.size w5 W1 := by rw [hW1]; exact hBq.setCell hBB _
            have hz3 : wo.heap.size + 1 ≤ W1.heap.size := by rw [hW1, World.size_setCell]; exact hzq
            have hO3 : W1.ownsRow (wo.heap.size + 1) 3 1 u18 (comeG gr x p).length ((comeG gr x p).map (Value.int .i64)) := by rw [hW1]; exact ownsRow_setCell_below HO.out (by show B < wo.heap.size + 1; omega) _
            have f2 := hA3.cell hqg
            obtain ⟨z, hz⟩ : ∃ z, z = gr.getD q (-1) := ⟨_, rfl⟩
            rw [← hz] at f2
            have f0 : W1.cell? ⟨wo.heap.size, 0, none⟩ = some (.int .i64 mm) := by rw [HCG.out] at hN3; exact cell_of_row _ _ 0 _ _ _ hN3
            have hcs' : comeG gr x (p + 1) = if z = (mm : Int) then comeG gr x p ++ [(q : Int)] else comeG gr x p := by
              rw [hcs, Int.toNat_natCast, HLV.out, ← hz]
            have HL1' : Hid (∀ j (hj : j < Gs.length), j < k → ∀ r ∈ Gs[j].items, (lb.set q ((ls.length : Int) - 1)).getD r.toNat (-1) = (ls.length : Int) - 1) := fun j hj hjk r hr => set_keeps _ (HL1.out j hj hjk r hr)
            have HL2' : Hid (∀ j (hj : j < x.items.length), j < p + 1 → (lb.set q ((ls.length : Int) - 1)).getD x.items[j].toNat (-1) = (ls.length : Int) - 1) := fun j hj hjp => by
              by_cases e : j = p
              · subst e
                rw [hqe, Int.toNat_natCast, List.getD_eq_getElem?_getD, List.getElem?_set_self (by rw [HLB.out]; exact hq)]; rfl
              · exact set_keeps _ (HL2.out j hj (by omega))
            have HO4 := Lib.hid hO3
            have HO5 : Hid (∀ m, (W1.drewN m).ownsRow (wo.heap.size + 1) 3 1 u18 (comeG gr x p).length ((comeG gr x p).map (Value.int .i64))) := fun m => row_drewN hO3 m
            have HNW : Hid (∀ m, ∀ j u, ([Value.int .i64 q])[j]? = some u → ((W1.drewN m).alloc (.cells #[.int .i64 q] 3)).cell? ((⟨W1.heap.size, 0, none⟩ : Addr).add j) = some u) := fun m => by simpa using cell_one_new (W1.drewN m) (.int .i64 q) 3
            have HA4 := Lib.hid hA3
            have HB4 := Lib.hid hB3
            have HN4 := Lib.hid hN3
            have HQ4 := Lib.hid hBq3
            have HZ3 := Lib.hid hz3
            have HW1 := Lib.hid hW1
            have HCS' := Lib.hid hcs'
            have HZZ := Lib.hid hz
            clear hcs e1 hcc hqe hA3 hB3 hN3 hBq3 hz3 hcs' hz hW1 HL1 HL2
            by_cases hzm : z = (mm : Int)
            · have hbq : (z == (mm : Int)) = true := by simp [hzm]
              have HZM := Lib.hid hzm
              clear hzm
              rcases Joins.ownsRow_forms hO3 with ⟨rfl, hpn⟩ | ⟨g2, cap2, rfl⟩
              · have HPN := Lib.hid hpn
                clear hpn hO3
                go_wp2_with fail
                rw [← HW1.out]
                go_quiet (fail)
                go_wp2_with (at_builtin; refine wpList_append_own _ rfl _ _ 38 rfl (wo.heap.size + 1) 3 j0 (.int .i64 0) 1 8 Try.underlying38 HJ.out.1 HJ.out.2.1 HJ.out.2.2.1 HJ.out.2.2.2 rfl (by decide) _ _ _ rfl ((HO5.out _).alloc _) ⟨W1.heap.size, 0, none⟩ 1 1 [.int .i64 q] rfl (by simp) (HNW.out _) (by simp [Value.oneCell']) (by unfold maxLen; omega) (by omega) (by have := HZ3.out; simp; omega) ?_; intro v' w6 hown' hgrow _)
                go_roundw
                case rel =>
                  obtain ⟨k1, k2, k3⟩ := come_rel hgrow HO4.out HQ4.out HZ3.out hw5o
                  have hce : comeG gr x (p + 1) = comeG gr x p ++ [(q : Int)] := by rw [HCS'.out, if_pos HZM.out]
                  refine ⟨p + 1, lb.set q ((ls.length : Int) - 1), by omega, by go_num, k1, k2, (k3 _ (Nat.le_refl _)).trans HN4.out, (k3 _ (by omega)).trans HA4.out, (k3 _ (by omega)).trans HB4.out, by rw [List.length_set]; exact HLB.out, HL1'.out, HL2'.out, ?_⟩
                  rw [hce, List.length_append, List.map_append]
                  exact hown'
                case measure => simp [intOf]; omega
              · clear hO3
                go_wp2_with fail
                rw [← HW1.out]
                go_quiet (fail)
                go_wp2_with (at_builtin; refine wpList_append_own _ rfl _ _ 38 rfl (wo.heap.size + 1) 3 j0 (.int .i64 0) 1 8 Try.underlying38 HJ.out.1 HJ.out.2.1 HJ.out.2.2.1 HJ.out.2.2.2 rfl (by decide) _ _ _ rfl ((HO5.out _).alloc _) ⟨W1.heap.size, 0, none⟩ 1 1 [.int .i64 q] rfl (by simp) (HNW.out _) (by simp [Value.oneCell']) (by unfold maxLen; omega) (by omega) (by have := HZ3.out; simp; omega) ?_; intro v' w6 hown' hgrow _)
                go_roundw
                case rel =>
                  obtain ⟨k1, k2, k3⟩ := come_rel hgrow HO4.out HQ4.out HZ3.out hw5o
                  have hce : comeG gr x (p + 1) = comeG gr x p ++ [(q : Int)] := by rw [HCS'.out, if_pos HZM.out]
                  refine ⟨p + 1, lb.set q ((ls.length : Int) - 1), by omega, by go_num, k1, k2, (k3 _ (Nat.le_refl _)).trans HN4.out, (k3 _ (by omega)).trans HA4.out, (k3 _ (by omega)).trans HB4.out, by rw [List.length_set]; exact HLB.out, HL1'.out, HL2'.out, ?_⟩
                  rw [hce, List.length_append, List.map_append]
                  exact hown'
                case measure => simp [intOf]; omega
            · have hbq : (z == (mm : Int)) = false := by simp [hzm]
              have HZM := Lib.hid hzm
              clear hzm hO3
              go_wp2_with fail
              rw [← HW1.out]
              go_quiet (fail)
              go_wp2_with fail
              go_roundw
              case rel =>
                have hce : comeG gr x (p + 1) = comeG gr x p := by rw [HCS'.out, if_neg HZM.out]
                refine ⟨p + 1, lb.set q ((ls.length : Int) - 1), by omega, by go_num, (by first | exact below_drewN HQ4.out _ | exact HQ4.out.drew), HZ3.out, HN4.out, HA4.out, HB4.out, by rw [List.length_set]; exact HLB.out, HL1'.out, HL2'.out, ?_⟩
                rw [hce]
                exact HO4.out
              case measure => simp [intOf]; omega
          · obtain rfl : p = x.items.length := by omega
            obtain ⟨al', cl', hvl, hcl⟩ := HRL.out
            injection hvl with q1 q2 q3
            subst q1
            clear q2 q3
            obtain ⟨gl, ol, rfl, hgl2, hcl⟩ := hcl (by omega)
            obtain ⟨sv', _, _, _, _, l3, _⟩ := hcl mm hmm
            replace l3 := (hBq.cell (p := ⟨gl, ol + mm * 5 + 3, none⟩) hgl2).trans l3
            have hst := HSTEP.out
            have hmn2 := minAt_get (ls := ls) hmm
            rw [HLV.out, hmn2] at hst
            have hclen := HCL.out x.items.length
            obtain ⟨mn, hmn⟩ : ∃ z, z = ls[mm].min := ⟨_, rfl⟩
            rw [← hmn] at l3 hst
            obtain ⟨C, hC⟩ : ∃ C, C = comeG gr x x.items.length := ⟨_, rfl⟩
            have hbat := HBAT.out
            rw [← hC] at hst hO hbat hclen
            have HO := Lib.hid hO
            have HLAST' : Hid (∀ j (hj : j < Gs.length), j < k + 1 → ∀ r ∈ Gs[j].items, lb.getD r.toNat (-1) = (ls.length : Int) - 1) := fun j hj hjk r hr => by
              by_cases e : j = k
              · subst e
                rw [← HX.out] at hr
                obtain ⟨t, ht, rfl⟩ := List.mem_iff_getElem.1 hr
                exact HL2.out t ht ht
              · exact HL1.out j hj (by omega) r hr
            clear hcl hmn2 hmn hC HL1 HL2
            by_cases hmt : (C.length : Int) < mn
            · rw [if_pos hmt] at hst
              have HST := Lib.hid hst
              clear hst
              rcases Joins.ownsRow_forms hO with ⟨rfl, hpn⟩ | ⟨g2, cap2, rfl⟩
              · have hCn : C = [] := List.length_eq_zero_iff.1 hpn
                subst hCn
                clear hpn hO hbat
                go_wp2_with fail
                go_loopw [106] (fun i wq => i = .int .i64 0 ∧ wq = wr) (fun _ _ => 0)
                case atStart => exact ⟨rfl, rfl⟩
                case round =>
                  obtain ⟨rfl, rfl⟩ := hrel
                  go_wp2_with fail
                  go_roundw
                  case rel => exact ⟨k + 1, gr, lb, by omega, by go_num, hBq, HA2.out, HB2.out, HST.out, HLB.out, HLAST'.out⟩
                  case measure => simp [intOf]; omega
              · have hcell := fun j (hj : j < C.length) => (by rw [hO.cellAt j (by omega), List.getElem?_map, List.getElem?_eq_getElem hj]; rfl : wr.cell? ⟨g2, j, none⟩ = some (.int .i64 C[j]))
                have hg2 := hO.lt g2 rfl
                have HCC := Lib.hid hcell
                have HBT := Lib.hid hbat
                clear hcell hO hbat
                obtain ⟨wy, hwy⟩ : ∃ z, z = wr := ⟨_, rfl⟩
                subst hwy
                have HBY := Lib.hid hBq
                go_wp2_with fail
                go_loopw [106] (fun i wq => ∃ p : Nat, p ≤ C.length ∧ i = .int .i64 p ∧ Below w5.heap.size w5 wq ∧ IntsAt wq A (bump gr x.lvl (C.take p)) ∧ IntsAt wq B lb ∧ ∀ j (hj : j < C.length), wq.cell? ⟨g2, j, none⟩ = some (.int .i64 C[j])) (fun i _ => C.length - (intOf i).toNat)
                case atStart => exact ⟨0, Nat.zero_le _, rfl, HBY.out, HA2.out, HB2.out, HCC.out⟩
                case round =>
                  clear hBq
                  obtain ⟨p, hp, rfl, hBq', hA', hB', hcc'⟩ := hrel
                  have HA9 := Lib.hid hA'
                  have HB9 := Lib.hid hB'
                  have HBQ := Lib.hid hBq'
                  have HC9 := Lib.hid hcc'
                  clear hA' hB' hBq' hcc'
                  by_cases hpl : p < C.length
                  · obtain ⟨q, hq, hqe, hqv⟩ := HBT.out p hpl
                    have c1 := HC9.out p hpl
                    rw [hqe] at c1
                    have hln : q < (bump gr x.lvl (C.take p)).length := by rw [bump_len, HGL.out]; exact hq
                    have c2 := HA9.out.cell hln
                    rw [hqv, HLV.out] at c2
                    have c3 := HA9.out.free q
                    have hww : IntKind.i64.wrap ((mm : Int) + 1) = (mm : Int) + 1 := IntWalk.i64_in _ (by omega)
                    have hbs := bump_succ gr x.lvl C hpl
                    rw [hqe, Int.toNat_natCast, HLV.out] at hbs
                    have HBS := Lib.hid hbs
                    clear hbs hqv hqe
                    go_wp2_with fail
                    go_roundw
                    case rel =>
                      refine ⟨p + 1, by omega, by go_num, HBQ.out.setCell hA _, ?_, HB9.out.setOther (fun e => hAB e.symm) _, fun j hj => ?_⟩
                      · have := HA9.out
                        rw [HLV.out] at this
                        rw [HLV.out, HBS.out]
                        exact this.set q _
                      · rw [World.cell?_setCell_other _ _ _ _ (by intro h; simp only [Addr.mk.injEq] at h; have := hg2.1; omega)]
                        exact HC9.out j hj
                    case measure => simp [intOf]; omega
                  · obtain rfl : p = C.length := by omega
                    go_wp2_with fail
                    go_roundw
                    case rel =>
                      refine ⟨k + 1, bump gr x.lvl C, lb, by omega, by go_num, HBQ.out, ?_, HB9.out, by rw [HLV.out]; exact HST.out, HLB.out, HLAST'.out⟩
                      have := HA9.out
                      rwa [List.take_of_length_le (Nat.le_refl _)] at this
                    case measure => simp [intOf]; omega
            · rw [if_neg hmt] at hst
              have HST := Lib.hid hst
              clear hst
              obtain ⟨ac, cc, rfl, _⟩ := rd_row5 hO rfl
              clear hO hbat
              go_wp2_with fail
              go_roundw
              case rel => exact ⟨k + 1, gr, lb, by omega, by go_num, hBq, HA2.out, HB2.out, HST.out, HLB.out, HLAST'.out⟩
              case measure => simp [intOf]; omega
      · obtain rfl : k = Gs.length := by omega
        have hgr := HGR.out
        have hgn := hgr.num
        have hgl2 : gr.length = cs.length := hgr.len
        have hgo := HGV.out gr hgr
        have hla := HLA.out
        obtain ⟨hln, hlo⟩ := HLV.out la hla (fun j h1 h2 i hi => HLAST.out j h2 h1 i hi)
        have hb1 := HBEST.out gr hgl2 hgn hgo
        have hb2 := HBEST.out la hla hln hlo
        have hs1 := HSG.out gr hgl2 hgn
        have hs2 := HSG.out la hla hln
        have hv1 := HVL.out gr hgl2 hgn
        have hv2 := HVL.out la hla hln
        obtain ⟨s1, hs1e⟩ : ∃ z, z = savesTo ls gr cs.length := ⟨_, rfl⟩
        obtain ⟨s2, hs2e⟩ : ∃ z, z = savesTo ls la cs.length := ⟨_, rfl⟩
        simp only [← hs1e] at hs1 hb1
        simp only [← hs2e] at hs2 hb2
        simp only [hgo] at hv1
        simp only [hlo] at hv2
        have HS1 := Lib.hid hs1
        have HS2 := Lib.hid hs2
        have HV1 := Lib.hid hv1
        have HV2 := Lib.hid hv2
        have hn1 : ¬ sv < s1 := by omega
        have hn2 : ¬ sv < s2 := by omega
        have hRA : RdInts wo (.slice (some ⟨A, 0, none⟩) cs.length cs.length) gr := by
          have := (RowJ.of_ints (base := 0) HA.out (Nat.zero_le _) cs.length).rd
          rwa [hgl2] at this
        have hRB : RdInts wo (.slice (some ⟨B, 0, none⟩) cs.length cs.length) la := by
          have := (RowJ.of_ints (base := 0) HB.out (Nat.zero_le _) cs.length).rd
          rwa [hla] at this
        have HRA := Lib.hid hRA
        have HRB := Lib.hid hRB
        have HBO := Lib.hid hB
        clear hs1e hs2e hs1 hs2 hv1 hv2 hgo hlo hgr hgn hln hgl2 hla hRA hRB
        go_wp2_with (first
          | (go_at_call 17; refine (HS2.out _ al cl (RdLevs.below HRL.out hq7) _ (HRB.out.below hb7)).mono ?_; rintro e w8 ⟨rfl, hb8⟩; (have hq8 : Below w5.heap.size w5 w8 := hq7.trans (hb8.mono hq7.size)); (have ho8 : Below wo.heap.size wo w8 := hb7.trans (hb8.mono hb7.size)); obtain ⟨m0, m1, m2, m3⟩ := cells4 ((hq8.block _ hm5).trans HN5.out))
          | (go_at_call 17; refine (HS1.out _ al cl (RdLevs.below HRL.out HBO.out) _ HRA.out).mono ?_; rintro e w7 ⟨rfl, hb7⟩; (have hq7 : Below w5.heap.size w5 w7 := HBO.out.trans (hb7.mono HBO.out.size)))
          | (go_at_call 15; refine (HV2.out _ al cl ap cp _ (RdLevs.below HRL.out hq9) (RdPces.below HRP.out hq9) (HRB.out.below ho9)).mono ?_; rintro e w10 ⟨rfl, hb10⟩; (have HBE : Hid (Below w.heap.size w w10) := HB5.out.trans ((hq9.trans (hb10.mono hq9.size)).mono HB5.out.size)))
          | (go_at_call 15; refine (HV1.out _ al cl ap cp _ (RdLevs.below HRL.out hq8) (RdPces.below HRP.out hq8) (HRA.out.below ho8)).mono ?_; rintro e w9 ⟨rfl, hb9⟩; (have hq9 : Below w5.heap.size w5 w9 := hq8.trans (hb9.mono hq8.size)); (have ho9 : Below wo.heap.size wo w9 := ho8.trans (hb9.mono ho8.size)); clear m0 m1 m2 m3; obtain ⟨m0, m1, m2, m3⟩ := cells4 ((hq9.block _ hm5).trans HN5.out)))
        go_ret
        exact ⟨by simp, HBE.out⟩
theorem presortBeats_walk (n : Int) (least cents l : List UInt8) (vl vc vs : Value) (w : World) (hn0 : 0 ≤ n) (hn1 : n < 4294967296) (hrl : RdBytes w vl least) (hrc : RdBytes w vc cents) (hrs : RdBytesC w vs l)
    (hll : least.length ≤ maxLen) (hcl : cents.length ≤ maxLen) (hsl : l.length ≤ maxLen) :
    Calls Try.prog 5 #[.int .u32 n, vl, vc, vs] w fun e w' => e = .returned (.bool true) ∧ Below w.heap.size w w' :=
  beats_walk n vl vc vs _ _ w (made_has _ _ _ _) (made_c hn0 hn1 hrl hrc hrs hll hcl hsl (by decide))
end Go.Proofs.Ytpieagaggjngjaa
