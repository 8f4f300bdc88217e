import Derived.Test.YtlgajongmkhcnaaGreatDoorQUE
import Derived.Test.YtlgajongmkhcnaaGreatDoorQUD
import Derived.Deep.RegionHeld3
import Derived.Deep.AppendLies
import Derived.Deep.DeepCutAuto
import Derived.Test.YtlgajongmkhcnaaGreatDoorQUC
import Derived.Laws.Rows
import Derived.Test.YtlgajongmkhcnaaGreatDoorQUA
import Derived.Deep.RegionLaw
import Derived.Test.YtlgajongmkhcnaaGreatDoorQU8
set_option maxRecDepth 100000
set_option linter.unusedVariables false
set_option linter.unusedSimpArgs false
set_option maxHeartbeats 32000000
namespace Go.Proofs.YtlgajongmkhcnaaGreatDoor
section
open Go.RowKit Go.Sort Go.Shelf
theorem Zdp {ls : List Lev} {cs : List ByteArray} (h : Z0g ls = true) (hp : ∀ l ∈ ls, ∀ c ∈ cs, l.pre <= c.size) : cs.any (Z2R ls) = false := by
 rw [Kb4]
 intro c hc
 have hl := Z0y h
 rw [Z6I (by omega)]
 have := hp _ (Z4 (show 0 < ls.length by omega)) c hc
 simp
 omega
theorem Zer {w4 W : World} {v vg : Value} {n : Nat}
 (h : W = (((w4.alloc (.cells #[v, vg, .slice (some ⟨w4.1.size + 1, 0, none⟩) n n, .slice (some ⟨w4.1.size + 1 + 1, 0, none⟩) n n, .slice (some ⟨w4.1.size + 1 + 1 + 1, 0, none⟩) n n] 153)).alloc (.cells (madeCells #[.slice none 0 0] n) 35)).alloc (.cells (madeCells #[.slice none 0 0] n) 35)).alloc (.cells (madeCells #[.int .i64 0] n) 3)) :
 TreeAt W w4.1.size v vg n (w4.1.size + 1) (w4.1.size + 2) (w4.1.size + 3) /\ W.rowIs (w4.1.size + 1) 35 n (fun _ => .slice none 0 0) /\ W.rowIs (w4.1.size + 2) 35 n (fun _ => .slice none 0 0) /\ IntsAt W (w4.1.size + 3) (List.replicate n 0) /\
  Below w4.1.size w4 W /\ W.1.size = w4.1.size + 4 := by
 obtain ⟨A, hA⟩ : ∃ A, A = w4.alloc (.cells #[v, vg, .slice (some ⟨w4.1.size + 1, 0, none⟩) n n, .slice (some ⟨w4.1.size + 1 + 1, 0, none⟩) n n, .slice (some ⟨w4.1.size + 1 + 1 + 1, 0, none⟩) n n] 153) := ⟨_, rfl⟩
 obtain ⟨B, hB⟩ : ∃ B, B = A.alloc (.cells (madeCells #[.slice none 0 0] n) 35) := ⟨_, rfl⟩
 obtain ⟨C, hC⟩ : ∃ C, C = B.alloc (.cells (madeCells #[.slice none 0 0] n) 35) := ⟨_, rfl⟩
 have hD : W = C.alloc (.cells (madeCells #[.int .i64 0] n) 3) := by rw [h, hC, hB, hA]
 have zA : A.1.size = w4.1.size + 1 := by rw [hA]; exact Z6 _ _
 have zB : B.1.size = w4.1.size + 2 := by rw [hB, Z6, zA]
 have zC : C.1.size = w4.1.size + 3 := by rw [hC, Z6, zB]
 have bA : Below w4.1.size w4 A := by rw [hA]; exact (Z9 _ _).alloc (Z1 _) _
 have bB : Below A.1.size A B := by rw [hB]; exact (Z9 _ _).alloc (Z1 _) _
 have bC : Below B.1.size B C := by rw [hC]; exact (Z9 _ _).alloc (Z1 _) _
 have bD : Below C.1.size C W := by rw [hD]; exact (Z9 _ _).alloc (Z1 _) _
 have tA : TreeAt A w4.1.size v vg n (w4.1.size + 1) (w4.1.size + 2) (w4.1.size + 3) := by rw [hA]; exact Z02 w4 _
 have rB : B.rowIs (w4.1.size + 1) 35 n (fun _ => .slice none 0 0) := by rw [<- zA, hB]; exact World.rowIs_made A _ _ _
 have rC : C.rowIs (w4.1.size + 2) 35 n (fun _ => .slice none 0 0) := by rw [<- zB, hC]; exact World.rowIs_made B _ _ _
 have iD : IntsAt W (w4.1.size + 3) (List.replicate n 0) := by rw [<- zC, hD]; exact Z4W C n
 refine ⟨(bD.block _ (by omega)).trans ((bC.block _ (by omega)).trans ((bB.block _ (by omega)).trans tA)), Z12 (Z12 rB bC (by omega)) bD (by omega), Z12 rC bD (by omega), iD, Z01 (Z01 (Z01 bA bA.size bB) (by omega) bC) (by omega) bD, by rw [hD, Z6, zC]⟩
theorem Zfb (ls : List Lev) (v vp : Value) (m : Mai) (w : World) (hr : RdLevs w v ls) (pK : Z0g ls = true) (hm : Z2c m = true) (qK : RdPces w vp m.ps) (h8 : 0 <= m.cls /\ m.cls <= 255 /\ 0 <= m.ctr /\ m.ctr <= 255) (tM : m.origin.size <= maxLen)
 (rD : ∀ l ∈ ls, ∀ c ∈ Z07 m.ps, l.pre <= c.size) :
 Calls Tryz.prog 27 #[v, Z2r m vp] w fun e w' => ∃ g, e = .returned (.tuple #[.slice (some ⟨g, 0, none⟩) m.ps.length m.ps.length, .int .i64 0]) /\ Below w.1.size w w' /\ w.1.size <= g /\ IntsAt w' g (Zhq (Z0C ls) (pG ls (Z07 m.ps)) m.ps.length) := by
 obtain ⟨qL, pC⟩ := Z8q hm
 have tN := Z0y pK
 have sC : ∀ c ∈ Z07 m.ps, c.size <= maxLen := fun c hc => by have := Z0w (pC c hc); unfold maxLen; omega
 have vK : m.ps.length <= 2000 := by have := qL; unfold Z07 at this; rwa [Z7] at this
 have tO : (Z07 m.ps).length = m.ps.length := by unfold Z07; simp
 have sD := Z0 (fun W (hW : Below w.1.size w W) => Z1X ls v W (hr.below hW) (Z1A pK) (by unfold maxLen; omega))
 have qM := Z0 (fun W (hW : Below w.1.size w W) => Z3c m vp W (qK.below hW) h8 tM (by omega) (fun p hp => sC _ (List.mem_map_of_mem hp)))
 have qD := Z0 (fun W (hW : Below w.1.size w W) => Z7y m vp W (qK.below hW) (by omega))
 have qN : Z1g ls (Z07 m.ps) = ((gTo ls (Z07 m.ps) ls.length).1, 0) := Z8A pK qL pC (Zdp pK rD)
 have qE := Z0 (fun W vc (hW : Below w.1.size w W) (vL : ReadsT W vc (Z07 m.ps)) => Z5G ls v vc (Z07 m.ps) W (hr.below hW) (Z1A pK) (by unfold maxLen; omega) vL (by unfold maxLen; omega) sC)
 rw [qN] at qE
 have tP := Z3T ls (Z07 m.ps) ls.length (Z1 _)
 have sE := ZfY ls (Z07 m.ps) tN.2 qL
 rw [tP] at qE sE
 have qO := Z9j pK pC rD
 rw [tO] at qO
 have tQ : pG ls (Z07 m.ps) = Z0n (Z16 ls (Z07 m.ps) ls.length) := rfl
 rw [tQ] at qO ⊢
 dsimp only at qE sE
 obtain ⟨Gs, qP⟩ : ∃ G, G = Z16 ls (Z07 m.ps) ls.length := ⟨_, rfl⟩
 rw [<- qP] at qE sE qO ⊢
 rw [pK] at sD
 rw [hm] at qM
 have HR := Z0 hr
 have qF := Z0 qO
 have vM := fun W => run_make_row' (P := Tryz.prog) 109 35 (.slice none 0 0) 24 Tryz.underlying109 Tryz.infoSl rfl .i64 .i64 Gs.length (by omega) (by omega) W
 have vN := fun W => run_make_row' (P := Tryz.prog) 35 3 (.int .i64 0) 8 Tryz.underlying35 Tryz.infoI rfl .i64 .i64 Gs.length (by omega) (by omega) W
 have tR : ∀ l ∈ ls, 0 <= l.cents /\ l.cents <= 1000000 := fun l hl => by
  obtain ⟨i, hi, rfl⟩ := Kau.1 hl
  obtain ⟨_, _, ⟨_, qQ, _, _⟩, _⟩ := Z0I.1 pK
  obtain ⟨hh, _⟩ := Z1a.1 (qQ i hi hi)
  unfold Z4h at hh
  rw [ZF, Kab] at hh
  exact hh.2.2.2
 have tS : ∀ x ∈ Gs, x.items.length <= 2000 := fun x hx => by
  rw [qP] at hx
  obtain ⟨mm, n, _, _, rfl⟩ := Z2b.1 hx
  have : (itm ls (Z07 m.ps) mm n).length <= (Z07 m.ps).length := Z7g ls _ mm n
  exact Kaw this qL
 have tT : ∀ k (hk : k < Gs.length), Gs[k].up = -1 \/ ∃ u : Nat, u < Gs.length /\ Gs[k].up = (u : Int) := fun k hk => by
  have vO : Gs[k] ∈ Z16 ls (Z07 m.ps) ls.length := by rw [<- qP]; exact Z4 hk
  obtain ⟨mm, hP⟩ := Zj7 pK pC rD vO
  rcases hP.up with ⟨h1, _⟩ | ⟨_, u, hu, h1, _⟩
  ·exact .inl h1
  ·exact .inr ⟨u, by rw [qP]; exact hu, h1⟩
 have vP := Z0 tT
 have rE := Z0 tR
 have sF := Z0 tS
 obtain ⟨ap, cp, rfl, _⟩ := qK
 obtain ⟨al, cl, rfl, _⟩ := hr
 unfold Z2r at qM qD ⊢
 obtain ⟨cls, ctr, org, ps⟩ := m
 dsimp only at *
 obtain ⟨np, tU⟩ : ∃ n, n = ps.length := ⟨_, rfl⟩
 rw [<- tU] at qM qD qF vK ⊢
 clear qL pC sC tO qN tP qO tQ qP rD pK hm tR tS tT tM tU
 have rF : Below w.1.size w (w.alloc (.cells #[.int .u8 cls, .int .u8 ctr, .string org, .slice ap np cp] 34)) := (Z9 _ w).alloc (Z1 _) _
 have tV : (w.alloc (.cells #[.int .u8 cls, .int .u8 ctr, .string org, .slice ap np cp] 34)).1.size = w.1.size + 1 := Z6 _ _
 have pL : ∀ W, Below (w.1.size + 1) (w.alloc (.cells #[.int .u8 cls, .int .u8 ctr, .string org, .slice ap np cp] 34)) W -> W.cell? ⟨w.1.size, 0, none⟩ = some (.int .u8 cls) /\ W.cell? ⟨w.1.size, 1, none⟩ = some (.int .u8 ctr) /\ W.cell? ⟨w.1.size, 2, none⟩ = some (.string org) /\ W.cell? ⟨w.1.size, 3, none⟩ = some (.slice ap np cp) := fun W hW =>
  ⟨(hW.cell (p := ⟨w.1.size, 0, none⟩) (Ka4 _)).trans (Kaa _ _ 0 _ _ _ (Z02 w _)), (hW.cell (p := ⟨w.1.size, 1, none⟩) (Ka4 _)).trans (Kaa _ _ 1 _ _ _ (Z02 w _)),
   (hW.cell (p := ⟨w.1.size, 2, none⟩) (Ka4 _)).trans (Kaa _ _ 2 _ _ _ (Z02 w _)), (hW.cell (p := ⟨w.1.size, 3, none⟩) (Ka4 _)).trans (Kaa _ _ 3 _ _ _ (Z02 w _))⟩
 have rG := Z0 pL
 have rH := Z0 tV
 clear pL tV
 go_enter Tryz.func27, Tryz.ntmps27
 go_wp2_with (first
  | (go_at_call 39; refine (sD.out _ rF).mono ?_; rintro e w1 ⟨rfl, qG⟩; (rw [rH.out] at qG); have tW : Below w.1.size w w1 := rF.trans (qG.mono (Kbd _)); obtain ⟨x0, x1, x2, x3⟩ := rG.out w1 qG)
  | (go_at_call 34; refine (qM.out _ tW).mono ?_; rintro e w2 ⟨rfl, rI⟩; have qR := qG.trans (rI.mono (by have := qG.size; rw [rH.out] at this; exact this)); have rJ : Below w.1.size w w2 := rF.trans (qR.mono (Kbd _)); clear x0 x1 x2 x3; obtain ⟨x0, x1, x2, x3⟩ := rG.out w2 qR)
  | (go_at_call 42; refine (qD.out _ rJ).mono ?_; rintro e w3 ⟨u, rfl, rK, tX⟩; have rL : Below w.1.size w w3 := Z01 rJ rJ.size rK)
  | (go_at_call 41; refine (qE.out _ _ rL tX).mono ?_; rintro e w4 ⟨vg, rfl, sG, sH⟩; have rM := RdGrps.of_owns sH; obtain ⟨ag, cg, sI⟩ := sH.len; subst sI; clear x0 x1 x2 x3))
 have rN : Below w.1.size w w4 := Z01 rL rL.size sG
 have vQ := rN.size
 have sJ : Below (w.1.size + 1) (w.alloc (.cells #[.int .u8 cls, .int .u8 ctr, .string org, .slice ap np cp] 34)) w4 := by
  have h2 := qR.size
  have h3 := rK.size
  rw [rH.out] at h2
  exact (qR.trans (rK.mono h2)).trans (sG.mono (by omega))
 have vR := sJ.size
 rw [rH.out] at vR
 have HX := Z0 (rG.out w4 sJ).2.2.2
 have tY := Z0 (RdLevs.below HR.out rN)
 have rO := Z0 rM
 have vS := Z0 rN
 clear qG tW rI qR rJ rK tX rL sG sH rM sJ rF vM vN sD qM qD qE rG HR rN
 obtain ⟨W0, sK⟩ : ∃ W0 : World, W0 = (((w4.alloc (.cells #[.slice al ls.length cl, .slice ag Gs.length cg, .slice (some ⟨w4.1.size + 1, 0, none⟩) Gs.length Gs.length, .slice (some ⟨w4.1.size + 1 + 1, 0, none⟩) Gs.length Gs.length, .slice (some ⟨w4.1.size + 1 + 1 + 1, 0, none⟩) Gs.length Gs.length] 153)).alloc (.cells (madeCells #[.slice none 0 0] Gs.length) 35)).alloc (.cells (madeCells #[.slice none 0 0] Gs.length) 35)).alloc (.cells (madeCells #[.int .i64 0] Gs.length) 3) := ⟨_, rfl⟩
 have vT := Zer sK
 rw [<- sK]
 clear sK
 obtain ⟨t1, t2, t3, t4, t5, t6⟩ := vT
 have vU := Z0 t3
 have vV := Z0 t4
 obtain ⟨j0, hj⟩ := info_parts Tryz.infoI
 have HJ := Z0 hj
 clear hj
 go_loopw [48] (fun i wr => ∃ k : Nat, k <= Gs.length /\ i = .int .i64 k /\ Below w4.1.size w4 wr /\ w4.1.size + 4 <= wr.1.size /\ TreeAt wr w4.1.size (.slice al ls.length cl) (.slice ag Gs.length cg) Gs.length (w4.1.size + 1) (w4.1.size + 2) (w4.1.size + 3) /\
  wr.rowIs (w4.1.size + 2) 35 Gs.length (fun _ => .slice none 0 0) /\ IntsAt wr (w4.1.size + 3) (List.replicate Gs.length 0) /\ ∃ F, BelF wr (w4.1.size + 4) (w4.1.size + 1) Gs.length (Z2J (Z0n Gs) k) F) (fun i _ => Gs.length - (intOf i).toNat)
 case atStart => exact ⟨0, ZE _, rfl, t5, by omega, t1, t3, t4, _, BelF.nil t2⟩
 case round =>
  clear t1 t2 t3 t4 t5 t6 vU vV
  obtain ⟨k, hk, rfl, hB, hz, ht, rP, rQ, F, hF⟩ := hrel
  by_cases pD : k < Gs.length
  ·have rM := RdGrps.below rO.out hB
   obtain ⟨ag', cg', sI, qN⟩ := rM
   injection sI with q1 q2 q3
   subst q1
   clear q2 q3
   obtain ⟨gg, og, rfl, xC, tZ⟩ := qN (by omega)
   obtain ⟨sv, hsv, g0, g1, g2, g3⟩ := tZ k pD
   have sL := vP.out k pD
   have qH := Z2F pD
   have rR : ∀ j : Nat, Gs[k].up = (j : Int) -> Z2J (Z0n Gs) (k + 1) j = Z2J (Z0n Gs) k j ++ [(k : Int)] := fun j h => by rw [Z8N, qH]; exact if_pos h
   have rS : ∀ j : Nat, Gs[k].up ≠ (j : Int) -> Z2J (Z0n Gs) (k + 1) j = Z2J (Z0n Gs) k j := fun j h => by rw [Z8N, qH]; exact if_neg h
   obtain ⟨x, hx⟩ : ∃ x, x = Gs[k] := ⟨_, rfl⟩
   rw [<- hx] at hsv g0 g1 g2 sL rR rS
   obtain ⟨lvl, nm, up, items⟩ := x
   dsimp only at hsv g0 g1 g2 g3 sL rR rS
   obtain ⟨ai, ci, rfl, _⟩ := hsv
   obtain ⟨n1, uA⟩ : ∃ n, n = items.length := ⟨_, rfl⟩
   rw [<- uA] at g3
   have uB := Z0 rR
   have sM := Z0 rS
   have HT := Z0 ht
   have sN := Z0 rP
   have sO := Z0 rQ
   have HF := Z0 hF
   obtain ⟨CG, rT⟩ : ∃ c, c = Obj.cells #[.int .i64 lvl, .string nm, .int .i64 up, .slice ai n1 ci] 107 (0, 0) := ⟨_, rfl⟩
   have qS : Below wr.1.size wr (wr.alloc CG) := (Z9 _ _).alloc (Z1 _) _
   have sP : (wr.alloc CG).1.size = wr.1.size + 1 := Z6 _ _
   have q2 : (wr.alloc CG).cell? ⟨wr.1.size, 2, none⟩ = some (.int .i64 up) := by rw [rT]; exact Kaa _ _ 2 _ _ _ (Z02 wr _)
   clear rR rS ht rP rQ hF uA qN tZ qH hx
   rcases sL with rfl | ⟨u, hu, rfl⟩
   ·clear rT q2 qS sP
    go_wp2_with fail
    go_roundw
    case rel =>
     have e : Z2J (Z0n Gs) (k + 1) = Z2J (Z0n Gs) k := funext fun j => sM.out j (by omega)
     refine ⟨k + 1, by omega, by go_num, hB.alloc hB.size _, by simp; omega, (ZB _ _ _ (by omega)).trans HT.out, sN.out.alloc _, (ZB _ _ _ (by omega)).trans sO.out, F, ?_⟩
     rw [e]
     exact HF.out.below ((Z9 _ _).alloc (Z1 _) _)
    case measure => simp [intOf]; omega
   ·have qT := HF.out.below qS
    have vW : (wr.alloc CG).cell? ⟨w4.1.size, 2, none⟩ = some (.slice (some ⟨w4.1.size + 1, 0, none⟩) Gs.length Gs.length) := (qS.cell (p := ⟨w4.1.size, 2, none⟩) (by show w4.1.size < _; omega)).trans HT.out.c.2.2.1
    have rU := qT.row.cell hu
    have uC := qT.row.frozen u
    have vX := ZgE (Z0n Gs) k u
    have pM := qT.own u hu
    have uD : ∀ w' : World, w'.1[w4.1.size]? = (wr.alloc CG).1[w4.1.size]? -> w'.1[wr.1.size]? = (wr.alloc CG).1[wr.1.size]? -> w'.cell? ⟨w4.1.size, 2, none⟩ = some (.slice (some ⟨w4.1.size + 1, 0, none⟩) Gs.length Gs.length) /\ w'.cell? ⟨wr.1.size, 2, none⟩ = some (.int .i64 u) := fun w' h1 h2 =>
     ⟨(Kak (w := wr.alloc CG) h1).trans vW, (Kak (w := wr.alloc CG) h2).trans q2⟩
    have sQ : Below (wr.alloc CG).1.size (wr.alloc CG) ((wr.alloc CG).drew.alloc (.cells #[.int .i64 k] 3)) := (Z9 (wr.alloc CG).1.size (wr.alloc CG)).drew.alloc (Z1 _) _
    have vY : ((wr.alloc CG).alloc (.cells #[.int .i64 k] 3)).cell? ⟨w4.1.size + 1, u, none⟩ = some (F u) := (sQ.cell (p := ⟨w4.1.size + 1, u, none⟩) (by show w4.1.size + 1 < _; omega)).trans rU
    have pR := Z0 uD
    have rV := Z0 pM
    have uE := Z0 qT
    have pO := Z0 sQ
    obtain ⟨Fu, sR⟩ : ∃ f, f = F u := ⟨_, rfl⟩
    rw [<- sR] at rU vY rV
    have qU := Z0 sR
    obtain ⟨bn, sS⟩ : ∃ n, n = (Z2J (Z0n Gs) k u).length := ⟨_, rfl⟩
    rw [<- sS] at vX rV
    have uF := Z0 sS
    clear uD pM qT sQ sR sS
    go_upto_region 14 with fail
    rw [<- rT]
    clear rT
    have uG : ∀ w1 : World, ((wr.alloc CG).drew.alloc (.cells #[.int .i64 k] 3)).grownBy w1 Fu.ownBlock -> w1.1[w4.1.size]? = (wr.alloc CG).1[w4.1.size]? /\ w1.1[wr.1.size]? = (wr.alloc CG).1[wr.1.size]? /\ w1.1[w4.1.size + 1]? = (wr.alloc CG).1[w4.1.size + 1]? := fun w1 hg => by
     have pF : ∀ b, Fu.ownBlock = some b -> w4.1.size + 4 <= b /\ b < wr.1.size := fun b hb => by
      have h1 := HF.out.own u hu
      rw [<- qU.out] at h1
      exact h1.lt b hb
     have xD := pO.out.size
     refine ⟨(hg.block _ (by omega) (fun e => ?_)).trans (pO.out.block _ (by omega)), (hg.block _ (by omega) (fun e => ?_)).trans (pO.out.block _ (by omega)), (hg.block _ (by omega) (fun e => ?_)).trans (pO.out.block _ (by omega))⟩
     ·have := pF _ e.symm; omega
     ·have := pF _ e.symm; omega
     ·have := pF _ e.symm; omega
    have pP := Z0 uG
    clear uG
    refine wp_region_held_drew (S := fun w' => w'.cell? ⟨w4.1.size, 2, none⟩ = some (.slice (some ⟨w4.1.size + 1, 0, none⟩) Gs.length Gs.length) /\ w'.cell? ⟨wr.1.size, 2, none⟩ = some (.int .i64 u)) (by kernel_rfl) (pR.out _ rfl rfl) (fun pQ => ?_)
    refine wpAnyH_take (i := 0) (oi := ⟨some 56, _, _, _, _, _⟩) (v := ?v0) rfl (by kernel_rfl) (by kernel_rfl) (by kernel_rfl) (fun _ _ _ h => h) (Or.inl ⟨by kernel_rfl, ?y0⟩) pQ ?r0
    case' y0 => (intro w pB; (try dsimp only at pB); go_simp; (try with_reducible rfl))
    simp only [Act.put]
    refine wpAnyH_take (i := 1) (oi := ⟨some 57, _, _, _, _, _⟩) (v := ?v1) rfl (by kernel_rfl) (by kernel_rfl) (by kernel_rfl) (fun _ _ _ h => h) (Or.inl ⟨by kernel_rfl, ?y1⟩) pQ ?r1
    case' y1 => (intro w pB; (try dsimp only at pB); go_simp; (try with_reducible rfl))
    simp only [Act.put]
    refine wpAnyH_take (i := 2) (oi := ⟨some 58, _, _, _, _, _⟩) (v := ?v2) rfl (by kernel_rfl) (by kernel_rfl) (by kernel_rfl) (fun _ _ _ h => h) (Or.inl ⟨by kernel_rfl, ?y2⟩) pQ ?r2
    case' y2 => (intro w pB; (try dsimp only at pB); go_simp; (try with_reducible rfl))
    simp only [Act.put]
    refine wpAnyH_take (i := 3) (oi := ⟨some 59, _, _, _, _, _⟩) (v := ?v3) rfl (by kernel_rfl) (by kernel_rfl) (by kernel_rfl) (fun _ _ _ h => h) (Or.inl ⟨by kernel_rfl, ?y3⟩) pQ ?r3
    case' y3 => (intro w pB; (try dsimp only at pB); go_simp; (try with_reducible rfl))
    simp only [Act.put]
    refine wpAnyH_take (i := 4) (oi := ⟨some 60, _, _, _, _, _⟩) (v := ?v4) rfl (by kernel_rfl) (by kernel_rfl) (by kernel_rfl) (fun _ _ _ h => h) (Or.inl ⟨by kernel_rfl, ?y4⟩) pQ ?r4
    case' y4 => (intro w pB; (try dsimp only at pB); go_simp; (try with_reducible rfl))
    simp only [Act.put]
    refine wpAnyH_take (i := 5) (oi := ⟨some 61, _, _, _, _, _⟩) (v := ?v5) rfl (by kernel_rfl) (by kernel_rfl) (by kernel_rfl) (fun _ _ _ h => h) (Or.inl ⟨by kernel_rfl, ?y5⟩) pQ ?r5
    case' y5 => (intro w pB; (try dsimp only at pB); go_simp; (try with_reducible rfl))
    simp only [Act.put]
    refine wpAnyH_take (i := 6) (oi := ⟨some 62, _, _, _, _, _⟩) (v := ?v6) rfl (by kernel_rfl) (by kernel_rfl) (by kernel_rfl) (fun _ _ _ h => h) (Or.inl ⟨by kernel_rfl, ?y6⟩) pQ ?r6
    case' y6 => (intro w pB; (try dsimp only at pB); go_simp; (try with_reducible rfl))
    simp only [Act.put]
    refine wpAnyH_take (i := 7) (oi := ⟨some 63, _, _, _, _, _⟩) (v := ?v7) rfl (by kernel_rfl) (by kernel_rfl) (by kernel_rfl) (fun _ _ _ h => h) (Or.inl ⟨by kernel_rfl, ?y7⟩) pQ ?r7
    case' y7 => (intro w pB; (try dsimp only at pB); go_simp; (try with_reducible rfl))
    simp only [Act.put]
    refine wpAnyH_take (i := 8) (oi := ⟨some 64, _, _, _, _, _⟩) (v := ?v8) rfl (by kernel_rfl) (by kernel_rfl) (by kernel_rfl) (fun _ _ _ h => h) (Or.inl ⟨by kernel_rfl, ?y8⟩) pQ ?r8
    case' y8 => (intro w pB; (try dsimp only at pB); go_simp; (try with_reducible rfl))
    simp only [Act.put]
    refine wpAnyH_take (i := 10) (oi := ⟨some 66, _, _, _, _, _⟩) (v := ?v10) rfl (by kernel_rfl) (by kernel_rfl) (by kernel_rfl) (fun _ _ _ h => h) (Or.inl ⟨by kernel_rfl, ?y10⟩) pQ ?r10
    case' y10 => (intro w pB; (try dsimp only at pB); go_simp; (try with_reducible rfl))
    simp only [Act.put]
    refine wpAnyH_ready (rs := [9, 11]) (by kernel_rfl) (by simp) ?_
    refine AllReadyH.cons rfl (fun K hK => ?_) (AllReadyH.cons rfl (fun K hK => ?_) AllReadyH.nil)
    ·rw [if_pos (by kernel_rfl)]
     go_simp
     refine hK.out _ _ (pR.out _ rfl rfl) (fun pS => ?_)
     clear hK K
     try simp only [Act.put]
     refine wpAnyH_ready (rs := [11]) (by kernel_rfl) (by simp) ?_
     refine AllReadyH.cons rfl (fun K hK => ?_) AllReadyH.nil
     rw [if_pos (by kernel_rfl)]
     go_simp
     refine hK.out _ _ (pR.out _ (pO.out.block _ (by omega)) (pO.out.block _ (by omega))) (fun pS => ?_)
     clear hK K
     try simp only [Act.put]
     refine wpAnyH_ready (rs := [12]) (by kernel_rfl) (by simp) ?_
     refine AllReadyH.cons rfl (fun K hK => ?_) AllReadyH.nil
     refine step_append_lies _ (by rfl) _ _ _ (by rfl) (w4.1.size + 4) 3 j0 (.int .i64 0) 1 8 Tryz.underlying35 HJ.out.1 HJ.out.2.1 HJ.out.2.2.1 HJ.out.2.2.2 rfl (by omega) Fu bn _ (by rfl) ((rV.out.drew).alloc _) ⟨wr.1.size + 1, 0, none⟩ 1 1 [.int .i64 k] (by rfl) (by rfl) (World.news_of_block (cs := #[.int .i64 k]) (t := 3) (fr := (0, 0)) (by rw [<- sP]; exact heap_alloc_new _ _)) (by simp [Value.oneCell']) (by omega) (by unfold maxLen; omega) (by omega) (by simp; omega) _ rfl ?_
     intro gg9 cap9 w9 pI pA qI rW
     have pT := (pP.out w9 pA).2.2
     have c9 : w9.cell? ⟨w4.1.size + 1, u, none⟩ = some Fu := (Kak (w := wr.alloc CG) pT).trans rU
     have f9 : w9.frozen? ⟨w4.1.size + 1, u, none⟩ = false := (Kbj (w := wr.alloc CG) pT).trans uC
     have vZ := Z0 pT
     clear pT
     refine hK.out _ _ (pR.out _ (pP.out w9 pA).1 (pP.out w9 pA).2.1) (fun pS => ?_)
     clear hK K
     try simp only [Act.put]
     refine wpAnyH_take (i := 13) (oi := ⟨some 69, _, _, _, _, _⟩) (v := ?v13a) rfl (by kernel_rfl) (by kernel_rfl) (by kernel_rfl) (fun _ _ _ h => h) (Or.inl ⟨by kernel_rfl, ?y13a⟩) pS ?r13a
     case' y13a => (intro w pB; (try dsimp only at pB); go_simp; (try with_reducible rfl))
     simp only [Act.put]
     refine wpAnyH_ready (rs := [14]) (by kernel_rfl) (by simp) ?_
     refine AllReadyH.cons rfl (fun K hK => ?_) AllReadyH.nil
     rw [if_pos (by kernel_rfl)]
     go_simp
     refine hK.out _ _ (pR.out _ ((ZA _ _ _ _ (by show w4.1.size ≠ w4.1.size + 1; omega)).trans (pP.out w9 pA).1) ((ZA _ _ _ _ (by show wr.1.size ≠ w4.1.size + 1; omega)).trans (pP.out w9 pA).2.1)) (fun pS => ?_)
     clear hK K
     try simp only [Act.put]
     refine wpAnyH_done (by kernel_rfl) ?_ _
     go_wp2_with fail
     go_roundw
     case rel =>
      have pL : Below (wr.alloc CG).1.size (wr.alloc CG) ((wr.alloc CG).alloc (.cells #[.int .i64 k] 3)).drew := ((Z9 (wr.alloc CG).1.size (wr.alloc CG)).alloc (Z1 _) _).drew
      have sT := uE.out.below pL
      have pU : ((wr.alloc CG).alloc (.cells #[.int .i64 k] 3)).drew.grownBy w9 (F u).ownBlock := by rw [<- qU.out]; exact pA
      have pV : (F u).ownBlock = some gg9 \/ ((wr.alloc CG).alloc (.cells #[.int .i64 k] 3)).drew.1.size <= gg9 := by
       rw [<- qU.out]
       exact qI.imp id (fun h => by rw [h]; exact Z1 _)
      have qV := pI
      rw [uF.out] at qV ⊢
      have qW := sT.put hu (k : Int) (by omega) qV pU pV
      have hG : (fun i => if i = u then Z2J (Z0n Gs) k u ++ [(k : Int)] else Z2J (Z0n Gs) k i) = Z2J (Z0n Gs) (k + 1) := funext fun j => by
       by_cases e : j = u
       ·subst e
        rw [if_pos rfl, uB.out j rfl]
       ·rw [if_neg e, sM.out j (by omega)]
      rw [hG] at qW
      have pF : ∀ b, (F u).ownBlock = some b -> w4.1.size + 4 <= b := fun b hb => (HF.out.own u hu).lt b hb |>.1
      have wA : ((wr.alloc CG).alloc (.cells #[.int .i64 k] 3)).drew.1.size = wr.1.size + 2 := by
       show ((wr.alloc CG).alloc (.cells #[.int .i64 k] 3)).1.size = _
       rw [Z6, Z6]
      have qB : ∀ b, b < w4.1.size + 4 -> w9.1[b]? = wr.1[b]? := fun b hb =>
       (pU.block b (by omega) (fun e => by have := pF b e.symm; omega)).trans ((pL.block b (by omega)).trans (qS.block b (by omega)))
      refine ⟨k + 1, by omega, by go_num, ?_, ?_, ?_, ?_, ?_, _, qW⟩
      ·exact (((hB.alloc hB.size CG).trans (pL.mono (by omega))).grown pU (by omega) (fun r e => by have := pF r e; omega)).setCell (p := ⟨w4.1.size + 1, u, none⟩) (Kbd _) _
      ·have := pU.size
       simp [World.setCell]; omega
      ·exact (ZA _ _ _ _ (by show w4.1.size ≠ w4.1.size + 1; omega)).trans ((qB _ (by omega)).trans HT.out)
      ·exact (sN.out.of_block (qB _ (by omega))).setOther (by show w4.1.size + 2 ≠ w4.1.size + 1; omega) _
      ·exact (ZA _ _ _ _ (by show w4.1.size + 3 ≠ w4.1.size + 1; omega)).trans ((qB _ (by omega)).trans sO.out)
     case measure => simp [intOf]; omega
    ·rw [if_pos (by kernel_rfl)]
     go_simp
     refine hK.out _ _ (pR.out _ (pO.out.block _ (by omega)) (pO.out.block _ (by omega))) (fun pS => ?_)
     clear hK K
     try simp only [Act.put]
     refine wpAnyH_ready (rs := [9]) (by kernel_rfl) (by simp) ?_
     refine AllReadyH.cons rfl (fun K hK => ?_) AllReadyH.nil
     rw [if_pos (by kernel_rfl)]
     go_simp
     refine hK.out _ _ (pR.out _ (pO.out.block _ (by omega)) (pO.out.block _ (by omega))) (fun pS => ?_)
     clear hK K
     try simp only [Act.put]
     refine wpAnyH_ready (rs := [12]) (by kernel_rfl) (by simp) ?_
     refine AllReadyH.cons rfl (fun K hK => ?_) AllReadyH.nil
     refine step_append_lies _ (by rfl) _ _ _ (by rfl) (w4.1.size + 4) 3 j0 (.int .i64 0) 1 8 Tryz.underlying35 HJ.out.1 HJ.out.2.1 HJ.out.2.2.1 HJ.out.2.2.2 rfl (by omega) Fu bn _ (by rfl) ((rV.out.drew).alloc _) ⟨wr.1.size + 1, 0, none⟩ 1 1 [.int .i64 k] (by rfl) (by rfl) (World.news_of_block (cs := #[.int .i64 k]) (t := 3) (fr := (0, 0)) (by rw [<- sP]; exact heap_alloc_new _ _)) (by simp [Value.oneCell']) (by omega) (by unfold maxLen; omega) (by omega) (by simp; omega) _ rfl ?_
     intro gg9 cap9 w9 pI pA qI rW
     have pT := (pP.out w9 pA).2.2
     have c9 : w9.cell? ⟨w4.1.size + 1, u, none⟩ = some Fu := (Kak (w := wr.alloc CG) pT).trans rU
     have f9 : w9.frozen? ⟨w4.1.size + 1, u, none⟩ = false := (Kbj (w := wr.alloc CG) pT).trans uC
     have vZ := Z0 pT
     clear pT
     refine hK.out _ _ (pR.out _ (pP.out w9 pA).1 (pP.out w9 pA).2.1) (fun pS => ?_)
     clear hK K
     try simp only [Act.put]
     refine wpAnyH_take (i := 13) (oi := ⟨some 69, _, _, _, _, _⟩) (v := ?v13b) rfl (by kernel_rfl) (by kernel_rfl) (by kernel_rfl) (fun _ _ _ h => h) (Or.inl ⟨by kernel_rfl, ?y13b⟩) pS ?r13b
     case' y13b => (intro w pB; (try dsimp only at pB); go_simp; (try with_reducible rfl))
     simp only [Act.put]
     refine wpAnyH_ready (rs := [14]) (by kernel_rfl) (by simp) ?_
     refine AllReadyH.cons rfl (fun K hK => ?_) AllReadyH.nil
     rw [if_pos (by kernel_rfl)]
     go_simp
     refine hK.out _ _ (pR.out _ ((ZA _ _ _ _ (by show w4.1.size ≠ w4.1.size + 1; omega)).trans (pP.out w9 pA).1) ((ZA _ _ _ _ (by show wr.1.size ≠ w4.1.size + 1; omega)).trans (pP.out w9 pA).2.1)) (fun pS => ?_)
     clear hK K
     try simp only [Act.put]
     refine wpAnyH_done (by kernel_rfl) ?_ _
     go_wp2_with fail
     go_roundw
     case rel =>
      have pL : Below (wr.alloc CG).1.size (wr.alloc CG) ((wr.alloc CG).alloc (.cells #[.int .i64 k] 3)).drew := ((Z9 (wr.alloc CG).1.size (wr.alloc CG)).alloc (Z1 _) _).drew
      have sT := uE.out.below pL
      have pU : ((wr.alloc CG).alloc (.cells #[.int .i64 k] 3)).drew.grownBy w9 (F u).ownBlock := by rw [<- qU.out]; exact pA
      have pV : (F u).ownBlock = some gg9 \/ ((wr.alloc CG).alloc (.cells #[.int .i64 k] 3)).drew.1.size <= gg9 := by
       rw [<- qU.out]
       exact qI.imp id (fun h => by rw [h]; exact Z1 _)
      have qV := pI
      rw [uF.out] at qV ⊢
      have qW := sT.put hu (k : Int) (by omega) qV pU pV
      have hG : (fun i => if i = u then Z2J (Z0n Gs) k u ++ [(k : Int)] else Z2J (Z0n Gs) k i) = Z2J (Z0n Gs) (k + 1) := funext fun j => by
       by_cases e : j = u
       ·subst e
        rw [if_pos rfl, uB.out j rfl]
       ·rw [if_neg e, sM.out j (by omega)]
      rw [hG] at qW
      have pF : ∀ b, (F u).ownBlock = some b -> w4.1.size + 4 <= b := fun b hb => (HF.out.own u hu).lt b hb |>.1
      have wA : ((wr.alloc CG).alloc (.cells #[.int .i64 k] 3)).drew.1.size = wr.1.size + 2 := by
       show ((wr.alloc CG).alloc (.cells #[.int .i64 k] 3)).1.size = _
       rw [Z6, Z6]
      have qB : ∀ b, b < w4.1.size + 4 -> w9.1[b]? = wr.1[b]? := fun b hb =>
       (pU.block b (by omega) (fun e => by have := pF b e.symm; omega)).trans ((pL.block b (by omega)).trans (qS.block b (by omega)))
      refine ⟨k + 1, by omega, by go_num, ?_, ?_, ?_, ?_, ?_, _, qW⟩
      ·exact (((hB.alloc hB.size CG).trans (pL.mono (by omega))).grown pU (by omega) (fun r e => by have := pF r e; omega)).setCell (p := ⟨w4.1.size + 1, u, none⟩) (Kbd _) _
      ·have := pU.size
       simp [World.setCell]; omega
      ·exact (ZA _ _ _ _ (by show w4.1.size ≠ w4.1.size + 1; omega)).trans ((qB _ (by omega)).trans HT.out)
      ·exact (sN.out.of_block (qB _ (by omega))).setOther (by show w4.1.size + 2 ≠ w4.1.size + 1; omega) _
      ·exact (ZA _ _ _ _ (by show w4.1.size + 3 ≠ w4.1.size + 1; omega)).trans ((qB _ (by omega)).trans sO.out)
     case measure => simp [intOf]; omega
  ·obtain rfl : k = Gs.length := by omega
   have uH := RdGrps.below rO.out hB
   have uI : TreeW wr w4.1.size (w4.1.size + 1) (w4.1.size + 2) (w4.1.size + 3) (w4.1.size + 4) (.slice al ls.length cl) (.slice ag Gs.length cg) Gs (Z17 (Z0C ls) (Z0n Gs)) 0 (Z88 (fun _ => 0) Gs.length) := by
    refine ⟨ht, ⟨F, hF.row, fun g hg => ?_⟩, ⟨_, rP, fun g hg => absurd hg (Ka2 _)⟩, by rw [<- Zhb]; exact rQ, Z4z _ _, ⟨by omega, by omega, by omega, by omega, hz⟩, ⟨by omega, by omega, by omega, by omega, by omega, by omega⟩, uH⟩
    have := RowJ.of_rowI (hF.own g hg)
    have e := ZgF (Z0n Gs) g
    rw [Z1W] at e
    rw [e] at this
    exact this
   have uJ := Z0 uI
   clear uI uH ht rP rQ hF hz
   go_wp2_with fail
   go_loopw [73] (fun i wr => ∃ k : Nat, k <= Gs.length /\ i = .int .i64 k /\ Below w4.1.size w4 wr /\ TreeW wr w4.1.size (w4.1.size + 1) (w4.1.size + 2) (w4.1.size + 3) (w4.1.size + 4) (.slice al ls.length cl) (.slice ag Gs.length cg) Gs (Z17 (Z0C ls) (Z0n Gs)) k (Z88 (fun _ => 0) Gs.length)) (fun i _ => Gs.length - (intOf i).toNat)
   case atStart => exact ⟨0, ZE _, rfl, hB, uJ.out⟩
   case round =>
    clear hB uJ F
    obtain ⟨wo, wB⟩ : ∃ x, x = wr := ⟨_, rfl⟩
    subst wB
    obtain ⟨k, hk, rfl, hB, hT⟩ := hrel
    by_cases pD : k < Gs.length
    ·have uK := hT.lt
     have c3 := hT.tr.c.2.2.2.1
     have uL : ∀ W, Below wo.1.size wo W -> Calls Tryz.prog 63 #[.pointer (some ⟨w4.1.size, 0, none⟩), .int .i64 k] W fun e w' => ∃ a cap, e = .returned (.slice a (Z17 (Z0C ls) (Z0n Gs) k).length cap) /\ Below W.1.size W w' /\ RowJ w' (w4.1.size + 4) (.slice a (Z17 (Z0C ls) (Z0n Gs) k).length cap) (Z17 (Z0C ls) (Z0n Gs) k) := fun W hW =>
      Zey _ _ _ _ _ _ _ Gs _ k ls W (hT.below hW) qF.out.toForest2.toForest pD (by omega) (RdLevs.below (RdLevs.below tY.out hB) hW) (by omega) rE.out sF.out
     have wD := Z0 uL
     have HT := Z0 hT
     have xE := uK.2.2.2.2
     have uM : ∀ w', Below wo.1.size wo w' -> w'.cell? ⟨w4.1.size, 3, none⟩ = some (.slice (some ⟨w4.1.size + 2, 0, none⟩) Gs.length Gs.length) := fun w' hw => (hw.cell (p := ⟨w4.1.size, 3, none⟩) (by show w4.1.size < _; omega)).trans c3
     have sU := Z0 uM
     clear uL hT uM
     go_upto_region 19 with fail
     go_region_held3 (fun w' => w'.cell? ⟨w4.1.size, 3, none⟩ = some (.slice (some ⟨w4.1.size + 2, 0, none⟩) Gs.length Gs.length))
      (first
       | exact sU.out _ (Z9 wo.1.size wo).drew
       | exact sU.out _ qX
       | exact (Kak (w := w6) (ZA _ _ _ _ (by show w4.1.size ≠ w4.1.size + 2; omega))).trans (sU.out _ qX))
      (first
       | (go_at_call 63; refine (wD.out _ (Z9 wo.1.size wo).drew).mono ?_; rintro e w6 ⟨ta, tc, rfl, wE, wF⟩; have qX : Below wo.1.size wo w6 := (Z9 wo.1.size wo).drew.trans wE; obtain ⟨fT, k1, _⟩ := (HT.out.below qX).tb; have k6 := k1.cell pD; have f6 := k1.frozen k))
     all_goals
      go_wp2_with fail
      go_roundw
      case rel =>
       have wG : Below w4.1.size w4 w6 := Z01 hB hB.size qX
       have uN : Below w4.1.size w4 (w6.setCell ⟨w4.1.size + 2, k, none⟩ (.slice ta (Z17 (Z0C ls) (Z0n Gs) k).length tc)) := wG.setCell (p := ⟨w4.1.size + 2, k, none⟩) (by show w4.1.size <= w4.1.size + 2; omega) _
       exact ⟨k + 1, by omega, by go_num, uN, TreeW.put (HT.out.below qX) pD wF (RdGrps.below rO.out uN)⟩
      case measure => simp [intOf]; omega
    ·obtain rfl : k = Gs.length := by omega
     have HT := Z0 hT
     have pE := Z1W Gs
     clear hT
     have sV := Z4C rE.out
     have sW := Z9h sF.out
     have qY := qF.out.toForest2.toForest
     have sX : ∀ g, g < (Z0n Gs).length -> 0 < (Z0c (Z0n Gs) g).lvl -> MOk (Z0b (Z0C ls) (Z0n Gs) g) := fun g hg hl => ZeJ qY sV sW hg hl
     have wH := Z0 (Z8i qY sX)
     have wI := Z0 sX
     have pZ := Z0 qY
     have wJ := Z0 (fun g hg => (Z9J qY sV g hg).le (sW g hg))
     clear sV sW qY sX
     go_wp2_with fail
     go_loopw [12] (fun i wr => ∃ r : Nat, r <= Gs.length /\ i = .int .i64 ((r : Int) - 1) /\ Below w4.1.size w4 wr /\ TreeW wr w4.1.size (w4.1.size + 1) (w4.1.size + 2) (w4.1.size + 3) (w4.1.size + 4) (.slice al ls.length cl) (.slice ag Gs.length cg) Gs (Z17 (Z0C ls) (Z0n Gs)) Gs.length (Z88 (Z1L (Z0C ls) (Z0n Gs) (Z0D (Z0C ls) (Z0n Gs) (Z0n Gs).length) (Gs.length - r)) Gs.length)) (fun i _ => (intOf i + 1).toNat)
     case atStart => exact ⟨Gs.length, Z1 _, rfl, hB, by rw [Kb3]; exact HT.out⟩
     case round =>
      clear hB
      obtain ⟨wp, wK⟩ : ∃ x, x = wr := ⟨_, rfl⟩
      subst wK
      obtain ⟨r, hr, rfl, hB, hT⟩ := hrel
      rcases r with _ | g
      ·have uO : TreeW wp w4.1.size (w4.1.size + 1) (w4.1.size + 2) (w4.1.size + 3) (w4.1.size + 4) (.slice al ls.length cl) (.slice ag Gs.length cg) Gs (Z17 (Z0C ls) (Z0n Gs)) Gs.length (Z88 (Z13 (Z0C ls) (Z0n Gs)) Gs.length) := by
        have h1 := hT
        rw [Nat.sub_zero, <- pE] at h1
        unfold Z13
        rw [pE] at h1 ⊢
        exact h1
       have qZ := Zdb qF.out
       have sY := Zd4 pZ.out qZ
       have hq : ∀ g, g < Gs.length -> (Z1o (Z0n Gs) (Z13 (Z0C ls) (Z0n Gs)) g).length <= 2000 := fun g hg => by
        have hg' : g < (Z0n Gs).length := by rw [pE]; exact hg
        rw [(sY g hg').1]
        exact Kaw (ZkJ pZ.out (Z4C rE.out) qZ hg') (Z9h sF.out g hg')
       have uP := Zhp _ _ _ _ _ _ _ Gs _ (Z13 (Z0C ls) (Z0n Gs)) np (Z0C ls) wp uO pZ.out (by omega) (by omega) (fun g hg => by
        have hg' : g < (Z0n Gs).length := by rw [pE]; exact hg
        have h1 := (qZ g hg').nn
        have h2 := (Z2V pZ.out hg' (qZ g hg')).1.le
        rw [(sY g hg').1]
        unfold pN at h2
        omega) (fun g hg => by have := hq g hg; omega) (fun g hg i hi => by
        have hg' : g < (Z0n Gs).length := by rw [pE]; exact hg
        exact qF.out.range g hg' i (Z1N qF.out.toForest2 g hg' i hi))
       have wL := Z0 uP
       have xb := (hB.cell (p := ⟨w.1.size, 3, none⟩) (by show w.1.size < _; omega)).trans HX.out
       have uK := hT.lt
       clear uO hT qZ sY hq uP
       go_wp2_with (go_at_call 65; refine wL.out.mono ?_; rintro e w7 ⟨rfl, wM, wN⟩)
       go_ret2
       have sZ : Below w.1.size w wp := vS.out.trans (hB.mono vQ)
       refine ⟨wp.1.size, rfl, Z01 sZ sZ.size wM, sZ.size, ?_⟩
       rw [Z94, pE]
       exact wN
      ·have e1 : (((g + 1 : Nat) : Int) - 1) = (g : Int) := by omega
       rw [e1]
       have hg : g < Gs.length := by omega
       have hg' : g < (Z0n Gs).length := by rw [pE]; exact hg
       have qH := Z2F hg
       obtain ⟨z0, z1⟩ := pZ.out.lvl g hg'
       rw [qH] at z0 z1
       have z0' : 0 <= Gs[g].lvl := z0
       have z1' : Gs[g].lvl < ((Z0C ls).length : Int) := z1
       rw [Z3x] at z1'
       obtain ⟨lv, tB⟩ : ∃ lv : Nat, Gs[g].lvl = (lv : Int) := ⟨_, (Ka3 z0').symm⟩
       have qQ : lv < ls.length := by omega
       have uQ : MOk ((Z05 (Z0n Gs) g).map (Z17 (Z0C ls) (Z0n Gs))) := by
        by_cases h0 : 0 < (Z0c (Z0n Gs) g).lvl
        ·exact wI.out g hg' h0
        ·have wO : Z05 (Z0n Gs) g = [] := by
          rw [Kdm]
          intro h hh
          have h1 := pZ.out.sub g hg' h hh
          have h2 := (pZ.out.lvl h (by have := pZ.out.below g hg' h hh; omega)).1
          omega
         rw [wO]
         refine ⟨by simp, fun t ht => absurd ht (by simp), fun k hk => ?_⟩
         obtain rfl : k = 0 := by simpa using hk
         exact ⟨by simp [Z06], by simp [Z06], by simp [Z06]⟩
       have uR := wH.out (Gs.length - (g + 1)) (by omega) g hg'
       have uS := (wJ.out g hg').2.1
       have uT := Ze4 _ _ _ _ _ _ _ Gs _ _ g ls lv wp hT hg (by omega) (RdLevs.below tY.out hB) qQ tB (by omega) (rE.out _ (Z4 qQ)) uQ uR uS
       have tC := Z8j (Z0C ls) (Z0n Gs) (Z0D (Z0C ls) (Z0n Gs) (Z0n Gs).length) (Gs.length - (g + 1))
       rw [show (Z0n Gs).length - 1 - (Gs.length - (g + 1)) = g by rw [pE]; omega, show Gs.length - (g + 1) + 1 = Gs.length - g by omega, ZfK hg qQ tB] at tC
       have tD := Z0 tC
       have wP := Z0 uT
       have wQ := Z0 hT
       have xF := hT.lt
       clear tC uT hT uR uS uQ z0 z1 qH e1 tB
       go_wp2_with (go_at_call 64; refine wP.out.mono ?_; rintro e w6 ⟨⟨r, rfl⟩, uU, wR⟩)
       go_roundw
       case rel =>
        have uV : Below w4.1.size w4 w6 := hB.grown uU (by omega) (fun r e => by injection e; omega)
        refine ⟨g, by omega, by go_num, uV, ?_⟩
        rw [tD.out]
        exact TreeW.pass wQ.out uU wR (Z4z _ _) (RdGrps.below rO.out uV)
       case measure => simp [intOf]
end
section
open Go.RowKit
variable {ls : List Lev} {cs : List ByteArray}
def pf (zs : List Int) (i : Int) : Int := zs.getD i.toNat 0
theorem Zfe {zs : List Int} {i : Nat} (h : i < zs.length) : pf zs (i : Int) = zs[i] := by
 unfold pf
 rw [Kar, Z2, Z3 h]; rfl
theorem ZiR {zs : List Int} {x : Grp} (hr : ∀ i ∈ x.items, 0 <= i /\ i < (zs.length : Int)) : Z1e zs x x.items.length = takeN (pf zs) (pOf x) := by
 unfold Z1e takeN
 rw [Kas (Z1 _)]
 refine List.countP_congr (fun i hi => ?_)
 obtain ⟨a, b⟩ := hr i hi
 obtain ⟨j, rfl⟩ : ∃ j : Nat, i = (j : Int) := ⟨i.toNat, by omega⟩
 have hj : j < zs.length := by omega
 rw [Zfe hj, Kar, Z2, Z3 hj]
 exact Iff.rfl
theorem ZhG (ls : List Lev) (z : Int) : ZfA ls z = ((Z0C ls).getD z.toNat (0, 0)).1 := by
 unfold ZfA Z0C
 rw [Z2, Z2, Kal]
 cases ls[z.toNat]? <;> rfl
theorem Zix {g : Nat} (h : g < (Z16 ls cs ls.length).length) : Z0c (pG ls cs) g = pOf (Z16 ls cs ls.length)[g] := Z2F h
theorem Zem (h : Z0g ls = true) (hc : ∀ c ∈ cs, Z0G c = true) (hp : ∀ l ∈ ls, ∀ c ∈ cs, l.pre <= c.size) {zs : List Int} (hz : zs.length = cs.length) (hn : Z1j ls.length zs = true) :
 Z2o ls zs (Z16 ls cs ls.length) = true ↔ PlanOk (Z0C ls) (pG ls cs) (pf zs) := by
 have hF := Z9j h hc hp
 have tN : (pG ls cs).length = (Z16 ls cs ls.length).length := Z1W _
 have hg : ∀ g (hg : g < (Z16 ls cs ls.length).length), Z51 ls zs (Z16 ls cs ls.length)[g] = true ↔ (takeN (pf zs) (Z0c (pG ls cs) g) = 0 \/ (Z2L (Z0C ls) (pG ls cs) g).1 <= (takeN (pf zs) (Z0c (pG ls cs) g) : Int)) := fun g hg => by
  have hr := hF.range g (by omega)
  rw [Zix hg] at hr
  unfold Z51
  rw [ZiR (fun i hi => by have := hr i hi; omega), ZhG]
  unfold Z2L
  rw [Zix hg]
  simp only [Bool.not_eq_true', Bool.and_eq_false_iff, decide_eq_false_iff_not]
  show (¬ 0 < takeN (pf zs) (pOf (Z16 ls cs ls.length)[g]) \/ ¬ (takeN (pf zs) (pOf (Z16 ls cs ls.length)[g]) : Int) < ((Z0C ls).getD ((Z16 ls cs ls.length)[g].lvl).toNat (0, 0)).1) ↔ (takeN (pf zs) (pOf (Z16 ls cs ls.length)[g]) = 0 \/ ((Z0C ls).getD ((Z16 ls cs ls.length)[g].lvl).toNat (0, 0)).1 <= (takeN (pf zs) (pOf (Z16 ls cs ls.length)[g]) : Int))
  omega
 unfold Z2o
 rw [Kbk]
 constructor
 ·intro ha
  refine ⟨fun g h1 i hi => ?_, fun g h1 => (hg g (by omega)).1 (ha _ (Z4 (by omega)))⟩
  obtain ⟨a, b⟩ := hF.range g h1 i hi
  obtain ⟨j, rfl⟩ : ∃ j : Nat, i = (j : Int) := ⟨i.toNat, by omega⟩
  rw [Zfe (by omega), Z3x]
  exact Z72 hn j (by omega)
 ·intro ha x hx
  obtain ⟨g, h1, rfl⟩ := Kau.1 hx
  exact (hg g h1).2 (ha.enough g (by omega))
def Zbl (ls : List Lev) (cs : List ByteArray) : List Int := Zhq (Z0C ls) (pG ls cs) cs.length
theorem Z6V (ls : List Lev) (cs : List ByteArray) : (Zbl ls cs).length = cs.length := by
 unfold Zbl
 rw [Z94, Z5p, Kcb]
theorem Zhr (ls : List Lev) (cs : List ByteArray) : pf (Zbl ls cs) = Z6T (Z0C ls) (pG ls cs) cs.length := rfl
theorem Z8f (h : Z0g ls = true) (hc : ∀ c ∈ cs, Z0G c = true) (hp : ∀ l ∈ ls, ∀ c ∈ cs, l.pre <= c.size) : Z1j ls.length (Zbl ls cs) = true := by
 have hF := Z9j h hc hp
 refine Zad (fun k hk => ?_)
 have hk' : k < cs.length := by rw [Z6V] at hk; exact hk
 obtain ⟨g, h1, _, h3⟩ := hF.cover (k : Int) (by omega) (by omega)
 have := (Zct hF).num g h1 _ h3
 rw [<- Zhr, Zfe hk, Z3x] at this
 exact this
theorem Zhs (h : Z0g ls = true) (hc : ∀ c ∈ cs, Z0G c = true) (hp : ∀ l ∈ ls, ∀ c ∈ cs, l.pre <= c.size) : Z2o ls (Zbl ls cs) (Z16 ls cs ls.length) = true :=
 (Zem h hc hp (Z6V ls cs) (Z8f h hc hp)).2 (Zct (Z9j h hc hp))
theorem Z75 (hp : ∀ l ∈ ls, ∀ c ∈ cs, l.pre <= c.size) : cs.any (Z2R ls) = false := by
 rw [Kb4]
 intro c hc
 cases ls with
 | nil => simp [Z2R]
 | cons l r =>
  have := hp l Kaf c hc
  simp [Z2R]; omega
theorem Z1G (ps : List Pce) : (Z07 ps).length = ps.length := by unfold Z07; simp
theorem Z9D {m : Mai} (h : Z0g ls = true) (hm : Z2c m = true) (hp : ∀ l ∈ ls, ∀ c ∈ Z07 m.ps, l.pre <= c.size) {zs : List Int} (hz : zs.length = m.ps.length) (hn : Z1j ls.length zs = true) :
 Z28 ls m zs = (Z2o ls zs (Z16 ls (Z07 m.ps) ls.length), 0) := by
 unfold Z28
 rw [if_pos ⟨h, hm, hz, hn⟩, Z75 hp]
 rfl
end
section
open Go.RowKit Go.Sort
structure HasPlan (ls : List Lev) (m : Mai) : Prop where
 right : Z0g ls = true
 mail : Z2c m = true
 rng : 0 <= m.cls /\ m.cls <= 255 /\ 0 <= m.ctr /\ m.ctr <= 255
 org : m.origin.size <= maxLen
 pre : ∀ l ∈ ls, ∀ c ∈ Z07 m.ps, l.pre <= c.size
theorem HasPlan.few {ls : List Lev} {m : Mai} (h : HasPlan ls m) : m.ps.length <= 2000 := (Z1Q h.mail).1
theorem HasPlan.code {ls : List Lev} {m : Mai} (h : HasPlan ls m) : ∀ c ∈ Z07 m.ps, Z0G c = true := (Z8q h.mail).2
def Z3W (ls : List Lev) (m : Mai) : List Int := Zbl ls (Z07 m.ps)
theorem Z6U (ls : List Lev) (m : Mai) : (Z3W ls m).length = m.ps.length := by unfold Z3W; rw [Z6V, Z1G]
theorem HasPlan.nums {ls : List Lev} {m : Mai} (h : HasPlan ls m) : Z1j ls.length (Z3W ls m) = true := Z8f h.right h.code h.pre
theorem HasPlan.valid {ls : List Lev} {m : Mai} (h : HasPlan ls m) : Z28 ls m (Z3W ls m) = (true, 0) := by
 rw [Z9D h.right h.mail h.pre (Z6U ls m) h.nums]
 exact Kah (fun b => (b, (0 : Int))) (Zhs h.right h.code h.pre)
theorem Zf9 {ls : List Lev} {m : Mai} (h : HasPlan ls m) {v vp : Value} {w : World} (hr : RdLevs w v ls) (qK : RdPces w vp m.ps) :
 Calls Tryz.prog 27 #[v, Z2r m vp] w fun e w' => ∃ g, e = .returned (.tuple #[.slice (some ⟨g, 0, none⟩) m.ps.length m.ps.length, .int .i64 0]) /\ Below w.1.size w w' /\ w.1.size <= g /\ IntsAt w' g (Z3W ls m) := by
 have h1 := Zfb ls v vp m w hr h.right h.mail qK h.rng h.org h.pre
 unfold Z3W Zbl
 rw [Z1G]
 exact h1
theorem Z92 {w : World} {g n : Nat} {zs : List Int} (h : IntsAt w g zs) (hn : zs.length = n) : RdInts w (.slice (some ⟨g, 0, none⟩) n n) zs := by
 have := RowJ.rd (base := 0) (RowJ.of_ints h (ZE _) zs.length)
 rw [<- hn]
 exact this
theorem Z0H {w : World} {g : Nat} {a b c d : Value} {t : TypeId} {fr : Nat × Nat} (h : w.1[g]? = some (.cells #[a, b, c, d] t fr)) :
 w.cell? ⟨g, 0, none⟩ = some a /\ w.cell? ⟨g, 1, none⟩ = some b /\ w.cell? ⟨g, 2, none⟩ = some c /\ w.cell? ⟨g, 3, none⟩ = some d :=
 ⟨Kaa _ _ 0 _ _ _ h, Kaa _ _ 1 _ _ _ h, Kaa _ _ 2 _ _ _ h, Kaa _ _ 3 _ _ _ h⟩
end
section
open Go.RowKit
def p24 (id : Int) (x : UInt16) : Pce := ⟨id, 0, Z3J (UInt8.ofNat (x.toNat / 256)), 1 + ((x.toNat / 4 % 20 : Nat) : Int), decide (x.toNat % 2 = 1)⟩
def Z8z (l : List UInt16) : Int := (l.map (fun x => 1 + ((x.toNat % 3 : Nat) : Int))).sum
theorem Z7l (l : List UInt16) (x : UInt16) : Z8z (l ++ [x]) = Z8z l + (1 + ((x.toNat % 3 : Nat) : Int)) := by unfold Z8z; simp
theorem Z8y (l : List UInt16) : (l.length : Int) <= Z8z l /\ Z8z l <= 3 * l.length := by
 induction l with
 | nil => unfold Z8z; simp
 | cons x r ih =>
  unfold Z8z at ih ⊢
  simp only [Kan, Ka7, Ka9]
  have := Kcj x.toNat (show 0 < 3 by decide)
  omega
def Zbi (l : List UInt16) (k : Nat) : List Pce := (List.range k).map (fun i => p24 (Z8z (l.take (i + 1))) (l.getD i 0))
theorem Z2A (l : List UInt16) (k : Nat) : (Zbi l k).length = k := by unfold Zbi; simp
theorem Zf6 (l : List UInt16) {k : Nat} (h : k < l.length) : Zbi l (k + 1) = Zbi l k ++ [p24 (Z8z (l.take k) + (1 + ((l[k].toNat % 3 : Nat) : Int))) l[k]] := by
 unfold Zbi
 rw [Kaq, ZD, Kan, Kbe, Z8 h, Z7l, Z2, Z3 h]; rfl
def o24 : ByteArray := ⟨#[49, 48, 48, 50, 51]⟩
def Z04 (l : List UInt16) : Mai := ⟨1, 1, o24, Zbi l l.length⟩
theorem Zj4 (l : List UInt16) {k i : Nat} (h : i < (Zbi l k).length) : (Zbi l k)[i] = p24 (Z8z (l.take (i + 1))) (l.getD i 0) := by unfold Zbi; simp
theorem Zf7 (l : List UInt16) (hl : l.length <= 2000) : ∀ k, k <= l.length -> Zcw (Z8z (l.take (l.length - k))) ((Zbi l l.length).drop (l.length - k)) = true
 | 0, _ => by
  rw [Nat.sub_zero, List.drop_of_length_le (by rw [Z2A]; exact Z1 _)]; rfl
 | k + 1, hk => by
  have ih := Zf7 l hl k (by omega)
  have pD : l.length - (k + 1) < (Zbi l l.length).length := by rw [Z2A]; omega
  have wS : l.length - (k + 1) < l.length := by omega
  have e : l.length - (k + 1) + 1 = l.length - k := by omega
  rw [Kc7 pD, e]
  unfold Zcw
  rw [Zj4, e, ZF]
  have h1 := Z8y (l.take (l.length - k))
  rw [Kax] at h1
  have h2 : Z8z (l.take (l.length - k)) = Z8z (l.take (l.length - (k + 1))) + (1 + ((l[l.length - (k + 1)].toNat % 3 : Nat) : Int)) := by
   rw [<- e, Z8 wS, Z7l]
  refine ⟨?_, ih⟩
  unfold pcB p24
  simp only [ZF, Kab]
  have h3 : min (l.length - k) l.length = l.length - k := by omega
  rw [h3] at h1
  refine ⟨⟨by omega, by omega, by decide, by decide⟩, Zi4 _, by omega, ?_⟩
  have := Kcj ((l.getD (l.length - (k + 1)) 0).toNat / 4) (show 0 < 20 by decide)
  omega
theorem ZfG (l : List UInt16) (hl : l.length <= 2000) : Z2c (Z04 l) = true := by
 unfold Z2c Z04
 simp only [ZF, Kab]
 refine ⟨by decide, by kernel_rfl, by rw [Z2A]; exact hl, ?_⟩
 have := Zf7 l hl l.length (Z1 _)
 rw [Kb3, List.drop_zero, Kb5] at this
 exact this
theorem Zal (l : List UInt16) : ∀ c ∈ Z07 (Z04 l).ps, c.size = 5 := fun c hc => by
 unfold Z07 Z04 Zbi at hc
 dsimp only at hc
 rw [Kdd] at hc
 obtain ⟨i, _, rfl⟩ := Kae.1 hc
 exact Ze5 _
theorem Z5z (B : Bits) (low cents : List UInt8) (l : List UInt16) (hl : l.length <= 2000) : HasPlan (Z1O B low cents) (Z04 l) := by
 refine ⟨ZdQ _ _ _, ZfG l hl, ⟨by show (0 : Int) <= 1; decide, by show (1 : Int) <= 255; decide, by show (0 : Int) <= 1; decide, by show (1 : Int) <= 255; decide⟩, by show o24.size <= maxLen; decide, fun x hx c hc => ?_⟩
 have h1 := ZhK _ _ _ x hx
 have h2 := Zal l c hc
 omega
end
section
open Go.RowKit Go.Sort
theorem Tryz.infoPc : (Tryz.prog.info? 65).map (fun i => (i.zero, i.size, i.bytes)) = some (some (.agg #[.int .i64 0, .int .i64 0, .string ⟨#[]⟩, .int .i64 0, .bool false]), 5, 48) := by kernel_rfl
def pceC (p : Pce) : List Value := [.int .i64 p.id, .int .i64 p.point, .string p.code, .int .i64 p.grams, .bool p.barred]
def OwnsP (w : World) (base : Nat) (v : Value) (ps : List Pce) : Prop := w.ownsRow base 65 5 v ps.length (ps.flatMap pceC)
theorem ZcW (ps : List Pce) : ∀ (k j : Nat) (hk : k < ps.length), j < 5 -> (ps.flatMap pceC)[k * 5 + j]? = (pceC ps[k])[j]? := by
 induction ps with
 | nil => intro k j hk; simp at hk
 | cons p r ih =>
  intro k j hk hj
  have hl : (pceC p).length = 5 := rfl
  rw [Kao]
  cases k with
  | zero => rw [Ka6 (by omega)]; simp
  | succ k =>
   rw [Kaz (by omega), hl, show (k + 1) * 5 + j - 5 = k * 5 + j by omega]
   exact ih k j (by simpa using hk) hj
theorem RdPces.of_owns {w : World} {base : Nat} {v : Value} {ps : List Pce} (h : OwnsP w base v ps) : RdPces w v ps := by
 have h' : w.ownsRow base 65 5 v ps.length (ps.flatMap pceC) := h
 rcases Joins.ownsRow_forms h' with ⟨rfl, hp⟩ | ⟨g, cap, rfl⟩
 ·obtain rfl : ps = [] := Kag.1 hp
  exact ⟨none, 0, rfl, fun h => absurd h (by simp)⟩
 ·refine ⟨_, cap, rfl, fun _ => ⟨g, 0, rfl, (h'.lt g rfl).2, fun i hi => ?_⟩⟩
  have hc : ∀ j, j < 5 -> w.cell? ⟨g, 0 + i * 5 + j, none⟩ = (pceC ps[i])[j]? := fun j hj => by
   rw [Ka0, h'.cellAt (i * 5 + j) (by omega), ZcW ps i j hi hj]
  exact ⟨hc 0 (by omega), hc 1 (by omega), hc 2 (by omega), hc 3 (by omega), hc 4 (by omega)⟩
def Zak (i : Nat) (c : ByteArray) : Pce := ⟨1 + (i : Int), 0, c, 1 + (i : Int) % 20, false⟩
def Z79 (cs : List ByteArray) (k : Nat) : List Pce := (List.range k).map (fun i => Zak i (cs.getD i ⟨#[]⟩))
def Z8s (cs : List ByteArray) : Mai := ⟨1, 1, ⟨#[49, 48, 48, 48, 48]⟩, Z79 cs cs.length⟩
theorem Zbz (cs : List ByteArray) {k : Nat} (h : k < cs.length) : Z79 cs (k + 1) = Z79 cs k ++ [Zak k cs[k]] := by
 unfold Z79
 rw [Kaq, ZD, Kan, Kbe, Z2, Z3 h]; rfl
theorem Z8r (cs : List ByteArray) (k : Nat) : (Z79 cs k).length = k := by unfold Z79; simp
theorem Ziu {w : World} {g : Nat} {a b c d a' b' c' d' : Value} {t : TypeId} {fr : Nat × Nat} (h : w.1[g]? = some (.cells #[a, b, c, d] t fr)) :
 ((((w.setCell ⟨g, 0, none⟩ a').setCell ⟨g, 1, none⟩ b').setCell ⟨g, 2, none⟩ c').setCell ⟨g, 3, none⟩ d').1[g]? = some (.cells #[a', b', c', d'] t fr) := by
 simp [World.setCell, Kap, h]
theorem Z3O {w : World} {g base n : Nat} {v : Value} {xs : List Value} (h : w.ownsRow base 65 5 v n xs) (hg : g < base) (a b c d : Value) :
 ((((w.setCell ⟨g, 0, none⟩ a).setCell ⟨g, 1, none⟩ b).setCell ⟨g, 2, none⟩ c).setCell ⟨g, 3, none⟩ d).ownsRow base 65 5 v n xs := by
 have k : ∀ (W : World) (j : Nat) (u : Value), W.ownsRow base 65 5 v n xs -> (W.setCell ⟨g, j, none⟩ u).ownsRow base 65 5 v n xs := fun W j u ho => ho.kept (Z08 _ _ _) (by
  cases hb : v.ownBlock with
  | none => exact .inl rfl
  | some b =>
   refine .inr (fun e => ?_)
   injection e with e
   have := (ho.lt b hb).1
   have : b = g := e
   omega)
 exact k _ _ _ (k _ _ _ (k _ _ _ (k _ _ _ h)))
theorem OwnsP.mono {w : World} {base base' : Nat} {v : Value} {ps : List Pce} (h : OwnsP w base v ps) (hb : base' <= base) : OwnsP w base' v ps := by
 obtain ⟨h1, h2 | ⟨g, cap, cur, hv, h3, h4⟩⟩ := h
 ·exact ⟨h1, .inl h2⟩
 ·exact ⟨h1, .inr ⟨g, cap, cur, hv, Kaw hb h3, h4⟩⟩
theorem ZhJ (cs : List ByteArray) (vc : Value) (w : World) (hr : ReadsT w vc cs) (hl : cs.length <= 100000) :
 Calls Tryz.prog 59 #[vc] w fun e w' => ∃ vp, e = .returned (Z2r (Z8s cs) vp) /\ Below w.1.size w w' /\ OwnsP w' w.1.size vp (Z8s cs).ps := by
 obtain ⟨a, cap, rfl, pC⟩ := hr
 have tE := Z0 pC
 obtain ⟨i0, hi⟩ := info_parts Tryz.infoPc
 have HI := Z0 hi
 clear pC hi
 go_enter Tryz.func59, Tryz.ntmps59
 go_wp2_with fail
 go_loopw [9] (fun i wr => ∃ (k : Nat) (v : Value), k <= cs.length /\ i = .int .i64 k /\ Below w.1.size w wr /\ w.1.size + 2 <= wr.1.size /\ wr.1[w.1.size]? = some (.cells #[.int .u8 0, .int .u8 0, .string ⟨#[]⟩, .slice none 0 0] 34 (0, 0)) /\
  wr.1[w.1.size + 1]? = some (.cells #[.int .u8 1, .int .u8 1, .string ⟨#[49, 48, 48, 48, 48]⟩, v] 34 (0, 0)) /\ wr.ownsRow (w.1.size + 2) 65 5 v k ((Z79 cs k).flatMap pceC)) (fun i _ => cs.length - (intOf i).toNat)
 case atStart =>
  have hz : (w.alloc (.cells #[.int .u8 0, .int .u8 0, .string ⟨#[]⟩, .slice none 0 0] 34)).1.size = w.1.size + 1 := Z6 _ _
  refine ⟨0, .slice none 0 0, ZE _, rfl, ((Z9 _ w).alloc (Z1 _) _).alloc (by simp) _, by simp, (ZB _ _ _ (by omega)).trans (Z02 w _), ?_, Kbb _ _ _ _⟩
  have := Z02 (w.alloc (.cells #[.int .u8 0, .int .u8 0, .string ⟨#[]⟩, .slice none 0 0] 34)) (.cells #[.int .u8 1, .int .u8 1, .string ⟨#[49, 48, 48, 48, 48]⟩, .slice none 0 0] 34)
  rw [hz] at this
  exact this
 case round =>
  obtain ⟨k, v, hk, rfl, hB, hz, h0, h1, hO⟩ := hrel
  have b0 := Kaa wr (w.1.size + 1) 0 _ _ _ h1
  have b1 := Kaa wr (w.1.size + 1) 1 _ _ _ h1
  have b2 := Kaa wr (w.1.size + 1) 2 _ _ _ h1
  have b3 := Kaa wr (w.1.size + 1) 3 _ _ _ h1
  have f3 : wr.frozen? ⟨w.1.size + 1, 3, none⟩ = false := by simp [World.frozen?, h1]
  simp only [List.getElem?_toArray, List.getElem?_cons_zero, Kdf] at b0 b1 b2 b3
  have H0 := Z0 h0
  have H1 := Z0 h1
  by_cases pD : k < cs.length
  ·obtain ⟨g, off, rfl, hg, pV⟩ := tE.out (by omega)
   have e1 : wr.cell? ⟨g, off + k, none⟩ = some (.string cs[k]) := (hB.cell (p := ⟨g, off + k, none⟩) hg).trans (pV k pD)
   have qA := Zbz cs pD
   obtain ⟨c, hc⟩ : ∃ c, c = cs[k] := ⟨_, rfl⟩
   rw [<- hc] at e1 qA
   have rX := Z0 qA
   have HO := Z0 hO
   have pF : ∀ b, v.ownBlock = some b -> w.1.size + 2 <= b := fun b hb => (hO.lt b hb).1
   have uW : ∀ (X : Obj) (w9 : World), (wr.alloc X).grownBy w9 v.ownBlock -> ∀ b, b < w.1.size + 2 -> w9.1[b]? = wr.1[b]? := fun X w9 hg b hb =>
    (hg.block b (by rw [Z6]; omega) (fun e => by have := pF b e.symm; omega)).trans (ZB _ _ _ (by omega))
   have uX := Z0 uW
   have rA := Z0 pF
   have xG : (k : Int).tmod 20 = (k : Int) % 20 := Kbn (Kce k)
   have tF : 0 <= (k : Int) % 20 /\ (k : Int) % 20 < 20 := ⟨Int.emod_nonneg _ (by omega), Int.emod_lt_of_pos _ (by omega)⟩
   clear pV hc qA h0 h1 uW pF
   rcases Joins.ownsRow_forms hO with ⟨rfl, pE⟩ | ⟨g2, cap2, rfl⟩
   ·have wT := Z0 pE
    clear pE
    clear hO
    go_wp2_with (at_builtin; refine wpList_append_lies _ rfl _ _ 32 rfl (w.1.size + 2) 65 i0 (.agg #[.int .i64 0, .int .i64 0, .string ⟨#[]⟩, .int .i64 0, .bool false]) 5 48 Tryz.underlying32 HI.out.1 HI.out.2.1 HI.out.2.2.1 HI.out.2.2.2 rfl (by decide) _ k _ rfl (HO.out.alloc _) ⟨wr.1.size, 0, none⟩ 1 1 (pceC (Zak k c)) rfl rfl (Z0f wr (pceC (Zak k c)) _) (by simp [pceC, Value.oneCell']) (by decide) (by unfold maxLen; omega) (by omega) (by simp; omega) _ rfl ?_; intro g9 cap9 w9 pI pA qI rW; have pW := uX.out _ w9 pA; have e3 : w9.cell? ⟨w.1.size + 1, 3, none⟩ = some _ := (Kak (w := wr) (pW (w.1.size + 1) (by omega))).trans b3; have f9 : w9.frozen? ⟨w.1.size + 1, 3, none⟩ = false := (Kbj (w := wr) (pW (w.1.size + 1) (by omega))).trans f3; have pX := Z0 pW; clear pW)
    go_roundw
    case rel =>
     have h9 : w9.1[w.1.size + 1]? = _ := (pX.out _ (by omega)).trans H1.out
     refine ⟨k + 1, .slice (some ⟨g9, 0, none⟩) (k + 1) cap9, by omega, by go_num, ?_, ?_, ?_, ?_, ?_⟩
     ·exact ((hB.alloc hB.size _).grown pA (by have := hB.size; simp; omega) (fun r e => by have := rA.out r e; omega)).setCell (p := ⟨w.1.size + 1, 3, none⟩) (Kbd _) _
     ·have := pA.size
      simp [World.setCell] at this ⊢; omega
     ·exact (ZA _ _ _ _ (by show w.1.size ≠ w.1.size + 1; omega)).trans ((pX.out _ (by omega)).trans H0.out)
     ·show (w9.1.modify (w.1.size + 1) _)[w.1.size + 1]? = _
      rw [Kap, if_pos rfl, h9]
      rfl
     ·rw [rX.out, Kai, Kao, Kct, Ka1]
      exact pI.kept (Z08 _ _ _) (.inr (by show some g9 ≠ some (w.1.size + 1); have := (pI.lt g9 rfl).1; intro e; injection e; omega))
    case measure => simp [intOf]; omega
   ·clear hO
    go_wp2_with (at_builtin; refine wpList_append_lies _ rfl _ _ 32 rfl (w.1.size + 2) 65 i0 (.agg #[.int .i64 0, .int .i64 0, .string ⟨#[]⟩, .int .i64 0, .bool false]) 5 48 Tryz.underlying32 HI.out.1 HI.out.2.1 HI.out.2.2.1 HI.out.2.2.2 rfl (by decide) _ k _ rfl (HO.out.alloc _) ⟨wr.1.size, 0, none⟩ 1 1 (pceC (Zak k c)) rfl rfl (Z0f wr (pceC (Zak k c)) _) (by simp [pceC, Value.oneCell']) (by decide) (by unfold maxLen; omega) (by omega) (by simp; omega) _ rfl ?_; intro g9 cap9 w9 pI pA qI rW; have pW := uX.out _ w9 pA; have e3 : w9.cell? ⟨w.1.size + 1, 3, none⟩ = some _ := (Kak (w := wr) (pW (w.1.size + 1) (by omega))).trans b3; have f9 : w9.frozen? ⟨w.1.size + 1, 3, none⟩ = false := (Kbj (w := wr) (pW (w.1.size + 1) (by omega))).trans f3; have pX := Z0 pW; clear pW)
    go_roundw
    case rel =>
     have h9 : w9.1[w.1.size + 1]? = _ := (pX.out _ (by omega)).trans H1.out
     refine ⟨k + 1, .slice (some ⟨g9, 0, none⟩) (k + 1) cap9, by omega, by go_num, ?_, ?_, ?_, ?_, ?_⟩
     ·exact ((hB.alloc hB.size _).grown pA (by have := hB.size; simp; omega) (fun r e => by have := rA.out r e; omega)).setCell (p := ⟨w.1.size + 1, 3, none⟩) (Kbd _) _
     ·have := pA.size
      simp [World.setCell] at this ⊢; omega
     ·exact (ZA _ _ _ _ (by show w.1.size ≠ w.1.size + 1; omega)).trans ((pX.out _ (by omega)).trans H0.out)
     ·show (w9.1.modify (w.1.size + 1) _)[w.1.size + 1]? = _
      rw [Kap, if_pos rfl, h9]
      rfl
     ·rw [rX.out, Kai, Kao, Kct, Ka1]
      exact pI.kept (Z08 _ _ _) (.inr (by show some g9 ≠ some (w.1.size + 1); have := (pI.lt g9 rfl).1; intro e; injection e; omega))
    case measure => simp [intOf]; omega
  ·obtain rfl : k = cs.length := by omega
   have z0 := Kaa wr w.1.size 0 _ _ _ h0
   have z1 := Kaa wr w.1.size 1 _ _ _ h0
   have z2 := Kaa wr w.1.size 2 _ _ _ h0
   have z3 := Kaa wr w.1.size 3 _ _ _ h0
   simp only [List.getElem?_toArray, List.getElem?_cons_zero, Kdf] at z0 z1 z2 z3
   have y : ∀ j, wr.frozen? ⟨w.1.size, j, none⟩ = false := fun j => by simp [World.frozen?, h0]
   have y0 := y 0
   have y1 := y 1
   have y2 := y 2
   have y3 := y 3
   have HO := Z0 hO
   have rY := Z0 h0
   clear y h0 h1
   rcases Joins.ownsRow_forms hO with ⟨rfl, pE⟩ | ⟨g2, cap2, rfl⟩
   ·have wT := Z0 pE
    clear pE hO
    go_wp2_with fail
    refine bodyPost_ret (results_cell_row rfl _ _ w.1.size 34 _ (0, 0) _ rfl (Ziu rY.out) Tryz.underlying34 rfl (by kernel_rfl)) rfl ?_
    refine ⟨_, rfl, (((hB.setCell (p := ⟨w.1.size, 0, none⟩) (Z1 _) _).setCell (p := ⟨w.1.size, 1, none⟩) (Z1 _) _).setCell (p := ⟨w.1.size, 2, none⟩) (Z1 _) _).setCell (p := ⟨w.1.size, 3, none⟩) (Z1 _) _, ?_⟩
    have ho : OwnsP wr (w.1.size + 2) (.slice none 0 0) (Z8s cs).ps := by
     unfold OwnsP Z8s
     dsimp only
     rw [Z8r]
     exact HO.out
    exact OwnsP.mono (Z3O ho (by omega) _ _ _ _) (Kbr _ _)
   ·clear hO
    go_wp2_with fail
    refine bodyPost_ret (results_cell_row rfl _ _ w.1.size 34 _ (0, 0) _ rfl (Ziu rY.out) Tryz.underlying34 rfl (by kernel_rfl)) rfl ?_
    refine ⟨_, rfl, (((hB.setCell (p := ⟨w.1.size, 0, none⟩) (Z1 _) _).setCell (p := ⟨w.1.size, 1, none⟩) (Z1 _) _).setCell (p := ⟨w.1.size, 2, none⟩) (Z1 _) _).setCell (p := ⟨w.1.size, 3, none⟩) (Z1 _) _, ?_⟩
    have ho : OwnsP wr (w.1.size + 2) (.slice (some ⟨g2, 0, none⟩) cs.length cap2) (Z8s cs).ps := by
     unfold OwnsP Z8s
     dsimp only
     rw [Z8r]
     exact HO.out
    exact OwnsP.mono (Z3O ho (by omega) _ _ _ _) (Kbr _ _)
def RdU16 (w : World) (v : Value) (l : List UInt16) : Prop :=
 ∃ a cap, v = .slice a l.length cap /\ (0 < l.length -> ∃ g off, a = some ⟨g, off, none⟩ /\ g < w.1.size /\ ∀ i (h : i < l.length), w.cell? ⟨g, off + i, none⟩ = some (.int .u16 (l[i].toNat : Int)))
theorem RdU16.below {w w' : World} {v : Value} {zs : List UInt16} (h : RdU16 w v zs) (hb : Below w.1.size w w') : RdU16 w' v zs := by
 obtain ⟨a, cap, hv, hc⟩ := h
 exact ⟨a, cap, hv, fun h0 => by
  obtain ⟨g, off, ha, hg, pC⟩ := hc h0
  exact ⟨g, off, ha, ZH hg hb.size, fun i h => (hb.cell (p := ⟨g, off + i, none⟩) hg).trans (pC i h)⟩⟩
def Z7H (w : World) (v : Value) (l : List UInt16) : Prop := RdU16 w v l /\ (v = .slice none 0 0 \/ ∃ b off spot cap, v = .slice (some ⟨b, off, spot⟩) l.length cap /\ l.length <= cap)
theorem RdU16.take {w : World} {a : Option Addr} {n cap : Nat} {bs : List UInt16} (h : RdU16 w (.slice a n cap) bs) {k cap' : Nat} (hk : k <= bs.length) : RdU16 w (.slice a k cap') (bs.take k) := by
 obtain ⟨a', c', hv, hc⟩ := h
 injection hv with h1 h2 h3
 subst h1
 refine ⟨a, cap', by rw [Kax, Kcp hk], fun h0 => ?_⟩
 rw [Kax] at h0
 obtain ⟨g, off, ha, hg, pC⟩ := hc (by omega)
 exact ⟨g, off, ha, hg, fun i hi => by rw [Kax] at hi; rw [pC i (by omega), List.getElem_take]⟩
theorem Zc4 (a : Nat) (ha : a < 65536) : bits .and .i64 (a : Int) 1 = ((a % 2 : Nat) : Int) := by
 have h1 : (BitVec.ofInt 64 (a : Int)).toNat = a := by
  rw [BitVec.ofInt_natCast, BitVec.toNat_ofNat]; exact Kcv (by omega)
 have h2 : (BitVec.ofInt 64 (1 : Int)).toNat = 1 := by decide
 show IntKind.i64.wrap ((BitVec.ofInt 64 (a : Int) &&& BitVec.ofInt 64 1).toNat : Int) = _
 rw [BitVec.toNat_and, h1, h2, Nat.and_one_is_mod]
 have := Kcj a (show 0 < 2 by decide)
 simp [IntKind.wrap, IntKind.bits, IntKind.signed]; omega
theorem Zgk (x : UInt8) {wr : World} (W : World) (hb : Below wr.1.size wr W) (hc : W.1[wr.1.size]? = some (.cells #[.int .u8 (x.toNat : Int)] 5 (0, 0))) :
 Calls Tryz.prog 62 #[.slice (some ⟨wr.1.size, 0, none⟩) 1 1] W fun e w' => ∃ g cap, e = .returned (.slice (some ⟨g, 0, none⟩) 1 cap) /\ Below wr.1.size wr w' /\ w'.cell? ⟨g, 0, none⟩ = some (.string (Z3J x)) := by
 have hz := (Z5.1 hc).1
 refine (Zgl [x] _ _ ⟨some ⟨wr.1.size, 0, none⟩, 1, rfl, fun _ => ⟨_, 0, rfl, by omega, fun i hi => ?_⟩⟩ (by simp [maxLen])).mono ?_
 ·obtain rfl : i = 0 := by simp at hi; exact hi
  exact Kaa _ _ 0 _ _ _ hc
 ·rintro e w' ⟨v, rfl, rI, ho⟩
  have ho' : w'.ownsRow _ 9 1 v 1 [.string (Z3J x)] := ho
  rcases Joins.ownsRow_forms ho' with ⟨rfl, hp⟩ | ⟨g, cap, rfl⟩
  ·exact absurd hp (by decide)
  ·exact ⟨g, cap, rfl, hb.trans (rI.mono hb.size), by rw [ho'.cellAt 0 (by decide)]; rfl⟩
theorem ZdP (l : List UInt16) (vl : Value) (w : World) (hr : RdU16 w vl l) (hl : l.length <= 2000) :
 Calls Tryz.prog 26 #[.int .u8 0, vl] w fun e w' => ∃ ap cp, e = .returned (Z2r (Z04 l) (.slice ap l.length cp)) /\ Below w.1.size w w' /\ OwnsP w' w.1.size (.slice ap l.length cp) (Z04 l).ps := by
 obtain ⟨a, cap, rfl, pC⟩ := hr
 have tE := Z0 pC
 obtain ⟨i0, hi⟩ := info_parts Tryz.infoPc
 have HI := Z0 hi
 clear pC hi
 go_enter Tryz.func26, Tryz.ntmps26
 go_wp2_with fail
 go_loopw [6, 7] (fun z i wr => ∃ (k : Nat) (v : Value), k <= l.length /\ z = .int .i64 (Z8z (l.take k)) /\ i = .int .i64 k /\ Below w.1.size w wr /\ w.1.size + 2 <= wr.1.size /\ wr.1[w.1.size]? = some (.cells #[.int .u8 0, .int .u8 0, .string ⟨#[]⟩, .slice none 0 0] 34 (0, 0)) /\
  wr.1[w.1.size + 1]? = some (.cells #[.int .u8 1, .int .u8 1, .string ⟨#[49, 48, 48, 50, 51]⟩, v] 34 (0, 0)) /\ wr.ownsRow (w.1.size + 2) 65 5 v k ((Zbi l k).flatMap pceC)) (fun _ i _ => l.length - (intOf i).toNat)
 case atStart =>
  have hz : (w.alloc (.cells #[.int .u8 0, .int .u8 0, .string ⟨#[]⟩, .slice none 0 0] 34)).1.size = w.1.size + 1 := Z6 _ _
  refine ⟨0, .slice none 0 0, ZE _, rfl, rfl, ((Z9 _ w).alloc (Z1 _) _).alloc (by simp) _, by simp, (ZB _ _ _ (by omega)).trans (Z02 w _), ?_, Kbb _ _ _ _⟩
  have := Z02 (w.alloc (.cells #[.int .u8 0, .int .u8 0, .string ⟨#[]⟩, .slice none 0 0] 34)) (.cells #[.int .u8 1, .int .u8 1, .string ⟨#[49, 48, 48, 50, 51]⟩, .slice none 0 0] 34)
  rw [hz] at this
  exact this
 case round =>
  obtain ⟨k, v, hk, rfl, rfl, hB, hz, h0, h1, hO⟩ := hrel
  have H0 := Z0 h0
  have H1 := Z0 h1
  by_cases pD : k < l.length
  ·obtain ⟨g, off, rfl, hg, pV⟩ := tE.out (by omega)
   have e1 : wr.cell? ⟨g, off + k, none⟩ = some (.int .u16 (l[k].toNat : Int)) := (hB.cell (p := ⟨g, off + k, none⟩) hg).trans (pV k pD)
   have qA := Zf6 l pD
   have hid : Z8z (l.take (k + 1)) = Z8z (l.take k) + (1 + ((l[k].toNat % 3 : Nat) : Int)) := by rw [Z8 pD, Z7l]
   have wU := Z8y (l.take k)
   rw [Kax, Kcp hk] at wU
   obtain ⟨x, hx⟩ : ∃ x, x = l[k] := ⟨_, rfl⟩
   rw [<- hx] at e1 qA hid
   have uY : x.toNat < 65536 := x.toNat_lt
   have h3 : ((x.toNat : Int)).tmod 3 = ((x.toNat % 3 : Nat) : Int) := by rw [Kbn (Kce _)]; rfl
   have wV : x.toNat % 3 < 3 := Kcj _ (by decide)
   have h8 : (x.toNat : Int) / 256 = ((UInt8.ofNat (x.toNat / 256)).toNat : Int) := by rw [UInt8.toNat_ofNat']; omega
   have wW : (UInt8.ofNat (x.toNat / 256)).toNat < 256 := UInt8.toNat_lt _
   have uZ : ((x.toNat : Int) / 4).tmod 20 = ((x.toNat / 4 % 20 : Nat) : Int) := by rw [Kbn (by omega)]; rfl
   have wX : x.toNat / 4 % 20 < 20 := Kcj _ (by decide)
   have vA := Zc4 x.toNat uY
   have vB : (0 < x.toNat % 2) ↔ x.toNat % 2 = 1 := by omega
   obtain ⟨P, hP⟩ : ∃ P, P = p24 (Z8z (l.take k) + (1 + ((x.toNat % 3 : Nat) : Int))) x := ⟨_, rfl⟩
   rw [<- hP] at qA
   have rZ := fun W => Zgk (UInt8.ofNat (x.toNat / 256)) (wr := wr) W
   obtain ⟨cc, pC⟩ : ∃ c, c = Z3J (UInt8.ofNat (x.toNat / 256)) := ⟨_, rfl⟩
   rw [<- pC] at rZ
   have qJ : pceC P = [.int .i64 (Z8z (l.take k) + (1 + ((x.toNat % 3 : Nat) : Int))), .int .i64 0, .string cc, .int .i64 (1 + ((x.toNat / 4 % 20 : Nat) : Int)), .bool (decide (x.toNat % 2 = 1))] := by rw [hP, pC]; rfl
   obtain ⟨m3, vC⟩ : ∃ z, z = x.toNat % 3 := ⟨_, rfl⟩
   obtain ⟨m8, vD⟩ : ∃ z, z = (UInt8.ofNat (x.toNat / 256)).toNat := ⟨_, rfl⟩
   obtain ⟨m20, vE⟩ : ∃ z, z = x.toNat / 4 % 20 := ⟨_, rfl⟩
   obtain ⟨m2, tF⟩ : ∃ z, z = x.toNat % 2 := ⟨_, rfl⟩
   rw [<- vC] at hid h3 wV qJ
   rw [<- vD] at h8 wW rZ
   rw [<- vE] at uZ wX qJ
   rw [<- tF] at vA vB qJ
   have xH : m2 < 2 := by omega
   have xI : IntKind.u8.wrap (m8 : Int) = (m8 : Int) := by simp [IntKind.wrap, IntKind.bits, IntKind.signed]; omega
   have wY : decide (0 < m2) = decide (m2 = 1) := by
    by_cases h : m2 = 1
    ·rw [h]; rfl
    ·rw [show m2 = 0 by omega]; rfl
   have xJ : IntKind.i64.wrap (1 + (m20 : Int)) = 1 + (m20 : Int) := by simp [IntKind.wrap, IntKind.bits, IntKind.signed]; omega
   obtain ⟨bb, vF⟩ : ∃ b, b = decide (m2 = 1) := ⟨_, rfl⟩
   rw [<- vF] at wY qJ
   obtain ⟨X, hX⟩ : ∃ X, X = x.toNat := ⟨_, rfl⟩
   rw [<- hX] at h3 h8 uZ vA e1 uY
   have qD := Z0 rZ
   have rX := Z0 qA
   have wZ := Z0 hid
   have HO := Z0 hO
   have vG := Z0 qJ
   clear pV qA hid hO vC vD vE tF vF pC hP vB hX hx rZ h0 h1 qJ
   have tG : ∀ W, Below wr.1.size wr W -> W.cell? ⟨w.1.size + 1, 3, none⟩ = some v /\ W.frozen? ⟨w.1.size + 1, 3, none⟩ = false := fun W hW => by
    have h1 := (hW.block (w.1.size + 1) (by omega)).trans H1.out
    exact ⟨Kaa _ _ 3 _ _ _ h1, by simp [World.frozen?, h1]⟩
   have tH := Z0 tG
   obtain ⟨b3, f3⟩ := tG wr (Z9 _ _)
   obtain ⟨va, vc, rfl⟩ := Z0F HO.out
   have rA : Hid (∀ b, (Value.slice va k vc).ownBlock = some b -> w.1.size + 2 <= b) := fun b hb => (HO.out.lt b hb).1
   have tD : Hid (∀ w9 : World, (∀ b, b < w.1.size + 2 -> w9.1[b]? = wr.1[b]?) -> w9.cell? ⟨w.1.size + 1, 3, none⟩ = some (.slice va k vc) /\ w9.frozen? ⟨w.1.size + 1, 3, none⟩ = false) := fun w9 h9 => by
    have h1 := (h9 (w.1.size + 1) (by omega)).trans H1.out
    exact ⟨Kaa _ _ 3 _ _ _ h1, by simp [World.frozen?, h1]⟩
   have xK : (wr.alloc (.cells #[.int .u8 (m8 : Int)] 5)).cell? ⟨w.1.size + 1, 3, none⟩ = some (.slice va k vc) := (tH.out _ ((Z9 _ wr).alloc (Z1 _) _)).1
   clear tG
   go_wp2_with fail
   go_region_law (first | (refine step_append_lies _ (by rfl) _ _ _ (by rfl) (w.1.size + 2) 65 i0 (.agg #[.int .i64 0, .int .i64 0, .string ⟨#[]⟩, .int .i64 0, .bool false]) 5 48 Tryz.underlying32 HI.out.1 HI.out.2.1 HI.out.2.2.1 HI.out.2.2.2 rfl (by decide) (.slice va k vc) k _ (by rfl) (by first | exact ((Z09 HO.out pJ).alloc _).drew | exact (Z09 HO.out pJ).drew.alloc _) ⟨wC.1.size, 0, none⟩ 1 1 (pceC P) (by rfl) (by rfl) (by rw [vG.out]; exact Z0f wC _ _) (by rw [vG.out]; simp [Value.oneCell']) (by omega) (by unfold maxLen; omega) (by omega) (by have := pJ.size; show _ <= (wC.alloc _).1.size; rw [Z6]; omega) _ rfl ?_; intro g9 cap9 w9 pI pA qI rW; have pX : Hid (∀ b, b < w.1.size + 2 -> w9.1[b]? = wr.1[b]?) := (fun b hb => (pA.block b (by have := pJ.size; show b < (wC.alloc _).1.size; rw [Z6]; omega) (fun e => by have := rA.out b e.symm; omega)).trans ((show (wC.alloc _).1[b]? = _ from ZB _ _ _ (by have := pJ.size; omega)).trans (pJ.block b (by omega)))); obtain ⟨e9, f9⟩ := tD.out w9 pX.out) | (go_simp; go_at_call 62; refine (qD.out _ (by first | exact ((Z9 _ wr).alloc (Z1 _) _).drew | exact (Z9 _ wr).drew.alloc (Z1 _) _) (by exact Z02 wr _)).mono ?_; rintro e wC ⟨gC, cC, rfl, pJ, xL⟩; obtain ⟨bC3, fC3⟩ := tH.out wC pJ; have xM : (wC.alloc (.cells #[.int .i64 (Z8z (l.take k) + (1 + (m3 : Int))), .int .i64 0, .string cc, .int .i64 (1 + (m20 : Int)), .bool bb] 65)).cell? ⟨w.1.size + 1, 3, none⟩ = some (.slice va k vc) := (tH.out _ (pJ.alloc pJ.size _)).1))
   all_goals
    go_wp2_with fail
    go_roundw
    case rel =>
     have h9 : w9.1[w.1.size + 1]? = _ := (pX.out _ (by omega)).trans H1.out
     refine ⟨k + 1, .slice (some ⟨g9, 0, none⟩) (k + 1) cap9, by omega, by rw [wZ.out], by go_num, ?_, ?_, ?_, ?_, ?_⟩
     ·have vH : Below w.1.size w (wC.alloc (.cells #[.int .i64 (Z8z (l.take k) + (1 + (m3 : Int))), .int .i64 0, .string cc, .int .i64 (1 + (m20 : Int)), .bool bb] 65)) := (hB.trans (pJ.mono hB.size)).alloc (Kaw hB.size pJ.size) _
      exact (vH.grown pA vH.size (fun r e => by have := rA.out r e; omega)).setCell (p := ⟨w.1.size + 1, 3, none⟩) (Kbd _) _
     ·have h1 := pA.size
      have h2 := pJ.size
      rw [Z6] at h1
      simp [World.setCell]; omega
     ·exact (ZA _ _ _ _ (by show w.1.size ≠ w.1.size + 1; omega)).trans ((pX.out _ (by omega)).trans H0.out)
     ·show (w9.1.modify (w.1.size + 1) _)[w.1.size + 1]? = _
      rw [Kap, if_pos rfl, h9]
      rfl
     ·rw [rX.out, Kai, Kao, Kct, Ka1]
      exact pI.kept (Z08 _ _ _) (.inr (by show some g9 ≠ some (w.1.size + 1); have := (pI.lt g9 rfl).1; intro e; injection e; omega))
    case measure => simp [intOf]; omega
  ·obtain rfl : k = l.length := by omega
   have z0 := Kaa wr w.1.size 0 _ _ _ h0
   have z1 := Kaa wr w.1.size 1 _ _ _ h0
   have z2 := Kaa wr w.1.size 2 _ _ _ h0
   have z3 := Kaa wr w.1.size 3 _ _ _ h0
   have b0 := Kaa wr (w.1.size + 1) 0 _ _ _ h1
   have b1 := Kaa wr (w.1.size + 1) 1 _ _ _ h1
   have b2 := Kaa wr (w.1.size + 1) 2 _ _ _ h1
   have b3 := Kaa wr (w.1.size + 1) 3 _ _ _ h1
   simp only [List.getElem?_toArray, List.getElem?_cons_zero, Kdf] at z0 z1 z2 z3 b0 b1 b2 b3
   have y : ∀ j, wr.frozen? ⟨w.1.size, j, none⟩ = false := fun j => by simp [World.frozen?, h0]
   have y0 := y 0
   have y1 := y 1
   have y2 := y 2
   have y3 := y 3
   have HO := Z0 hO
   have rY := Z0 h0
   obtain ⟨va, vc, rfl⟩ := Z0F HO.out
   clear y h0 h1 hO
   go_wp2_with fail
   refine bodyPost_ret (results_cell_row rfl _ _ w.1.size 34 _ (0, 0) _ rfl (Ziu rY.out) Tryz.underlying34 rfl (by kernel_rfl)) rfl ?_
   refine ⟨va, vc, rfl, (((hB.setCell (p := ⟨w.1.size, 0, none⟩) (Z1 _) _).setCell (p := ⟨w.1.size, 1, none⟩) (Z1 _) _).setCell (p := ⟨w.1.size, 2, none⟩) (Z1 _) _).setCell (p := ⟨w.1.size, 3, none⟩) (Z1 _) _, ?_⟩
   have ho : OwnsP wr (w.1.size + 2) (.slice va l.length vc) (Z04 l).ps := by
    unfold OwnsP Z04
    dsimp only
    rw [Z2A]
    exact HO.out
   exact OwnsP.mono (Z3O ho (by omega) _ _ _ _) (Kbr _ _)
end
section
open Go.RowKit
theorem ZcT {ls : List Lev} {cs : List ByteArray} {ps : List Pce} {zs : List Int} (h : cs.length = ps.length) (hz : zs.length = ps.length) (hn : Z1j ls.length zs = true) : OwnIn ps zs (Z16 ls cs ls.length) := by
 refine ⟨fun i hi => ?_, fun x hx y hy hl i h1 h2 => ?_⟩
 ·obtain ⟨h0, h1⟩ := Z72 hn i (by omega)
  obtain ⟨m, hm⟩ : ∃ m : Nat, zs[i]'(by omega) = (m : Int) := ⟨_, (Ka3 h0).symm⟩
  have vI : i < cs.length := by omega
  refine ⟨gAt ls cs ls.length m (Z0e (lv ls m) cs[i]), Z2b.2 ⟨m, _, by omega, Zfu vI, rfl⟩, ?_, ?_⟩
  ·rw [Z2, Z3 (by omega), Kcu, hm]; rfl
  ·exact Z3B.2 ⟨i, vI, rfl, rfl⟩
 ·obtain ⟨m, n, hm, hn, rfl⟩ := Z2b.1 hx
  obtain ⟨m', n', hm', hn', rfl⟩ := Z2b.1 hy
  have e : (m : Int) = (m' : Int) := hl
  obtain rfl : m = m' := by omega
  obtain ⟨j, hj, h3, rfl⟩ := Z3B.1 h1
  obtain ⟨j', hj', h4, h5⟩ := Z3B.1 h2
  obtain rfl : j = j' := by omega
  rw [<- h3, <- h4]
theorem Z9m {α : Type} : ∀ L : List (List α), (∀ l ∈ L, 1 <= l.length) -> L.length <= L.flatten.length
 | [], _ => Z1 _
 | l :: r, h => by
  have := Z9m r (fun x hx => h x (Kaj _ hx))
  have := h l Kaf
  rw [Ka9, List.flatten_cons, ZC]
  omega
theorem Zew {α β : Type} (f : α -> List β) (L : List α) (n : Nat) : ((L.take n).flatMap f).length <= (L.flatMap f).length := by
 conv => rhs; rw [<- Kcl n L, Kai, ZC]
 omega
theorem Zcv {k : Pck} {ps : List Pce} {zs : List Int} {Gs : List Grp} (hk : 1 <= k.pieces) (vJ : 0 <= k.grams) (hb : 1 <= k.bundles) (ht : 1 <= k.trays) (hg : ∀ p ∈ ps, p.grams <= k.grams) (hu : Z5b ps) (hG : GrpsIn ps Gs) (ho : OwnIn ps zs Gs) (n : Nat) (hn : n <= Gs.length) :
 (Z29 k ps zs Gs n).buns.length <= ps.length /\ (Z29 k ps zs Gs n).tras.length <= ps.length /\ (Z29 k ps zs Gs n).cons.length <= ps.length /\ (Z29 k ps zs Gs n).beg <= (Z29 k ps zs Gs n).tras.length := by
 have sA := Zfc hb ht ps zs Gs n hn
 have hF := Z95 hb ht hG.order (ps := ps) (zs := zs) n hn
 have xA := Zd6 (zs := zs) hk vJ hg hG
 have xB := Z82 hG ho
 have h1 : (Z29 k ps zs Gs n).buns.length <= ps.length := by
  rw [sA.buns]
  refine Kaw (Zew _ _ _) ?_
  have h2 := Z9m ((Gs.flatMap (Z10 k ps zs)).map (fun b => b.ids)) (fun l hl => by
   obtain ⟨b, hb, rfl⟩ := Kae.1 hl
   obtain ⟨x, hx, hb⟩ := Ka5.1 hb
   exact Kcr.2 ((Z2q (zs := zs) hk vJ hg hu hG hx).2 b hb).2.2.1)
  rw [Z1v, xA, Z7, Z7, xB.length_eq, (Z0J _).2.1] at h2
  exact h2
 have h2 := Z9m ((Z29 k ps zs Gs n).tras.map (fun t => t.bs)) (fun l hl => by
  obtain ⟨t, ht, rfl⟩ := Kae.1 hl
  exact (hF.tl t ht).1)
 rw [Z1v, sA.nb, (Z0J _).2.1, Z7] at h2
 have h3 := Z9m ((Z29 k ps zs Gs n).cons.map (fun t => t.ts)) (fun l hl => by
  obtain ⟨t, ht, rfl⟩ := Kae.1 hl
  exact (hF.cl t ht).1)
 rw [Z1v, sA.nt, (Z0J _).2.1, Z7] at h3
 have h4 := sA.beg
 exact ⟨h1, by omega, by omega, h4⟩
theorem Zff : ∀ (ps : List Pce) (b : Int), Zcw b ps = true -> (∀ p ∈ ps, b < p.id /\ p.id <= 999999 /\ 1 <= p.grams /\ p.grams <= 50000) /\ ps.Pairwise (fun p q => p.id < q.id)
 | [], _, _ => ⟨by simp, List.Pairwise.nil⟩
 | p :: r, b, h => by
  unfold Zcw at h
  rw [ZF] at h
  obtain ⟨h1, h2⟩ := h
  obtain ⟨h3, h4⟩ := Zff r p.id h2
  unfold pcB at h1
  simp only [ZF, Kab] at h1
  obtain ⟨⟨a1, a2, _⟩, _, a3, a4⟩ := h1
  refine ⟨fun q hq => ?_, Kbu.2 ⟨fun q hq => (h3 q hq).1, h4⟩⟩
  rcases Kbf.1 hq with rfl | hq
  ·exact ⟨a1, a2, a3, a4⟩
  ·obtain ⟨b1, b2⟩ := h3 q hq
   exact ⟨by omega, b2⟩
theorem Z9b {m : Mai} (h : Z2c m = true) : (∀ p ∈ m.ps, 0 < p.id /\ p.id <= 999999 /\ 1 <= p.grams /\ p.grams <= 50000) /\ Z5b m.ps := by
 unfold Z2c at h
 simp only [ZF] at h
 obtain ⟨h1, h2⟩ := Zff m.ps 0 h.2.2.2
 refine ⟨h1, fun i j tI hj => ?_⟩
 have e : ∀ q : Nat, (hq : q < m.ps.length) -> Z15 m.ps (q : Int) = m.ps[q] := fun q hq => by
  unfold Z15
  rw [Kar, Z2, Z3 hq]; rfl
 rw [e i (by omega), e j hj]
 exact Kb1.1 h2 i j (by omega) hj tI
end
section
open Go.RowKit Go.Maps Go.WideMaps
theorem Z30 : Keyed Tryz.prog 3 := int_keyed Tryz.underlying3
def OwnsII (w : World) (B n : Nat) (f : Int -> Option Int) (c : Nat) : Prop :=
 ∃ D : DataW Unit, w.ownsMap Tryz.prog 3 (plainElem Tryz.prog 3) B n D /\ Maps.size D = c /\ ∀ x : Int, (f x = none -> Maps.has D (.int .i64 x) = false) /\ ∀ y, f x = some y -> Maps.has D (.int .i64 x) = true /\ ∀ zd, D.atKey (.int .i64 x) zd = .lit (.int .i64 y)
theorem OwnsII.made (w : World) : OwnsII (w.alloc (.map #[] 0)) w.1.size 0 (fun _ => none) 0 :=
 ⟨.map [], World.ownsMap_made _ _ _ _, rfl, fun s => ⟨fun _ => rfl, fun y h => by cases h⟩⟩
section
variable {w w' : World} {B n c : Nat} {f : Int -> Option Int}
theorem OwnsII.kept {row : Option Nat} (h : OwnsII w B n f c) (hg : w.grownBy w' row) (pY : some B ≠ row) : OwnsII w' B n f c := by
 obtain ⟨D, hD, hc, hf⟩ := h
 exact ⟨D, hD.kept hg pY, hc, hf⟩
theorem OwnsII.below (h : OwnsII w B n f c) (hb : Below w.1.size w w') : OwnsII w' B n f c := h.kept (Z0a hb) (by simp)
theorem OwnsII.lt (h : OwnsII w B n f c) : B < w.1.size := by obtain ⟨D, hD, _⟩ := h; exact hD.lt
theorem OwnsII.mono {n' : Nat} (h : OwnsII w B n f c) (hn : n <= n') : OwnsII w B n' f c := by
 obtain ⟨D, hD, hc, hf⟩ := h
 exact ⟨D, hD.mono hn, hc, hf⟩
theorem OwnsII.look (h : OwnsII w B n f c) {t : TypeId} (ht : Tryz.prog.underlying t = some (.map 3 3)) {x : Int} (hx : (Lit.int .i64 x).wf = true) :
 (Instr.lookup t (.map (some B)) (.int .i64 x) true).run Tryz.prog w = .ok (.tuple #[.int .i64 ((f x).getD 0), .bool (f x).isSome]) w := by
 obtain ⟨D, hD, _, hf⟩ := h
 obtain ⟨v, ps, pH, hv⟩ := hD.look_ok Z30 ht (intLaw.zero w) (intLaw.lay 0 (by decide)) (keyOf_int_mk Tryz.underlying3 hx)
 rw [pH]
 obtain ⟨h1, h2⟩ := hf x
 cases sB : f x with
 | none =>
  rw [atKey_of_not_has (h1 sB)] at hv
  rw [intLaw.inv _ _ _ hv, h1 sB]; rfl
 | some y =>
  rw [(h2 y sB).2] at hv
  rw [intLaw.inv _ _ _ hv, (h2 y sB).1]; rfl
theorem OwnsII.update (h : OwnsII w B n f c) {t : TypeId} (ht : Tryz.prog.underlying t = some (.map 3 3)) (hn : n < maxLen) {x y : Int} (hx : (Lit.int .i64 x).wf = true) (hy : (Lit.int .i64 y).wf = true) (tJ : f x = none) :
 ∃ w', (Instr.mapUpdate t (.map (some B)) (.int .i64 x) (.int .i64 y)).run Tryz.prog w = .ok () w' /\ OwnsII w' B (n + 1) (fun u => if u = x then some y else f u) (c + 1) /\ w.grownBy w' (some B) := by
 obtain ⟨D, hD, hc, hf⟩ := h
 obtain ⟨w', pH, h1, h2⟩ := hD.update Z30 ht hn (keyOf_int_mk Tryz.underlying3 hx) (intLaw.lay y hy)
 have tK := hD.tidy Z30
 refine ⟨w', pH, ⟨_, h1, ?_, fun u => ?_⟩, h2⟩
 ·rw [size_put tK, (hf x).1 tJ, if_neg (by decide), hc]
 ·have hm := hD.isMap
  have hk : WideAt.IsKeyLit (Lit.int .i64 x) := trivial
  dsimp only
  by_cases e : u = x
  ·subst e
   rw [if_pos rfl]
   refine ⟨fun h => (by cases h), fun y' h => ?_⟩
   obtain rfl := Kav h
   exact ⟨has_put_same hm hk _, fun zd => atKey_put_same hm hk _ zd⟩
  ·rw [if_neg e]
   have pY : Lit.int .i64 u ≠ Lit.int .i64 x := fun h => e (by injection h)
   exact ⟨fun h => by rw [<- (hf u).1 h]; exact has_put_other pY _, fun y' hy => ⟨by rw [<- ((hf u).2 y' hy).1]; exact has_put_other pY _, fun zd => by rw [<- ((hf u).2 y' hy).2 zd]; exact atKey_put_other pY _ _⟩⟩
theorem OwnsII.drop (h : OwnsII w B n f (c + 1)) {t : TypeId} (ht : Tryz.prog.underlying t = some (.map 3 3)) {x y : Int} (hx : (Lit.int .i64 x).wf = true) (tL : f x = some y) (ty : TypeId) :
 ∃ w', (Builtin.delete_ #[t, 3] ty #[.map (some B), .int .i64 x]).run Tryz.prog w = .ok (.tuple #[]) w' /\ OwnsII w' B n (fun u => if u = x then none else f u) c /\ w.grownBy w' (some B) := by
 obtain ⟨D, hD, hc, hf⟩ := h
 obtain ⟨w', pH, h1, h2⟩ := hD.drop Z30 ht (keyOf_int_mk Tryz.underlying3 hx) ty
 have tK := hD.tidy Z30
 refine ⟨w', pH, ⟨_, h1, ?_, fun u => ?_⟩, h2.grown⟩
 ·have := size_del tK (k := Lit.int .i64 x)
  rw [((hf x).2 y tL).1, if_pos rfl, hc] at this
  omega
 ·dsimp only
  by_cases e : u = x
  ·subst e
   rw [if_pos rfl]
   exact ⟨fun _ => has_del_same, fun y' h => by cases h⟩
  ·rw [if_neg e]
   have pY : Lit.int .i64 u ≠ Lit.int .i64 x := fun h => e (by injection h)
   exact ⟨fun h => by rw [<- (hf u).1 h]; exact has_del_other pY, fun y' hy => ⟨by rw [<- ((hf u).2 y' hy).1]; exact has_del_other pY, fun zd => by rw [<- ((hf u).2 y' hy).2 zd]; exact atKey_del_other pY _⟩⟩
theorem OwnsII.len (h : OwnsII w B n f c) {t : TypeId} (ht : Tryz.prog.underlying t = some (.map 3 3)) (ty : TypeId) : (Builtin.len_ #[t] ty #[.map (some B)]).run Tryz.prog w = .ok (.int .i64 (c : Nat)) w := by
 obtain ⟨D, hD, hc, _⟩ := h
 rw [<- hc]
 exact hD.len ht ty
end
theorem Z66 (w : World) {ops : Array Oper} {rest : List Oper} {o : Oper} {a : Act} {Q : Exit -> Act -> World -> Prop}
 (hg : o.guard = none) (m x v : Operand) (t : TypeId) (qC : o.op = Op.mapUpdate t m x v) (ht : Tryz.prog.underlying t = some (.map 3 3)) (B n c : Nat) (f : Int -> Option Int)
 (hm : a.eval m = .map (some B)) (pM : OwnsII w B n f c) (hn : n < maxLen) (s y : Int) (hs : (Lit.int .i64 s).wf = true) (hy : (Lit.int .i64 y).wf = true) (tJ : f s = none) (hx : a.eval x = .int .i64 s) (hv : a.eval v = .int .i64 y)
 (hK : ∀ w', OwnsII w' B (n + 1) (fun u => if u = s then some y else f u) (c + 1) -> w.grownBy w' (some B) -> wpList Tryz.prog ops Q rest (a.put o.dst undef) w') : wpList Tryz.prog ops Q (o :: rest) a w := by
 refine wpList_plain hg fun K' hK' => ?_
 obtain ⟨w', pH, r1, r2⟩ := pM.update ht hn hs hy tJ
 unfold Oper.wp
 simp [execOp, qC, hm, hx, hv, pH, Result.andThen]
 exact hK' _ _ (hK w' r1 r2)
theorem Z7N (w : World) {ops : Array Oper} {rest : List Oper} {o : Oper} {a : Act} {Q : Exit -> Act -> World -> Prop}
 (hg : o.guard = none) (m x : Operand) (t : TypeId) (qC : o.op = Op.call { callee := Callee.builtin Builtin.delete, args := #[m, x], argTypes := #[t, 3] }) (ht : Tryz.prog.underlying t = some (.map 3 3)) (B n c : Nat) (f : Int -> Option Int)
 (hm : a.eval m = .map (some B)) (pM : OwnsII w B n f (c + 1)) (s y : Int) (hs : (Lit.int .i64 s).wf = true) (tL : f s = some y) (hx : a.eval x = .int .i64 s)
 (hK : ∀ w', OwnsII w' B n (fun u => if u = s then none else f u) c -> w.grownBy w' (some B) -> wpList Tryz.prog ops Q rest (a.put o.dst (.tuple #[])) w') : wpList Tryz.prog ops Q (o :: rest) a w := by
 refine wpList_plain hg fun K' hK' => ?_
 obtain ⟨w', pH, r1, r2⟩ := pM.drop ht hs tL o.type
 unfold Oper.wp
 simp [execOp, qC, resolve, invoke, builtin, hm, hx, pH, Result.andThen]
 exact hK' _ _ (hK w' r1 r2)
theorem Z1V (w : World) {ops : Array Oper} {rest : List Oper} {o : Oper} {a : Act} {Q : Exit -> Act -> World -> Prop}
 (hg : o.guard = none) (m x : Operand) (t : TypeId) (qC : o.op = Op.lookup t m x true) (ht : Tryz.prog.underlying t = some (.map 3 3)) (B n c : Nat) (f : Int -> Option Int)
 (hm : a.eval m = .map (some B)) (pM : OwnsII w B n f c) (s : Int) (hs : (Lit.int .i64 s).wf = true) (hx : a.eval x = .int .i64 s) (y : Option Int) (hy : f s = y)
 (hK : wpList Tryz.prog ops Q rest (a.put o.dst (.tuple #[.int .i64 (y.getD 0), .bool y.isSome])) w) : wpList Tryz.prog ops Q (o :: rest) a w := by
 subst hy
 refine wpList_plain hg fun K' hK' => ?_
 have pH := pM.look ht hs
 unfold Oper.wp
 simp [execOp, qC, hm, hx, pH, Result.andThen]
 exact hK' _ _ hK
theorem Z8R (w : World) {ops : Array Oper} {rest : List Oper} {o : Oper} {a : Act} {Q : Exit -> Act -> World -> Prop}
 (hg : o.guard = none) (m : Operand) (t : TypeId) (qC : o.op = Op.call { callee := Callee.builtin Builtin.len, args := #[m], argTypes := #[t] }) (ht : Tryz.prog.underlying t = some (.map 3 3)) (B n c : Nat) (f : Int -> Option Int)
 (hm : a.eval m = .map (some B)) (pM : OwnsII w B n f c)
 (hK : wpList Tryz.prog ops Q rest (a.put o.dst (.int .i64 (c : Nat))) w) : wpList Tryz.prog ops Q (o :: rest) a w := by
 refine wpList_plain hg fun K' hK' => ?_
 have pH := pM.len ht o.type
 unfold Oper.wp
 simp [execOp, qC, resolve, invoke, builtin, hm, pH, Result.andThen]
 exact hK' _ _ hK
open Classical in
noncomputable def Z7M (ps : List Pce) (n : Nat) (pre : List Int) (u : Int) : Option Int :=
 if h : ∃ j : Nat, j < n /\ (Z15 ps (j : Int)).id = u /\ u ∉ pre then some ((Classical.choose h : Nat) : Int) else none
theorem Z22 {ps : List Pce} (hu : Z5b ps) {n j : Nat} {pre : List Int} (hn : n <= ps.length) (hj : j < n) (h : (Z15 ps (j : Int)).id ∉ pre) : Z7M ps n pre (Z15 ps (j : Int)).id = some (j : Int) := by
 have hex : ∃ j' : Nat, j' < n /\ (Z15 ps (j' : Int)).id = (Z15 ps (j : Int)).id /\ (Z15 ps (j : Int)).id ∉ pre := ⟨j, hj, rfl, h⟩
 unfold Z7M
 rw [dif_pos hex]
 obtain ⟨h1, h2, _⟩ := Classical.choose_spec hex
 congr 1
 exact ZbM hu (by constructor <;> omega) (by constructor <;> omega) h2
theorem Z32 {ps : List Pce} {n : Nat} {pre : List Int} {u : Int} (h : ∀ j : Nat, j < n -> (Z15 ps (j : Int)).id = u -> u ∈ pre) : Z7M ps n pre u = none := by
 unfold Z7M
 rw [dif_neg]
 rintro ⟨j, h1, h2, h3⟩
 exact h3 (h j h1 h2)
theorem Z5F {ps : List Pce} (hu : Z5b ps) {n : Nat} (hn : n <= ps.length) (pre : List Int) (u : Int) : Z7M ps n pre u = none \/ ∃ j : Nat, j < n /\ (Z15 ps (j : Int)).id = u /\ u ∉ pre /\ Z7M ps n pre u = some (j : Int) := by
 by_cases h : ∃ j : Nat, j < n /\ (Z15 ps (j : Int)).id = u /\ u ∉ pre
 ·obtain ⟨j, h1, h2, h3⟩ := h
  refine .inr ⟨j, h1, h2, h3, ?_⟩
  subst h2
  exact Z22 hu hn h1 h3
 ·exact .inl (Z32 (fun j hj he => Kb6 (fun hc => h ⟨j, hj, he, hc⟩)))
theorem ZfQ {ps : List Pce} (hu : Z5b ps) {j : Nat} (hj : j < ps.length) : (fun u => if u = (Z15 ps (j : Int)).id then some (j : Int) else Z7M ps j [] u) = Z7M ps (j + 1) [] := by
 funext u
 by_cases e : u = (Z15 ps (j : Int)).id
 ·rw [if_pos e, e, Z22 hu (by omega) (Ka4 _) (by simp)]
 ·rw [if_neg e]
  rcases Z5F hu (show j <= ps.length by omega) [] u with h | ⟨i, h1, h2, _, h4⟩
  ·rw [h]
   symm
   refine Z32 (fun i hi he => ?_)
   exfalso
   by_cases tI : i = j
   ·subst tI; exact e he.symm
   ·have := Z22 hu (show j <= ps.length by omega) (show i < j by omega) (pre := []) (by simp)
    rw [he, h] at this
    cases this
  ·rw [h4, <- h2, Z22 hu (by omega) (by omega) (by simp)]
theorem ZfR {ps : List Pce} (hu : Z5b ps) {n : Nat} (hn : n <= ps.length) (pre : List Int) (x : Int) : (fun u => if u = x then none else Z7M ps n pre u) = Z7M ps n (pre ++ [x]) := by
 funext u
 by_cases e : u = x
 ·rw [if_pos e, Z32 (fun j _ _ => by rw [e]; simp)]
 ·rw [if_neg e]
  rcases Z5F hu hn pre u with h | ⟨i, h1, h2, h3, h4⟩
  ·rw [h]
   symm
   refine Z32 (fun i hi he => ?_)
   refine Kcn _ (Kb6 (fun hc => ?_))
   subst he
   rw [Z22 hu hn hi hc] at h
   cases h
  ·rw [h4]
   subst h2
   rw [Z22 hu hn h1 (by
    intro hc
    rcases ZG.1 hc with hc | hc
    ·exact h3 hc
    ·exact e (ZI.1 hc))]
end
end Go.Proofs.YtlgajongmkhcnaaGreatDoor
