import Derived.Test.YtlgajongmkhcnaaGreatDoorQZ
import Derived.Test.YtlgajongmkhcnaaGreatDoorQE
import Derived.Test.YtlgajongmkhcnaaGreatDoorQD
import Derived.Deep.RegionHeld3
import Derived.Deep.AppendLies
import Derived.Deep.DeepCutAuto
import Derived.Test.YtlgajongmkhcnaaGreatDoorQC
import Derived.Laws.Rows
import Derived.Test.YtlgajongmkhcnaaGreatDoorQA
import Derived.Deep.RegionLaw
import Derived.Test.YtlgajongmkhcnaaGreatDoorQ8
set_option linter.unusedVariables false
set_option linter.unusedSimpArgs false
set_option maxHeartbeats 32000000
namespace Go.Proofs.YtlgajongmkhcnaaGreatDoor
open Go.RowKit Go.Sort Go.Shelf
set_option maxRecDepth 100000
theorem Zcz {ls : List Lev} {cs : List ByteArray} (h : Z0i ls = true) (hp : ∀ l ∈ ls, ∀ c ∈ cs, l.pre <= c.size) : cs.any (Z2z ls) = false := by
 rw [List.any_eq_false]
 intro c hc
 have hl := Z0z h
 rw [Z66 (by omega)]
 have := hp _ (Z4 (show 0 < ls.length by omega)) c hc
 simp
 omega
theorem Zdz {w4 W : World} {v vg : Value} {n : Nat}
 (h : W = (((w4.alloc (.cells #[v, vg, .slice (some ⟨w4.1.size + 1, 0, none⟩) n n, .slice (some ⟨w4.1.size + 1 + 1, 0, none⟩) n n, .slice (some ⟨w4.1.size + 1 + 1 + 1, 0, none⟩) n n] 153)).alloc (.cells (madeCells #[.slice none 0 0] n) 35)).alloc (.cells (madeCells #[.slice none 0 0] n) 35)).alloc (.cells (madeCells #[.int .i64 0] n) 3)) :
 TreeAt W w4.1.size v vg n (w4.1.size + 1) (w4.1.size + 2) (w4.1.size + 3) /\ W.rowIs (w4.1.size + 1) 35 n (fun _ => .slice none 0 0) /\ W.rowIs (w4.1.size + 2) 35 n (fun _ => .slice none 0 0) /\ IntsAt W (w4.1.size + 3) (List.replicate n 0) /\
  Below w4.1.size w4 W /\ W.1.size = w4.1.size + 4 := by
 obtain ⟨A, hA⟩ : ∃ A, A = w4.alloc (.cells #[v, vg, .slice (some ⟨w4.1.size + 1, 0, none⟩) n n, .slice (some ⟨w4.1.size + 1 + 1, 0, none⟩) n n, .slice (some ⟨w4.1.size + 1 + 1 + 1, 0, none⟩) n n] 153) := ⟨_, rfl⟩
 obtain ⟨B, hB⟩ : ∃ B, B = A.alloc (.cells (madeCells #[.slice none 0 0] n) 35) := ⟨_, rfl⟩
 obtain ⟨C, hC⟩ : ∃ C, C = B.alloc (.cells (madeCells #[.slice none 0 0] n) 35) := ⟨_, rfl⟩
 have hD : W = C.alloc (.cells (madeCells #[.int .i64 0] n) 3) := by rw [h, hC, hB, hA]
 have zA : A.1.size = w4.1.size + 1 := by rw [hA]; exact Z6 _ _
 have zB : B.1.size = w4.1.size + 2 := by rw [hB, Z6, zA]
 have zC : C.1.size = w4.1.size + 3 := by rw [hC, Z6, zB]
 have bA : Below w4.1.size w4 A := by rw [hA]; exact (Z9 _ _).alloc (Z1 _) _
 have bB : Below A.1.size A B := by rw [hB]; exact (Z9 _ _).alloc (Z1 _) _
 have bC : Below B.1.size B C := by rw [hC]; exact (Z9 _ _).alloc (Z1 _) _
 have bD : Below C.1.size C W := by rw [hD]; exact (Z9 _ _).alloc (Z1 _) _
 have tA : TreeAt A w4.1.size v vg n (w4.1.size + 1) (w4.1.size + 2) (w4.1.size + 3) := by rw [hA]; exact Z01 w4 _
 have rB : B.rowIs (w4.1.size + 1) 35 n (fun _ => .slice none 0 0) := by rw [<- zA, hB]; exact World.rowIs_made A _ _ _
 have rC : C.rowIs (w4.1.size + 2) 35 n (fun _ => .slice none 0 0) := by rw [<- zB, hC]; exact World.rowIs_made B _ _ _
 have iD : IntsAt W (w4.1.size + 3) (List.replicate n 0) := by rw [<- zC, hD]; exact Z6v C n
 refine ⟨(bD.block _ (by omega)).trans ((bC.block _ (by omega)).trans ((bB.block _ (by omega)).trans tA)), Z0U (Z0U rB bC (by omega)) bD (by omega), Z0U rC bD (by omega), iD, Z00 (Z00 (Z00 bA bA.size bB) (by omega) bC) (by omega) bD, by rw [hD, Z6, zC]⟩
theorem Zea (ls : List Lev) (v vp : Value) (m : Mai) (w : World) (hr : RdLevs w v ls) (hri : Z0i ls = true) (hm : Z21 m = true) (hrp : RdPces w vp m.ps) (h8 : 0 <= m.cls /\ m.cls <= 255 /\ 0 <= m.ctr /\ m.ctr <= 255) (hom : m.origin.size <= maxLen)
 (hsh : ∀ l ∈ ls, ∀ c ∈ Z06 m.ps, l.pre <= c.size) :
 Calls Tryz.prog 27 #[v, Z22 m vp] w fun e w' => ∃ g, e = .returned (.tuple #[.slice (some ⟨g, 0, none⟩) m.ps.length m.ps.length, .int .i64 0]) /\ Below w.1.size w w' /\ w.1.size <= g /\ IntsAt w' g (Zga (Z0x ls) (pG ls (Z06 m.ps)) m.ps.length) := by
 obtain ⟨hcl, hcc⟩ := Z7Q hm
 have hlen := Z0z hri
 have hcz : ∀ c ∈ Z06 m.ps, c.size <= maxLen := fun c hc => by have := Z0s (hcc c hc); unfold maxLen; omega
 have hpl : m.ps.length <= 2000 := by have := hcl; unfold Z06 at this; rwa [Z7] at this
 have hclen : (Z06 m.ps).length = m.ps.length := by unfold Z06; simp
 have HRT := Z0 (fun W (hW : Below w.1.size w W) => Z29 ls v W (hr.below hW) (Z1q hri) (by unfold maxLen; omega))
 have HML := Z0 (fun W (hW : Below w.1.size w W) => Z2T m vp W (hrp.below hW) h8 hom (by omega) (fun p hp => hcz _ (List.mem_map_of_mem hp)))
 have HCO := Z0 (fun W (hW : Below w.1.size w W) => Z6Y m vp W (hrp.below hW) (by omega))
 have hgr : Z1a ls (Z06 m.ps) = ((gTo ls (Z06 m.ps) ls.length).1, 0) := Z80 hri hcl hcc (Zcz hri hsh)
 have HGP := Z0 (fun W vc (hW : Below w.1.size w W) (hrc : ReadsT W vc (Z06 m.ps)) => Z5c ls v vc (Z06 m.ps) W (hr.below hW) (Z1q hri) (by unfold maxLen; omega) hrc (by unfold maxLen; omega) hcz)
 rw [hgr] at HGP
 have hcls := Z3C ls (Z06 m.ps) ls.length (Z1 _)
 have hgb := ZeU ls (Z06 m.ps) hlen.2 hcl
 rw [hcls] at HGP hgb
 have hF3 := Z8I hri hcc hsh
 rw [hclen] at hF3
 have hpG : pG ls (Z06 m.ps) = Z0m (Z0Y ls (Z06 m.ps) ls.length) := rfl
 rw [hpG] at hF3 ⊢
 dsimp only at HGP hgb
 obtain ⟨Gs, hGs⟩ : ∃ G, G = Z0Y ls (Z06 m.ps) ls.length := ⟨_, rfl⟩
 rw [<- hGs] at HGP hgb hF3 ⊢
 rw [hri] at HRT
 rw [hm] at HML
 have HR := Z0 hr
 have HF3 := Z0 hF3
 have hmk1 := fun W => run_make_row' (P := Tryz.prog) 109 35 (.slice none 0 0) 24 Tryz.underlying109 Tryz.infoSl rfl .i64 .i64 Gs.length (by omega) (by omega) W
 have hmk2 := fun W => run_make_row' (P := Tryz.prog) 35 3 (.int .i64 0) 8 Tryz.underlying35 Tryz.infoI rfl .i64 .i64 Gs.length (by omega) (by omega) W
 have hcents : ∀ l ∈ ls, 0 <= l.cents /\ l.cents <= 1000000 := fun l hl => by
  obtain ⟨i, hi, rfl⟩ := List.mem_iff_getElem.1 hl
  obtain ⟨_, _, ⟨_, hlv, _, _⟩, _⟩ := Z0E.1 hri
  obtain ⟨hh, _⟩ := Z13.1 (hlv i hi hi)
  unfold Z3W at hh
  rw [ZF, decide_eq_true_eq] at hh
  exact hh.2.2.2
 have hitm : ∀ x ∈ Gs, x.items.length <= 2000 := fun x hx => by
  rw [hGs] at hx
  obtain ⟨mm, n, _, _, rfl⟩ := Z20.1 hx
  have : (itm ls (Z06 m.ps) mm n).length <= (Z06 m.ps).length := Z6D ls _ mm n
  exact Nat.le_trans this hcl
 have hup : ∀ k (hk : k < Gs.length), Gs[k].up = -1 \/ ∃ u : Nat, u < Gs.length /\ Gs[k].up = (u : Int) := fun k hk => by
  have hmem : Gs[k] ∈ Z0Y ls (Z06 m.ps) ls.length := by rw [<- hGs]; exact Z4 hk
  obtain ⟨mm, hP⟩ := ZhQ hri hcc hsh hmem
  rcases hP.up with ⟨h1, _⟩ | ⟨_, u, hu, h1, _⟩
  ·exact .inl h1
  ·exact .inr ⟨u, by rw [hGs]; exact hu, h1⟩
 have HUP := Z0 hup
 have HCT := Z0 hcents
 have HIT := Z0 hitm
 obtain ⟨ap, cp, rfl, _⟩ := hrp
 obtain ⟨al, cl, rfl, _⟩ := hr
 unfold Z22 at HML HCO ⊢
 obtain ⟨cls, ctr, org, ps⟩ := m
 dsimp only at *
 obtain ⟨np, hnp⟩ : ∃ n, n = ps.length := ⟨_, rfl⟩
 rw [<- hnp] at HML HCO HF3 hpl ⊢
 clear hcl hcc hcz hclen hgr hcls hF3 hpG hGs hsh hri hm hcents hitm hup hom hnp
 have hb0 : Below w.1.size w (w.alloc (.cells #[.int .u8 cls, .int .u8 ctr, .string org, .slice ap np cp] 34)) := (Z9 _ w).alloc (Z1 _) _
 have hz0 : (w.alloc (.cells #[.int .u8 cls, .int .u8 ctr, .string org, .slice ap np cp] 34)).1.size = w.1.size + 1 := Z6 _ _
 have hbx : ∀ W, Below (w.1.size + 1) (w.alloc (.cells #[.int .u8 cls, .int .u8 ctr, .string org, .slice ap np cp] 34)) W -> W.cell? ⟨w.1.size, 0, none⟩ = some (.int .u8 cls) /\ W.cell? ⟨w.1.size, 1, none⟩ = some (.int .u8 ctr) /\ W.cell? ⟨w.1.size, 2, none⟩ = some (.string org) /\ W.cell? ⟨w.1.size, 3, none⟩ = some (.slice ap np cp) := fun W hW =>
  ⟨(hW.cell (p := ⟨w.1.size, 0, none⟩) (Nat.lt_succ_self _)).trans (cell_of_row _ _ 0 _ _ _ (Z01 w _)), (hW.cell (p := ⟨w.1.size, 1, none⟩) (Nat.lt_succ_self _)).trans (cell_of_row _ _ 1 _ _ _ (Z01 w _)),
   (hW.cell (p := ⟨w.1.size, 2, none⟩) (Nat.lt_succ_self _)).trans (cell_of_row _ _ 2 _ _ _ (Z01 w _)), (hW.cell (p := ⟨w.1.size, 3, none⟩) (Nat.lt_succ_self _)).trans (cell_of_row _ _ 3 _ _ _ (Z01 w _))⟩
 have HBX := Z0 hbx
 have HZ0 := Z0 hz0
 clear hbx hz0
 go_enter Tryz.func27, Tryz.ntmps27
 go_wp2_with (first
  | (go_at_call 39; refine (HRT.out _ hb0).mono ?_; rintro e w1 ⟨rfl, hb1⟩; (rw [HZ0.out] at hb1); have hB1 : Below w.1.size w w1 := hb0.trans (hb1.mono (Nat.le_succ _)); obtain ⟨x0, x1, x2, x3⟩ := HBX.out w1 hb1)
  | (go_at_call 34; refine (HML.out _ hB1).mono ?_; rintro e w2 ⟨rfl, hb2⟩; have hb2' := hb1.trans (hb2.mono (by have := hb1.size; rw [HZ0.out] at this; exact this)); have hB2 : Below w.1.size w w2 := hb0.trans (hb2'.mono (Nat.le_succ _)); clear x0 x1 x2 x3; obtain ⟨x0, x1, x2, x3⟩ := HBX.out w2 hb2')
  | (go_at_call 42; refine (HCO.out _ hB2).mono ?_; rintro e w3 ⟨u, rfl, hb3, hrc3⟩; have hB3 : Below w.1.size w w3 := Z00 hB2 hB2.size hb3)
  | (go_at_call 41; refine (HGP.out _ _ hB3 hrc3).mono ?_; rintro e w4 ⟨vg, rfl, hb4, hog⟩; have hrg := RdGrps.of_owns hog; obtain ⟨ag, cg, hvg⟩ := hog.len; subst hvg; clear x0 x1 x2 x3))
 have hB4 : Below w.1.size w w4 := Z00 hB3 hB3.size hb4
 have hB4z := hB4.size
 have hbx4 : Below (w.1.size + 1) (w.alloc (.cells #[.int .u8 cls, .int .u8 ctr, .string org, .slice ap np cp] 34)) w4 := by
  have h2 := hb2'.size
  have h3 := hb3.size
  rw [HZ0.out] at h2
  exact (hb2'.trans (hb3.mono h2)).trans (hb4.mono (by omega))
 have hb4z := hbx4.size
 rw [HZ0.out] at hb4z
 have HX := Z0 (HBX.out w4 hbx4).2.2.2
 have HRL := Z0 (RdLevs.below HR.out hB4)
 have HRG := Z0 hrg
 have HB4 := Z0 hB4
 clear hb1 hB1 hb2 hb2' hB2 hb3 hrc3 hB3 hb4 hog hrg hbx4 hb0 hmk1 hmk2 HRT HML HCO HGP HBX HR hB4
 obtain ⟨W0, hW0⟩ : ∃ W0 : World, W0 = (((w4.alloc (.cells #[.slice al ls.length cl, .slice ag Gs.length cg, .slice (some ⟨w4.1.size + 1, 0, none⟩) Gs.length Gs.length, .slice (some ⟨w4.1.size + 1 + 1, 0, none⟩) Gs.length Gs.length, .slice (some ⟨w4.1.size + 1 + 1 + 1, 0, none⟩) Gs.length Gs.length] 153)).alloc (.cells (madeCells #[.slice none 0 0] Gs.length) 35)).alloc (.cells (madeCells #[.slice none 0 0] Gs.length) 35)).alloc (.cells (madeCells #[.int .i64 0] Gs.length) 3) := ⟨_, rfl⟩
 have hTM := Zdz hW0
 rw [<- hW0]
 clear hW0
 obtain ⟨t1, t2, t3, t4, t5, t6⟩ := hTM
 have HT3 := Z0 t3
 have HT4 := Z0 t4
 obtain ⟨j0, hj⟩ := info_parts Tryz.infoI
 have HJ := Z0 hj
 clear hj
 go_loopw [48] (fun i wr => ∃ k : Nat, k <= Gs.length /\ i = .int .i64 k /\ Below w4.1.size w4 wr /\ w4.1.size + 4 <= wr.1.size /\ TreeAt wr w4.1.size (.slice al ls.length cl) (.slice ag Gs.length cg) Gs.length (w4.1.size + 1) (w4.1.size + 2) (w4.1.size + 3) /\
  wr.rowIs (w4.1.size + 2) 35 Gs.length (fun _ => .slice none 0 0) /\ IntsAt wr (w4.1.size + 3) (List.replicate Gs.length 0) /\ ∃ F, BelF wr (w4.1.size + 4) (w4.1.size + 1) Gs.length (Z2u (Z0m Gs) k) F) (fun i _ => Gs.length - (intOf i).toNat)
 case atStart => exact ⟨0, ZE _, rfl, t5, by omega, t1, t3, t4, _, BelF.nil t2⟩
 case round =>
  clear t1 t2 t3 t4 t5 t6 HT3 HT4
  obtain ⟨k, hk, rfl, hB, hz, ht, hr2, hi3, F, hF⟩ := hrel
  by_cases hlt : k < Gs.length
  ·have hrg := RdGrps.below HRG.out hB
   obtain ⟨ag', cg', hvg, hgr⟩ := hrg
   injection hvg with q1 q2 q3
   subst q1
   clear q2 q3
   obtain ⟨gg, og, rfl, hgg, hcg⟩ := hgr (by omega)
   obtain ⟨sv, hsv, g0, g1, g2, g3⟩ := hcg k hlt
   have hups := HUP.out k hlt
   have hga := Z2q hlt
   have hbs1 : ∀ j : Nat, Gs[k].up = (j : Int) -> Z2u (Z0m Gs) (k + 1) j = Z2u (Z0m Gs) k j ++ [(k : Int)] := fun j h => by rw [Z8c, hga]; exact if_pos h
   have hbs2 : ∀ j : Nat, Gs[k].up ≠ (j : Int) -> Z2u (Z0m Gs) (k + 1) j = Z2u (Z0m Gs) k j := fun j h => by rw [Z8c, hga]; exact if_neg h
   obtain ⟨x, hx⟩ : ∃ x, x = Gs[k] := ⟨_, rfl⟩
   rw [<- hx] at hsv g0 g1 g2 hups hbs1 hbs2
   obtain ⟨lvl, nm, up, items⟩ := x
   dsimp only at hsv g0 g1 g2 g3 hups hbs1 hbs2
   obtain ⟨ai, ci, rfl, _⟩ := hsv
   obtain ⟨n1, hn1⟩ : ∃ n, n = items.length := ⟨_, rfl⟩
   rw [<- hn1] at g3
   have HBS1 := Z0 hbs1
   have HBS2 := Z0 hbs2
   have HT := Z0 ht
   have HR2 := Z0 hr2
   have HI3 := Z0 hi3
   have HF := Z0 hF
   obtain ⟨CG, hCG⟩ : ∃ c, c = Obj.cells #[.int .i64 lvl, .string nm, .int .i64 up, .slice ai n1 ci] 107 (0, 0) := ⟨_, rfl⟩
   have hbc : Below wr.1.size wr (wr.alloc CG) := (Z9 _ _).alloc (Z1 _) _
   have hz1 : (wr.alloc CG).1.size = wr.1.size + 1 := Z6 _ _
   have q2 : (wr.alloc CG).cell? ⟨wr.1.size, 2, none⟩ = some (.int .i64 up) := by rw [hCG]; exact cell_of_row _ _ 2 _ _ _ (Z01 wr _)
   clear hbs1 hbs2 ht hr2 hi3 hF hn1 hgr hcg hga hx
   rcases hups with rfl | ⟨u, hu, rfl⟩
   ·clear hCG q2 hbc hz1
    go_wp2_with fail
    go_roundw
    case rel =>
     have e : Z2u (Z0m Gs) (k + 1) = Z2u (Z0m Gs) k := funext fun j => HBS2.out j (by omega)
     refine ⟨k + 1, by omega, by go_num, hB.alloc hB.size _, by simp; omega, (ZB _ _ _ (by omega)).trans HT.out, HR2.out.alloc _, (ZB _ _ _ (by omega)).trans HI3.out, F, ?_⟩
     rw [e]
     exact HF.out.below ((Z9 _ _).alloc (Z1 _) _)
    case measure => simp [intOf]; omega
   ·have hF1 := HF.out.below hbc
    have hc2 : (wr.alloc CG).cell? ⟨w4.1.size, 2, none⟩ = some (.slice (some ⟨w4.1.size + 1, 0, none⟩) Gs.length Gs.length) := (hbc.cell (p := ⟨w4.1.size, 2, none⟩) (by show w4.1.size < _; omega)).trans HT.out.c.2.2.1
    have hcu := hF1.row.cell hu
    have hfz := hF1.row.frozen u
    have hbl := Zfz (Z0m Gs) k u
    have hown := hF1.own u hu
    have hsame : ∀ w' : World, w'.1[w4.1.size]? = (wr.alloc CG).1[w4.1.size]? -> w'.1[wr.1.size]? = (wr.alloc CG).1[wr.1.size]? -> w'.cell? ⟨w4.1.size, 2, none⟩ = some (.slice (some ⟨w4.1.size + 1, 0, none⟩) Gs.length Gs.length) /\ w'.cell? ⟨wr.1.size, 2, none⟩ = some (.int .i64 u) := fun w' h1 h2 =>
     ⟨(World.cell?_of_block (w := wr.alloc CG) h1).trans hc2, (World.cell?_of_block (w := wr.alloc CG) h2).trans q2⟩
    have hba : Below (wr.alloc CG).1.size (wr.alloc CG) ((wr.alloc CG).drew.alloc (.cells #[.int .i64 k] 3)) := (Z9 (wr.alloc CG).1.size (wr.alloc CG)).drew.alloc (Z1 _) _
    have hcu2 : ((wr.alloc CG).alloc (.cells #[.int .i64 k] 3)).cell? ⟨w4.1.size + 1, u, none⟩ = some (F u) := (hba.cell (p := ⟨w4.1.size + 1, u, none⟩) (by show w4.1.size + 1 < _; omega)).trans hcu
    have HSM := Z0 hsame
    have HOWN := Z0 hown
    have HF1 := Z0 hF1
    have HBA := Z0 hba
    obtain ⟨Fu, hFu⟩ : ∃ f, f = F u := ⟨_, rfl⟩
    rw [<- hFu] at hcu hcu2 HOWN
    have HFU := Z0 hFu
    obtain ⟨bn, hbn⟩ : ∃ n, n = (Z2u (Z0m Gs) k u).length := ⟨_, rfl⟩
    rw [<- hbn] at hbl HOWN
    have HBN := Z0 hbn
    clear hsame hown hF1 hba hFu hbn
    go_upto_region 14 with fail
    rw [<- hCG]
    clear hCG
    have hgbT : ∀ w1 : World, ((wr.alloc CG).drew.alloc (.cells #[.int .i64 k] 3)).grownBy w1 Fu.ownBlock -> w1.1[w4.1.size]? = (wr.alloc CG).1[w4.1.size]? /\ w1.1[wr.1.size]? = (wr.alloc CG).1[wr.1.size]? /\ w1.1[w4.1.size + 1]? = (wr.alloc CG).1[w4.1.size + 1]? := fun w1 hg => by
     have hlo : ∀ b, Fu.ownBlock = some b -> w4.1.size + 4 <= b /\ b < wr.1.size := fun b hb => by
      have h1 := HF.out.own u hu
      rw [<- HFU.out] at h1
      exact h1.lt b hb
     have hsz := HBA.out.size
     refine ⟨(hg.block _ (by omega) (fun e => ?_)).trans (HBA.out.block _ (by omega)), (hg.block _ (by omega) (fun e => ?_)).trans (HBA.out.block _ (by omega)), (hg.block _ (by omega) (fun e => ?_)).trans (HBA.out.block _ (by omega))⟩
     ·have := hlo _ e.symm; omega
     ·have := hlo _ e.symm; omega
     ·have := hlo _ e.symm; omega
    have HGT := Z0 hgbT
    clear hgbT
    refine wp_region_held_drew (S := fun w' => w'.cell? ⟨w4.1.size, 2, none⟩ = some (.slice (some ⟨w4.1.size + 1, 0, none⟩) Gs.length Gs.length) /\ w'.cell? ⟨wr.1.size, 2, none⟩ = some (.int .i64 u)) (by kernel_rfl) (HSM.out _ rfl rfl) (fun hHeld => ?_)
    refine wpAnyH_take (i := 0) (oi := ⟨some 56, _, _, _, _, _⟩) (v := ?v0) rfl (by kernel_rfl) (by kernel_rfl) (by kernel_rfl) (fun _ _ _ h => h) (Or.inl ⟨by kernel_rfl, ?y0⟩) hHeld ?r0
    case' y0 => (intro w hSw; (try dsimp only at hSw); go_simp; (try with_reducible rfl))
    simp only [Act.put]
    refine wpAnyH_take (i := 1) (oi := ⟨some 57, _, _, _, _, _⟩) (v := ?v1) rfl (by kernel_rfl) (by kernel_rfl) (by kernel_rfl) (fun _ _ _ h => h) (Or.inl ⟨by kernel_rfl, ?y1⟩) hHeld ?r1
    case' y1 => (intro w hSw; (try dsimp only at hSw); go_simp; (try with_reducible rfl))
    simp only [Act.put]
    refine wpAnyH_take (i := 2) (oi := ⟨some 58, _, _, _, _, _⟩) (v := ?v2) rfl (by kernel_rfl) (by kernel_rfl) (by kernel_rfl) (fun _ _ _ h => h) (Or.inl ⟨by kernel_rfl, ?y2⟩) hHeld ?r2
    case' y2 => (intro w hSw; (try dsimp only at hSw); go_simp; (try with_reducible rfl))
    simp only [Act.put]
    refine wpAnyH_take (i := 3) (oi := ⟨some 59, _, _, _, _, _⟩) (v := ?v3) rfl (by kernel_rfl) (by kernel_rfl) (by kernel_rfl) (fun _ _ _ h => h) (Or.inl ⟨by kernel_rfl, ?y3⟩) hHeld ?r3
    case' y3 => (intro w hSw; (try dsimp only at hSw); go_simp; (try with_reducible rfl))
    simp only [Act.put]
    refine wpAnyH_take (i := 4) (oi := ⟨some 60, _, _, _, _, _⟩) (v := ?v4) rfl (by kernel_rfl) (by kernel_rfl) (by kernel_rfl) (fun _ _ _ h => h) (Or.inl ⟨by kernel_rfl, ?y4⟩) hHeld ?r4
    case' y4 => (intro w hSw; (try dsimp only at hSw); go_simp; (try with_reducible rfl))
    simp only [Act.put]
    refine wpAnyH_take (i := 5) (oi := ⟨some 61, _, _, _, _, _⟩) (v := ?v5) rfl (by kernel_rfl) (by kernel_rfl) (by kernel_rfl) (fun _ _ _ h => h) (Or.inl ⟨by kernel_rfl, ?y5⟩) hHeld ?r5
    case' y5 => (intro w hSw; (try dsimp only at hSw); go_simp; (try with_reducible rfl))
    simp only [Act.put]
    refine wpAnyH_take (i := 6) (oi := ⟨some 62, _, _, _, _, _⟩) (v := ?v6) rfl (by kernel_rfl) (by kernel_rfl) (by kernel_rfl) (fun _ _ _ h => h) (Or.inl ⟨by kernel_rfl, ?y6⟩) hHeld ?r6
    case' y6 => (intro w hSw; (try dsimp only at hSw); go_simp; (try with_reducible rfl))
    simp only [Act.put]
    refine wpAnyH_take (i := 7) (oi := ⟨some 63, _, _, _, _, _⟩) (v := ?v7) rfl (by kernel_rfl) (by kernel_rfl) (by kernel_rfl) (fun _ _ _ h => h) (Or.inl ⟨by kernel_rfl, ?y7⟩) hHeld ?r7
    case' y7 => (intro w hSw; (try dsimp only at hSw); go_simp; (try with_reducible rfl))
    simp only [Act.put]
    refine wpAnyH_take (i := 8) (oi := ⟨some 64, _, _, _, _, _⟩) (v := ?v8) rfl (by kernel_rfl) (by kernel_rfl) (by kernel_rfl) (fun _ _ _ h => h) (Or.inl ⟨by kernel_rfl, ?y8⟩) hHeld ?r8
    case' y8 => (intro w hSw; (try dsimp only at hSw); go_simp; (try with_reducible rfl))
    simp only [Act.put]
    refine wpAnyH_take (i := 10) (oi := ⟨some 66, _, _, _, _, _⟩) (v := ?v10) rfl (by kernel_rfl) (by kernel_rfl) (by kernel_rfl) (fun _ _ _ h => h) (Or.inl ⟨by kernel_rfl, ?y10⟩) hHeld ?r10
    case' y10 => (intro w hSw; (try dsimp only at hSw); go_simp; (try with_reducible rfl))
    simp only [Act.put]
    refine wpAnyH_ready (rs := [9, 11]) (by kernel_rfl) (by simp) ?_
    refine AllReadyH.cons rfl (fun K hK => ?_) (AllReadyH.cons rfl (fun K hK => ?_) AllReadyH.nil)
    ·rw [if_pos (by kernel_rfl)]
     go_simp
     refine hK.out _ _ (HSM.out _ rfl rfl) (fun hHeld2 => ?_)
     clear hK K
     try simp only [Act.put]
     refine wpAnyH_ready (rs := [11]) (by kernel_rfl) (by simp) ?_
     refine AllReadyH.cons rfl (fun K hK => ?_) AllReadyH.nil
     rw [if_pos (by kernel_rfl)]
     go_simp
     refine hK.out _ _ (HSM.out _ (HBA.out.block _ (by omega)) (HBA.out.block _ (by omega))) (fun hHeld2 => ?_)
     clear hK K
     try simp only [Act.put]
     refine wpAnyH_ready (rs := [12]) (by kernel_rfl) (by simp) ?_
     refine AllReadyH.cons rfl (fun K hK => ?_) AllReadyH.nil
     refine step_append_lies _ (by rfl) _ _ _ (by rfl) (w4.1.size + 4) 3 j0 (.int .i64 0) 1 8 Tryz.underlying35 HJ.out.1 HJ.out.2.1 HJ.out.2.2.1 HJ.out.2.2.2 rfl (by omega) Fu bn _ (by rfl) ((HOWN.out.drew).alloc _) ⟨wr.1.size + 1, 0, none⟩ 1 1 [.int .i64 k] (by rfl) (by rfl) (World.news_of_block (cs := #[.int .i64 k]) (t := 3) (fr := (0, 0)) (by rw [<- hz1]; exact heap_alloc_new _ _)) (by simp [Value.oneCell']) (by omega) (by unfold maxLen; omega) (by omega) (by simp; omega) _ rfl ?_
     intro gg9 cap9 w9 hown9 hgrow hat9 hlt9
     have hrz := (HGT.out w9 hgrow).2.2
     have c9 : w9.cell? ⟨w4.1.size + 1, u, none⟩ = some Fu := (World.cell?_of_block (w := wr.alloc CG) hrz).trans hcu
     have f9 : w9.frozen? ⟨w4.1.size + 1, u, none⟩ = false := (World.frozen?_of_block (w := wr.alloc CG) hrz).trans hfz
     have HRZ := Z0 hrz
     clear hrz
     refine hK.out _ _ (HSM.out _ (HGT.out w9 hgrow).1 (HGT.out w9 hgrow).2.1) (fun hHeld2 => ?_)
     clear hK K
     try simp only [Act.put]
     refine wpAnyH_take (i := 13) (oi := ⟨some 69, _, _, _, _, _⟩) (v := ?v13a) rfl (by kernel_rfl) (by kernel_rfl) (by kernel_rfl) (fun _ _ _ h => h) (Or.inl ⟨by kernel_rfl, ?y13a⟩) hHeld2 ?r13a
     case' y13a => (intro w hSw; (try dsimp only at hSw); go_simp; (try with_reducible rfl))
     simp only [Act.put]
     refine wpAnyH_ready (rs := [14]) (by kernel_rfl) (by simp) ?_
     refine AllReadyH.cons rfl (fun K hK => ?_) AllReadyH.nil
     rw [if_pos (by kernel_rfl)]
     go_simp
     refine hK.out _ _ (HSM.out _ ((ZA _ _ _ _ (by show w4.1.size ≠ w4.1.size + 1; omega)).trans (HGT.out w9 hgrow).1) ((ZA _ _ _ _ (by show wr.1.size ≠ w4.1.size + 1; omega)).trans (HGT.out w9 hgrow).2.1)) (fun hHeld2 => ?_)
     clear hK K
     try simp only [Act.put]
     refine wpAnyH_done (by kernel_rfl) ?_ _
     go_wp2_with fail
     go_roundw
     case rel =>
      have hbx : Below (wr.alloc CG).1.size (wr.alloc CG) ((wr.alloc CG).alloc (.cells #[.int .i64 k] 3)).drew := ((Z9 (wr.alloc CG).1.size (wr.alloc CG)).alloc (Z1 _) _).drew
      have hFx := HF1.out.below hbx
      have hg9 : ((wr.alloc CG).alloc (.cells #[.int .i64 k] 3)).drew.grownBy w9 (F u).ownBlock := by rw [<- HFU.out]; exact hgrow
      have hat : (F u).ownBlock = some gg9 \/ ((wr.alloc CG).alloc (.cells #[.int .i64 k] 3)).drew.1.size <= gg9 := by
       rw [<- HFU.out]
       exact hat9.imp id (fun h => by rw [h]; exact Z1 _)
      have ho9 := hown9
      rw [HBN.out] at ho9 ⊢
      have hput := hFx.put hu (k : Int) (by omega) ho9 hg9 hat
      have hG : (fun i => if i = u then Z2u (Z0m Gs) k u ++ [(k : Int)] else Z2u (Z0m Gs) k i) = Z2u (Z0m Gs) (k + 1) := funext fun j => by
       by_cases e : j = u
       ·subst e
        rw [if_pos rfl, HBS1.out j rfl]
       ·rw [if_neg e, HBS2.out j (by omega)]
      rw [hG] at hput
      have hlo : ∀ b, (F u).ownBlock = some b -> w4.1.size + 4 <= b := fun b hb => (HF.out.own u hu).lt b hb |>.1
      have hsx : ((wr.alloc CG).alloc (.cells #[.int .i64 k] 3)).drew.1.size = wr.1.size + 2 := by
       show ((wr.alloc CG).alloc (.cells #[.int .i64 k] 3)).1.size = _
       rw [Z6, Z6]
      have hbl9 : ∀ b, b < w4.1.size + 4 -> w9.1[b]? = wr.1[b]? := fun b hb =>
       (hg9.block b (by omega) (fun e => by have := hlo b e.symm; omega)).trans ((hbx.block b (by omega)).trans (hbc.block b (by omega)))
      refine ⟨k + 1, by omega, by go_num, ?_, ?_, ?_, ?_, ?_, _, hput⟩
      ·exact (((hB.alloc hB.size CG).trans (hbx.mono (by omega))).grown hg9 (by omega) (fun r e => by have := hlo r e; omega)).setCell (p := ⟨w4.1.size + 1, u, none⟩) (Nat.le_succ _) _
      ·have := hg9.size
       simp [World.setCell]; omega
      ·exact (ZA _ _ _ _ (by show w4.1.size ≠ w4.1.size + 1; omega)).trans ((hbl9 _ (by omega)).trans HT.out)
      ·exact (HR2.out.of_block (hbl9 _ (by omega))).setOther (by show w4.1.size + 2 ≠ w4.1.size + 1; omega) _
      ·exact (ZA _ _ _ _ (by show w4.1.size + 3 ≠ w4.1.size + 1; omega)).trans ((hbl9 _ (by omega)).trans HI3.out)
     case measure => simp [intOf]; omega
    ·rw [if_pos (by kernel_rfl)]
     go_simp
     refine hK.out _ _ (HSM.out _ (HBA.out.block _ (by omega)) (HBA.out.block _ (by omega))) (fun hHeld2 => ?_)
     clear hK K
     try simp only [Act.put]
     refine wpAnyH_ready (rs := [9]) (by kernel_rfl) (by simp) ?_
     refine AllReadyH.cons rfl (fun K hK => ?_) AllReadyH.nil
     rw [if_pos (by kernel_rfl)]
     go_simp
     refine hK.out _ _ (HSM.out _ (HBA.out.block _ (by omega)) (HBA.out.block _ (by omega))) (fun hHeld2 => ?_)
     clear hK K
     try simp only [Act.put]
     refine wpAnyH_ready (rs := [12]) (by kernel_rfl) (by simp) ?_
     refine AllReadyH.cons rfl (fun K hK => ?_) AllReadyH.nil
     refine step_append_lies _ (by rfl) _ _ _ (by rfl) (w4.1.size + 4) 3 j0 (.int .i64 0) 1 8 Tryz.underlying35 HJ.out.1 HJ.out.2.1 HJ.out.2.2.1 HJ.out.2.2.2 rfl (by omega) Fu bn _ (by rfl) ((HOWN.out.drew).alloc _) ⟨wr.1.size + 1, 0, none⟩ 1 1 [.int .i64 k] (by rfl) (by rfl) (World.news_of_block (cs := #[.int .i64 k]) (t := 3) (fr := (0, 0)) (by rw [<- hz1]; exact heap_alloc_new _ _)) (by simp [Value.oneCell']) (by omega) (by unfold maxLen; omega) (by omega) (by simp; omega) _ rfl ?_
     intro gg9 cap9 w9 hown9 hgrow hat9 hlt9
     have hrz := (HGT.out w9 hgrow).2.2
     have c9 : w9.cell? ⟨w4.1.size + 1, u, none⟩ = some Fu := (World.cell?_of_block (w := wr.alloc CG) hrz).trans hcu
     have f9 : w9.frozen? ⟨w4.1.size + 1, u, none⟩ = false := (World.frozen?_of_block (w := wr.alloc CG) hrz).trans hfz
     have HRZ := Z0 hrz
     clear hrz
     refine hK.out _ _ (HSM.out _ (HGT.out w9 hgrow).1 (HGT.out w9 hgrow).2.1) (fun hHeld2 => ?_)
     clear hK K
     try simp only [Act.put]
     refine wpAnyH_take (i := 13) (oi := ⟨some 69, _, _, _, _, _⟩) (v := ?v13b) rfl (by kernel_rfl) (by kernel_rfl) (by kernel_rfl) (fun _ _ _ h => h) (Or.inl ⟨by kernel_rfl, ?y13b⟩) hHeld2 ?r13b
     case' y13b => (intro w hSw; (try dsimp only at hSw); go_simp; (try with_reducible rfl))
     simp only [Act.put]
     refine wpAnyH_ready (rs := [14]) (by kernel_rfl) (by simp) ?_
     refine AllReadyH.cons rfl (fun K hK => ?_) AllReadyH.nil
     rw [if_pos (by kernel_rfl)]
     go_simp
     refine hK.out _ _ (HSM.out _ ((ZA _ _ _ _ (by show w4.1.size ≠ w4.1.size + 1; omega)).trans (HGT.out w9 hgrow).1) ((ZA _ _ _ _ (by show wr.1.size ≠ w4.1.size + 1; omega)).trans (HGT.out w9 hgrow).2.1)) (fun hHeld2 => ?_)
     clear hK K
     try simp only [Act.put]
     refine wpAnyH_done (by kernel_rfl) ?_ _
     go_wp2_with fail
     go_roundw
     case rel =>
      have hbx : Below (wr.alloc CG).1.size (wr.alloc CG) ((wr.alloc CG).alloc (.cells #[.int .i64 k] 3)).drew := ((Z9 (wr.alloc CG).1.size (wr.alloc CG)).alloc (Z1 _) _).drew
      have hFx := HF1.out.below hbx
      have hg9 : ((wr.alloc CG).alloc (.cells #[.int .i64 k] 3)).drew.grownBy w9 (F u).ownBlock := by rw [<- HFU.out]; exact hgrow
      have hat : (F u).ownBlock = some gg9 \/ ((wr.alloc CG).alloc (.cells #[.int .i64 k] 3)).drew.1.size <= gg9 := by
       rw [<- HFU.out]
       exact hat9.imp id (fun h => by rw [h]; exact Z1 _)
      have ho9 := hown9
      rw [HBN.out] at ho9 ⊢
      have hput := hFx.put hu (k : Int) (by omega) ho9 hg9 hat
      have hG : (fun i => if i = u then Z2u (Z0m Gs) k u ++ [(k : Int)] else Z2u (Z0m Gs) k i) = Z2u (Z0m Gs) (k + 1) := funext fun j => by
       by_cases e : j = u
       ·subst e
        rw [if_pos rfl, HBS1.out j rfl]
       ·rw [if_neg e, HBS2.out j (by omega)]
      rw [hG] at hput
      have hlo : ∀ b, (F u).ownBlock = some b -> w4.1.size + 4 <= b := fun b hb => (HF.out.own u hu).lt b hb |>.1
      have hsx : ((wr.alloc CG).alloc (.cells #[.int .i64 k] 3)).drew.1.size = wr.1.size + 2 := by
       show ((wr.alloc CG).alloc (.cells #[.int .i64 k] 3)).1.size = _
       rw [Z6, Z6]
      have hbl9 : ∀ b, b < w4.1.size + 4 -> w9.1[b]? = wr.1[b]? := fun b hb =>
       (hg9.block b (by omega) (fun e => by have := hlo b e.symm; omega)).trans ((hbx.block b (by omega)).trans (hbc.block b (by omega)))
      refine ⟨k + 1, by omega, by go_num, ?_, ?_, ?_, ?_, ?_, _, hput⟩
      ·exact (((hB.alloc hB.size CG).trans (hbx.mono (by omega))).grown hg9 (by omega) (fun r e => by have := hlo r e; omega)).setCell (p := ⟨w4.1.size + 1, u, none⟩) (Nat.le_succ _) _
      ·have := hg9.size
       simp [World.setCell]; omega
      ·exact (ZA _ _ _ _ (by show w4.1.size ≠ w4.1.size + 1; omega)).trans ((hbl9 _ (by omega)).trans HT.out)
      ·exact (HR2.out.of_block (hbl9 _ (by omega))).setOther (by show w4.1.size + 2 ≠ w4.1.size + 1; omega) _
      ·exact (ZA _ _ _ _ (by show w4.1.size + 3 ≠ w4.1.size + 1; omega)).trans ((hbl9 _ (by omega)).trans HI3.out)
     case measure => simp [intOf]; omega
  ·obtain rfl : k = Gs.length := by omega
   have hgrw := RdGrps.below HRG.out hB
   have hTW : TreeW wr w4.1.size (w4.1.size + 1) (w4.1.size + 2) (w4.1.size + 3) (w4.1.size + 4) (.slice al ls.length cl) (.slice ag Gs.length cg) Gs (Z10 (Z0x ls) (Z0m Gs)) 0 (Z7z (fun _ => 0) Gs.length) := by
    refine ⟨ht, ⟨F, hF.row, fun g hg => ?_⟩, ⟨_, hr2, fun g hg => absurd hg (Nat.not_lt_zero _)⟩, by rw [<- ZfX]; exact hi3, Z4e _ _, ⟨by omega, by omega, by omega, by omega, hz⟩, ⟨by omega, by omega, by omega, by omega, by omega, by omega⟩, hgrw⟩
    have := RowJ.of_rowI (hF.own g hg)
    have e := ZfA (Z0m Gs) g
    rw [Z1M] at e
    rw [e] at this
    exact this
   have HTW := Z0 hTW
   clear hTW hgrw ht hr2 hi3 hF hz
   go_wp2_with fail
   go_loopw [73] (fun i wr => ∃ k : Nat, k <= Gs.length /\ i = .int .i64 k /\ Below w4.1.size w4 wr /\ TreeW wr w4.1.size (w4.1.size + 1) (w4.1.size + 2) (w4.1.size + 3) (w4.1.size + 4) (.slice al ls.length cl) (.slice ag Gs.length cg) Gs (Z10 (Z0x ls) (Z0m Gs)) k (Z7z (fun _ => 0) Gs.length)) (fun i _ => Gs.length - (intOf i).toNat)
   case atStart => exact ⟨0, ZE _, rfl, hB, HTW.out⟩
   case round =>
    clear hB HTW F
    obtain ⟨wo, hwo⟩ : ∃ x, x = wr := ⟨_, rfl⟩
    subst hwo
    obtain ⟨k, hk, rfl, hB, hT⟩ := hrel
    by_cases hlt : k < Gs.length
    ·have hTlt := hT.lt
     have c3 := hT.tr.c.2.2.2.1
     have hTB : ∀ W, Below wo.1.size wo W -> Calls Tryz.prog 63 #[.pointer (some ⟨w4.1.size, 0, none⟩), .int .i64 k] W fun e w' => ∃ a cap, e = .returned (.slice a (Z10 (Z0x ls) (Z0m Gs) k).length cap) /\ Below W.1.size W w' /\ RowJ w' (w4.1.size + 4) (.slice a (Z10 (Z0x ls) (Z0m Gs) k).length cap) (Z10 (Z0x ls) (Z0m Gs) k) := fun W hW =>
      ZdF _ _ _ _ _ _ _ Gs _ k ls W (hT.below hW) HF3.out.toForest2.toForest hlt (by omega) (RdLevs.below (RdLevs.below HRL.out hB) hW) (by omega) HCT.out HIT.out
     have HTB := Z0 hTB
     have HT := Z0 hT
     have hszo := hTlt.2.2.2.2
     have hk3 : ∀ w', Below wo.1.size wo w' -> w'.cell? ⟨w4.1.size, 3, none⟩ = some (.slice (some ⟨w4.1.size + 2, 0, none⟩) Gs.length Gs.length) := fun w' hw => (hw.cell (p := ⟨w4.1.size, 3, none⟩) (by show w4.1.size < _; omega)).trans c3
     have HK3 := Z0 hk3
     clear hTB hT hk3
     go_upto_region 19 with fail
     go_region_held3 (fun w' => w'.cell? ⟨w4.1.size, 3, none⟩ = some (.slice (some ⟨w4.1.size + 2, 0, none⟩) Gs.length Gs.length))
      (first
       | exact HK3.out _ (Z9 wo.1.size wo).drew
       | exact HK3.out _ hB6
       | exact (World.cell?_of_block (w := w6) (ZA _ _ _ _ (by show w4.1.size ≠ w4.1.size + 2; omega))).trans (HK3.out _ hB6))
      (first
       | (go_at_call 63; refine (HTB.out _ (Z9 wo.1.size wo).drew).mono ?_; rintro e w6 ⟨ta, tc, rfl, hb6, hr6⟩; have hB6 : Below wo.1.size wo w6 := (Z9 wo.1.size wo).drew.trans hb6; obtain ⟨fT, k1, _⟩ := (HT.out.below hB6).tb; have k6 := k1.cell hlt; have f6 := k1.frozen k))
     all_goals
      go_wp2_with fail
      go_roundw
      case rel =>
       have hB6w : Below w4.1.size w4 w6 := Z00 hB hB.size hB6
       have hBs : Below w4.1.size w4 (w6.setCell ⟨w4.1.size + 2, k, none⟩ (.slice ta (Z10 (Z0x ls) (Z0m Gs) k).length tc)) := hB6w.setCell (p := ⟨w4.1.size + 2, k, none⟩) (by show w4.1.size <= w4.1.size + 2; omega) _
       exact ⟨k + 1, by omega, by go_num, hBs, TreeW.put (HT.out.below hB6) hlt hr6 (RdGrps.below HRG.out hBs)⟩
      case measure => simp [intOf]; omega
    ·obtain rfl : k = Gs.length := by omega
     have HT := Z0 hT
     have hpn := Z1M Gs
     clear hT
     have hcl2 := Z4g HCT.out
     have hitp := Z8F HIT.out
     have hFo := HF3.out.toForest2.toForest
     have hmok : ∀ g, g < (Z0m Gs).length -> 0 < (Z0c (Z0m Gs) g).lvl -> MOk (Z0b (Z0x ls) (Z0m Gs) g) := fun g hg hl => ZdJ hFo hcl2 hitp hg hl
     have HPR := Z0 (Z7I hFo hmok)
     have HMO := Z0 hmok
     have HFO := Z0 hFo
     have HTT := Z0 (fun g hg => (Z96 hFo hcl2 g hg).le (hitp g hg))
     clear hcl2 hitp hFo hmok
     go_wp2_with fail
     go_loopw [12] (fun i wr => ∃ r : Nat, r <= Gs.length /\ i = .int .i64 ((r : Int) - 1) /\ Below w4.1.size w4 wr /\ TreeW wr w4.1.size (w4.1.size + 1) (w4.1.size + 2) (w4.1.size + 3) (w4.1.size + 4) (.slice al ls.length cl) (.slice ag Gs.length cg) Gs (Z10 (Z0x ls) (Z0m Gs)) Gs.length (Z7z (Z1z (Z0x ls) (Z0m Gs) (Z0y (Z0x ls) (Z0m Gs) (Z0m Gs).length) (Gs.length - r)) Gs.length)) (fun i _ => (intOf i + 1).toNat)
     case atStart => exact ⟨Gs.length, Z1 _, rfl, hB, by rw [Nat.sub_self]; exact HT.out⟩
     case round =>
      clear hB
      obtain ⟨wp, hwp⟩ : ∃ x, x = wr := ⟨_, rfl⟩
      subst hwp
      obtain ⟨r, hr, rfl, hB, hT⟩ := hrel
      rcases r with _ | g
      ·have hTr : TreeW wp w4.1.size (w4.1.size + 1) (w4.1.size + 2) (w4.1.size + 3) (w4.1.size + 4) (.slice al ls.length cl) (.slice ag Gs.length cg) Gs (Z10 (Z0x ls) (Z0m Gs)) Gs.length (Z7z (Z0V (Z0x ls) (Z0m Gs)) Gs.length) := by
        have h1 := hT
        rw [Nat.sub_zero, <- hpn] at h1
        unfold Z0V
        rw [hpn] at h1 ⊢
        exact h1
       have hpass := Zcm HF3.out
       have hcle := Zcf HFO.out hpass
       have hq : ∀ g, g < Gs.length -> (Z1k (Z0m Gs) (Z0V (Z0x ls) (Z0m Gs)) g).length <= 2000 := fun g hg => by
        have hg' : g < (Z0m Gs).length := by rw [hpn]; exact hg
        rw [(hcle g hg').1]
        exact Nat.le_trans (Zjs HFO.out (Z4g HCT.out) hpass hg') (Z8F HIT.out g hg')
       have hPL := Zg9 _ _ _ _ _ _ _ Gs _ (Z0V (Z0x ls) (Z0m Gs)) np (Z0x ls) wp hTr HFO.out (by omega) (by omega) (fun g hg => by
        have hg' : g < (Z0m Gs).length := by rw [hpn]; exact hg
        have h1 := (hpass g hg').nn
        have h2 := (Z2C HFO.out hg' (hpass g hg')).1.le
        rw [(hcle g hg').1]
        unfold pN at h2
        omega) (fun g hg => by have := hq g hg; omega) (fun g hg i hi => by
        have hg' : g < (Z0m Gs).length := by rw [hpn]; exact hg
        exact HF3.out.range g hg' i (Z1B HF3.out.toForest2 g hg' i hi))
       have HPL := Z0 hPL
       have xb := (hB.cell (p := ⟨w.1.size, 3, none⟩) (by show w.1.size < _; omega)).trans HX.out
       have hTlt := hT.lt
       clear hTr hT hpass hcle hq hPL
       go_wp2_with (go_at_call 65; refine HPL.out.mono ?_; rintro e w7 ⟨rfl, hb7, hi7⟩)
       go_ret2
       have hBw : Below w.1.size w wp := HB4.out.trans (hB.mono hB4z)
       refine ⟨wp.1.size, rfl, Z00 hBw hBw.size hb7, hBw.size, ?_⟩
       rw [Z8o, hpn]
       exact hi7
      ·have e1 : (((g + 1 : Nat) : Int) - 1) = (g : Int) := by omega
       rw [e1]
       have hg : g < Gs.length := by omega
       have hg' : g < (Z0m Gs).length := by rw [hpn]; exact hg
       have hga := Z2q hg
       obtain ⟨z0, z1⟩ := HFO.out.lvl g hg'
       rw [hga] at z0 z1
       have z0' : 0 <= Gs[g].lvl := z0
       have z1' : Gs[g].lvl < ((Z0x ls).length : Int) := z1
       rw [Z3f] at z1'
       obtain ⟨lv, hle⟩ : ∃ lv : Nat, Gs[g].lvl = (lv : Int) := ⟨_, (Int.toNat_of_nonneg z0').symm⟩
       have hlv : lv < ls.length := by omega
       have hMg : MOk ((Z04 (Z0m Gs) g).map (Z10 (Z0x ls) (Z0m Gs))) := by
        by_cases h0 : 0 < (Z0c (Z0m Gs) g).lvl
        ·exact HMO.out g hg' h0
        ·have hnil : Z04 (Z0m Gs) g = [] := by
          rw [List.eq_nil_iff_forall_not_mem]
          intro h hh
          have h1 := HFO.out.sub g hg' h hh
          have h2 := (HFO.out.lvl h (by have := HFO.out.below g hg' h hh; omega)).1
          omega
         rw [hnil]
         refine ⟨by simp, fun t ht => absurd ht (by simp), fun k hk => ?_⟩
         obtain rfl : k = 0 := by simpa using hk
         exact ⟨by simp [Z05], by simp [Z05], by simp [Z05]⟩
       have hpr := HPR.out (Gs.length - (g + 1)) (by omega) g hg'
       have htl := (HTT.out g hg').2.1
       have hDV := Zdh _ _ _ _ _ _ _ Gs _ _ g ls lv wp hT hg (by omega) (RdLevs.below HRL.out hB) hlv hle (by omega) (HCT.out _ (Z4 hlv)) hMg hpr htl
       have hstep := Z7J (Z0x ls) (Z0m Gs) (Z0y (Z0x ls) (Z0m Gs) (Z0m Gs).length) (Gs.length - (g + 1))
       rw [show (Z0m Gs).length - 1 - (Gs.length - (g + 1)) = g by rw [hpn]; omega, show Gs.length - (g + 1) + 1 = Gs.length - g by omega, ZeG hg hlv hle] at hstep
       have HST := Z0 hstep
       have HDV := Z0 hDV
       have HT2 := Z0 hT
       have hTz := hT.lt
       clear hstep hDV hT hpr htl hMg z0 z1 hga e1 hle
       go_wp2_with (go_at_call 64; refine HDV.out.mono ?_; rintro e w6 ⟨⟨r, rfl⟩, hg6, hi6⟩)
       go_roundw
       case rel =>
        have hBn : Below w4.1.size w4 w6 := hB.grown hg6 (by omega) (fun r e => by injection e; omega)
        refine ⟨g, by omega, by go_num, hBn, ?_⟩
        rw [HST.out]
        exact TreeW.pass HT2.out hg6 hi6 (Z4e _ _) (RdGrps.below HRG.out hBn)
       case measure => simp [intOf]
end Go.Proofs.YtlgajongmkhcnaaGreatDoor
namespace Go.Proofs.YtlgajongmkhcnaaGreatDoor
open Go.RowKit
set_option maxRecDepth 100000
variable {ls : List Lev} {cs : List ByteArray}
def pf (zs : List Int) (i : Int) : Int := zs.getD i.toNat 0
theorem Zed {zs : List Int} {i : Nat} (h : i < zs.length) : pf zs (i : Int) = zs[i] := by
 unfold pf
 rw [Int.toNat_natCast, Z2, Z3 h]; rfl
theorem Zhz {zs : List Int} {x : Grp} (hr : ∀ i ∈ x.items, 0 <= i /\ i < (zs.length : Int)) : Z18 zs x x.items.length = takeN (pf zs) (pOf x) := by
 unfold Z18 takeN
 rw [List.take_of_length_le (Z1 _)]
 refine List.countP_congr (fun i hi => ?_)
 obtain ⟨a, b⟩ := hr i hi
 obtain ⟨j, rfl⟩ : ∃ j : Nat, i = (j : Int) := ⟨i.toNat, by omega⟩
 have hj : j < zs.length := by omega
 rw [Zed hj, Int.toNat_natCast, Z2, Z3 hj]
 exact Iff.rfl
theorem Zgr (ls : List Lev) (z : Int) : Zey ls z = ((Z0x ls).getD z.toNat (0, 0)).1 := by
 unfold Zey Z0x
 rw [Z2, Z2, List.getElem?_map]
 cases ls[z.toNat]? <;> rfl
theorem Zhg {g : Nat} (h : g < (Z0Y ls cs ls.length).length) : Z0c (pG ls cs) g = pOf (Z0Y ls cs ls.length)[g] := Z2q h
theorem Zdu (h : Z0i ls = true) (hc : ∀ c ∈ cs, Z0C c = true) (hp : ∀ l ∈ ls, ∀ c ∈ cs, l.pre <= c.size) {zs : List Int} (hz : zs.length = cs.length) (hn : Z1g ls.length zs = true) :
 Z2e ls zs (Z0Y ls cs ls.length) = true ↔ PlanOk (Z0x ls) (pG ls cs) (pf zs) := by
 have hF := Z8I h hc hp
 have hlen : (pG ls cs).length = (Z0Y ls cs ls.length).length := Z1M _
 have hg : ∀ g (hg : g < (Z0Y ls cs ls.length).length), Z4A ls zs (Z0Y ls cs ls.length)[g] = true ↔ (takeN (pf zs) (Z0c (pG ls cs) g) = 0 \/ (Z2w (Z0x ls) (pG ls cs) g).1 <= (takeN (pf zs) (Z0c (pG ls cs) g) : Int)) := fun g hg => by
  have hr := hF.range g (by omega)
  rw [Zhg hg] at hr
  unfold Z4A
  rw [Zhz (fun i hi => by have := hr i hi; omega), Zgr]
  unfold Z2w
  rw [Zhg hg]
  simp only [Bool.not_eq_true', Bool.and_eq_false_iff, decide_eq_false_iff_not]
  show (¬ 0 < takeN (pf zs) (pOf (Z0Y ls cs ls.length)[g]) \/ ¬ (takeN (pf zs) (pOf (Z0Y ls cs ls.length)[g]) : Int) < ((Z0x ls).getD ((Z0Y ls cs ls.length)[g].lvl).toNat (0, 0)).1) ↔ (takeN (pf zs) (pOf (Z0Y ls cs ls.length)[g]) = 0 \/ ((Z0x ls).getD ((Z0Y ls cs ls.length)[g].lvl).toNat (0, 0)).1 <= (takeN (pf zs) (pOf (Z0Y ls cs ls.length)[g]) : Int))
  omega
 unfold Z2e
 rw [List.all_eq_true]
 constructor
 ·intro ha
  refine ⟨fun g h1 i hi => ?_, fun g h1 => (hg g (by omega)).1 (ha _ (Z4 (by omega)))⟩
  obtain ⟨a, b⟩ := hF.range g h1 i hi
  obtain ⟨j, rfl⟩ : ∃ j : Nat, i = (j : Int) := ⟨i.toNat, by omega⟩
  rw [Zed (by omega), Z3f]
  exact Z6m hn j (by omega)
 ·intro ha x hx
  obtain ⟨g, h1, rfl⟩ := List.mem_iff_getElem.1 hx
  exact (hg g h1).2 (ha.enough g (by omega))
def Zay (ls : List Lev) (cs : List ByteArray) : List Int := Zga (Z0x ls) (pG ls cs) cs.length
theorem Z6j (ls : List Lev) (cs : List ByteArray) : (Zay ls cs).length = cs.length := by
 unfold Zay
 rw [Z8o, Z52, List.length_replicate]
theorem Zgb (ls : List Lev) (cs : List ByteArray) : pf (Zay ls cs) = Z6i (Z0x ls) (pG ls cs) cs.length := rfl
theorem Z7F (h : Z0i ls = true) (hc : ∀ c ∈ cs, Z0C c = true) (hp : ∀ l ∈ ls, ∀ c ∈ cs, l.pre <= c.size) : Z1g ls.length (Zay ls cs) = true := by
 have hF := Z8I h hc hp
 refine Z9u (fun k hk => ?_)
 have hk' : k < cs.length := by rw [Z6j] at hk; exact hk
 obtain ⟨g, h1, _, h3⟩ := hF.cover (k : Int) (by omega) (by omega)
 have := (ZbP hF).num g h1 _ h3
 rw [<- Zgb, Zed hk, Z3f] at this
 exact this
theorem Zgc (h : Z0i ls = true) (hc : ∀ c ∈ cs, Z0C c = true) (hp : ∀ l ∈ ls, ∀ c ∈ cs, l.pre <= c.size) : Z2e ls (Zay ls cs) (Z0Y ls cs ls.length) = true :=
 (Zdu h hc hp (Z6j ls cs) (Z7F h hc hp)).2 (ZbP (Z8I h hc hp))
theorem Z6p (hp : ∀ l ∈ ls, ∀ c ∈ cs, l.pre <= c.size) : cs.any (Z2z ls) = false := by
 rw [List.any_eq_false]
 intro c hc
 cases ls with
 | nil => simp [Z2z]
 | cons l r =>
  have := hp l List.mem_cons_self c hc
  simp [Z2z]; omega
theorem Z1w (ps : List Pce) : (Z06 ps).length = ps.length := by unfold Z06; simp
theorem Z93 {m : Mai} (h : Z0i ls = true) (hm : Z21 m = true) (hp : ∀ l ∈ ls, ∀ c ∈ Z06 m.ps, l.pre <= c.size) {zs : List Int} (hz : zs.length = m.ps.length) (hn : Z1g ls.length zs = true) :
 Z1X ls m zs = (Z2e ls zs (Z0Y ls (Z06 m.ps) ls.length), 0) := by
 unfold Z1X
 rw [if_pos ⟨h, hm, hz, hn⟩, Z6p hp]
 rfl
end Go.Proofs.YtlgajongmkhcnaaGreatDoor
namespace Go.Proofs.YtlgajongmkhcnaaGreatDoor
open Go.RowKit Go.Sort
set_option linter.unusedVariables false
set_option maxRecDepth 100000
structure HasPlan (ls : List Lev) (m : Mai) : Prop where
 right : Z0i ls = true
 mail : Z21 m = true
 rng : 0 <= m.cls /\ m.cls <= 255 /\ 0 <= m.ctr /\ m.ctr <= 255
 org : m.origin.size <= maxLen
 pre : ∀ l ∈ ls, ∀ c ∈ Z06 m.ps, l.pre <= c.size
theorem HasPlan.few {ls : List Lev} {m : Mai} (h : HasPlan ls m) : m.ps.length <= 2000 := (Z1F h.mail).1
theorem HasPlan.code {ls : List Lev} {m : Mai} (h : HasPlan ls m) : ∀ c ∈ Z06 m.ps, Z0C c = true := (Z7Q h.mail).2
def Z4h (ls : List Lev) (m : Mai) : List Int := Zay ls (Z06 m.ps)
theorem Z9n (ls : List Lev) (m : Mai) : (Z4h ls m).length = m.ps.length := by unfold Z4h; rw [Z6j, Z1w]
theorem HasPlan.nums {ls : List Lev} {m : Mai} (h : HasPlan ls m) : Z1g ls.length (Z4h ls m) = true := Z7F h.right h.code h.pre
theorem HasPlan.valid {ls : List Lev} {m : Mai} (h : HasPlan ls m) : Z1X ls m (Z4h ls m) = (true, 0) := by
 rw [Z93 h.right h.mail h.pre (Z9n ls m) h.nums]
 exact congrArg (fun b => (b, (0 : Int))) (Zgc h.right h.code h.pre)
theorem Ze7 {ls : List Lev} {m : Mai} (h : HasPlan ls m) {v vp : Value} {w : World} (hr : RdLevs w v ls) (hrp : RdPces w vp m.ps) :
 Calls Tryz.prog 27 #[v, Z22 m vp] w fun e w' => ∃ g, e = .returned (.tuple #[.slice (some ⟨g, 0, none⟩) m.ps.length m.ps.length, .int .i64 0]) /\ Below w.1.size w w' /\ w.1.size <= g /\ IntsAt w' g (Z4h ls m) := by
 have h1 := Zea ls v vp m w hr h.right h.mail hrp h.rng h.org h.pre
 unfold Z4h Zay
 rw [Z1w]
 exact h1
theorem Z6d {w : World} {g n : Nat} {zs : List Int} (h : IntsAt w g zs) (hn : zs.length = n) : RdInts w (.slice (some ⟨g, 0, none⟩) n n) zs := by
 have := RowJ.rd (base := 0) (RowJ.of_ints h (ZE _) zs.length)
 rw [<- hn]
 exact this
theorem Z0D {w : World} {g : Nat} {a b c d : Value} {t : TypeId} {fr : Nat × Nat} (h : w.1[g]? = some (.cells #[a, b, c, d] t fr)) :
 w.cell? ⟨g, 0, none⟩ = some a /\ w.cell? ⟨g, 1, none⟩ = some b /\ w.cell? ⟨g, 2, none⟩ = some c /\ w.cell? ⟨g, 3, none⟩ = some d :=
 ⟨cell_of_row _ _ 0 _ _ _ h, cell_of_row _ _ 1 _ _ _ h, cell_of_row _ _ 2 _ _ _ h, cell_of_row _ _ 3 _ _ _ h⟩
end Go.Proofs.YtlgajongmkhcnaaGreatDoor
namespace Go.Proofs.YtlgajongmkhcnaaGreatDoor
open Go.RowKit
set_option linter.unusedVariables false
set_option maxRecDepth 100000
def p24 (id : Int) (x : UInt16) : Pce := ⟨id, 0, Z3q (UInt8.ofNat (x.toNat / 256)), 1 + ((x.toNat / 4 % 20 : Nat) : Int), decide (x.toNat % 2 = 1)⟩
def Z7Z (l : List UInt16) : Int := (l.map (fun x => 1 + ((x.toNat % 3 : Nat) : Int))).sum
theorem Z6J (l : List UInt16) (x : UInt16) : Z7Z (l ++ [x]) = Z7Z l + (1 + ((x.toNat % 3 : Nat) : Int)) := by unfold Z7Z; simp
theorem Z7Y (l : List UInt16) : (l.length : Int) <= Z7Z l /\ Z7Z l <= 3 * l.length := by
 induction l with
 | nil => unfold Z7Z; simp
 | cons x r ih =>
  unfold Z7Z at ih ⊢
  simp only [List.map_cons, List.sum_cons, List.length_cons]
  have := Nat.mod_lt x.toNat (show 0 < 3 by decide)
  omega
def Zav (l : List UInt16) (k : Nat) : List Pce := (List.range k).map (fun i => p24 (Z7Z (l.take (i + 1))) (l.getD i 0))
theorem Z2P (l : List UInt16) (k : Nat) : (Zav l k).length = k := by unfold Zav; simp
theorem Ze4 (l : List UInt16) {k : Nat} (h : k < l.length) : Zav l (k + 1) = Zav l k ++ [p24 (Z7Z (l.take k) + (1 + ((l[k].toNat % 3 : Nat) : Int))) l[k]] := by
 unfold Zav
 rw [List.range_succ, ZD, List.map_cons, List.map_nil, Z8 h, Z6J, Z2, Z3 h]; rfl
def o24 : ByteArray := ⟨#[49, 48, 48, 50, 51]⟩
def Z08 (l : List UInt16) : Mai := ⟨1, 1, o24, Zav l l.length⟩
theorem ZhN (l : List UInt16) {k i : Nat} (h : i < (Zav l k).length) : (Zav l k)[i] = p24 (Z7Z (l.take (i + 1))) (l.getD i 0) := by unfold Zav; simp
theorem Ze5 (l : List UInt16) (hl : l.length <= 2000) : ∀ k, k <= l.length -> ZbR (Z7Z (l.take (l.length - k))) ((Zav l l.length).drop (l.length - k)) = true
 | 0, _ => by
  rw [Nat.sub_zero, List.drop_of_length_le (by rw [Z2P]; exact Z1 _)]; rfl
 | k + 1, hk => by
  have ih := Ze5 l hl k (by omega)
  have hlt : l.length - (k + 1) < (Zav l l.length).length := by rw [Z2P]; omega
  have hlt' : l.length - (k + 1) < l.length := by omega
  have e : l.length - (k + 1) + 1 = l.length - k := by omega
  rw [List.drop_eq_getElem_cons hlt, e]
  unfold ZbR
  rw [ZhN, e, ZF]
  have h1 := Z7Y (l.take (l.length - k))
  rw [List.length_take] at h1
  have h2 : Z7Z (l.take (l.length - k)) = Z7Z (l.take (l.length - (k + 1))) + (1 + ((l[l.length - (k + 1)].toNat % 3 : Nat) : Int)) := by
   rw [<- e, Z8 hlt', Z6J]
  refine ⟨?_, ih⟩
  unfold pcB p24
  simp only [ZF, decide_eq_true_eq]
  have h3 : min (l.length - k) l.length = l.length - k := by omega
  rw [h3] at h1
  refine ⟨⟨by omega, by omega, by decide, by decide⟩, ZgR _, by omega, ?_⟩
  have := Nat.mod_lt ((l.getD (l.length - (k + 1)) 0).toNat / 4) (show 0 < 20 by decide)
  omega
theorem ZeD (l : List UInt16) (hl : l.length <= 2000) : Z21 (Z08 l) = true := by
 unfold Z21 Z08
 simp only [ZF, decide_eq_true_eq]
 refine ⟨by decide, by kernel_rfl, by rw [Z2P]; exact hl, ?_⟩
 have := Ze5 l hl l.length (Z1 _)
 rw [Nat.sub_self, List.drop_zero, List.take_zero] at this
 exact this
theorem Z9D (l : List UInt16) : ∀ c ∈ Z06 (Z08 l).ps, c.size = 5 := fun c hc => by
 unfold Z06 Z08 Zav at hc
 dsimp only at hc
 rw [List.map_map] at hc
 obtain ⟨i, _, rfl⟩ := List.mem_map.1 hc
 exact Zdi _
theorem Z56 (B : Bits) (low cents : List UInt8) (l : List UInt16) (hl : l.length <= 2000) : HasPlan (Z1C B low cents) (Z08 l) := by
 refine ⟨Zd0 _ _ _, ZeD l hl, ⟨by show (0 : Int) <= 1; decide, by show (1 : Int) <= 255; decide, by show (0 : Int) <= 1; decide, by show (1 : Int) <= 255; decide⟩, by show o24.size <= maxLen; decide, fun x hx c hc => ?_⟩
 have h1 := Zgw _ _ _ x hx
 have h2 := Z9D l c hc
 omega
end Go.Proofs.YtlgajongmkhcnaaGreatDoor
namespace Go.Proofs.YtlgajongmkhcnaaGreatDoor
open Go.RowKit Go.Sort
set_option maxRecDepth 100000
theorem Tryz.infoPc : (Tryz.prog.info? 65).map (fun i => (i.zero, i.size, i.bytes)) = some (some (.agg #[.int .i64 0, .int .i64 0, .string ⟨#[]⟩, .int .i64 0, .bool false]), 5, 48) := by kernel_rfl
def pceC (p : Pce) : List Value := [.int .i64 p.id, .int .i64 p.point, .string p.code, .int .i64 p.grams, .bool p.barred]
def OwnsP (w : World) (base : Nat) (v : Value) (ps : List Pce) : Prop := w.ownsRow base 65 5 v ps.length (ps.flatMap pceC)
theorem Zca (ps : List Pce) : ∀ (k j : Nat) (hk : k < ps.length), j < 5 -> (ps.flatMap pceC)[k * 5 + j]? = (pceC ps[k])[j]? := by
 induction ps with
 | nil => intro k j hk; simp at hk
 | cons p r ih =>
  intro k j hk hj
  have hl : (pceC p).length = 5 := rfl
  rw [List.flatMap_cons]
  cases k with
  | zero => rw [List.getElem?_append_left (by omega)]; simp
  | succ k =>
   rw [List.getElem?_append_right (by omega), hl, show (k + 1) * 5 + j - 5 = k * 5 + j by omega]
   exact ih k j (by simpa using hk) hj
theorem RdPces.of_owns {w : World} {base : Nat} {v : Value} {ps : List Pce} (h : OwnsP w base v ps) : RdPces w v ps := by
 have h' : w.ownsRow base 65 5 v ps.length (ps.flatMap pceC) := h
 rcases Joins.ownsRow_forms h' with ⟨rfl, hp⟩ | ⟨g, cap, rfl⟩
 ·obtain rfl : ps = [] := List.length_eq_zero_iff.1 hp
  exact ⟨none, 0, rfl, fun h => absurd h (by simp)⟩
 ·refine ⟨_, cap, rfl, fun _ => ⟨g, 0, rfl, (h'.lt g rfl).2, fun i hi => ?_⟩⟩
  have hc : ∀ j, j < 5 -> w.cell? ⟨g, 0 + i * 5 + j, none⟩ = (pceC ps[i])[j]? := fun j hj => by
   rw [Nat.zero_add, h'.cellAt (i * 5 + j) (by omega), Zca ps i j hi hj]
  exact ⟨hc 0 (by omega), hc 1 (by omega), hc 2 (by omega), hc 3 (by omega), hc 4 (by omega)⟩
def Z9C (i : Nat) (c : ByteArray) : Pce := ⟨1 + (i : Int), 0, c, 1 + (i : Int) % 20, false⟩
def Z6u (cs : List ByteArray) (k : Nat) : List Pce := (List.range k).map (fun i => Z9C i (cs.getD i ⟨#[]⟩))
def Z7S (cs : List ByteArray) : Mai := ⟨1, 1, ⟨#[49, 48, 48, 48, 48]⟩, Z6u cs cs.length⟩
theorem ZaP (cs : List ByteArray) {k : Nat} (h : k < cs.length) : Z6u cs (k + 1) = Z6u cs k ++ [Z9C k cs[k]] := by
 unfold Z6u
 rw [List.range_succ, ZD, List.map_cons, List.map_nil, Z2, Z3 h]; rfl
theorem Z7R (cs : List ByteArray) (k : Nat) : (Z6u cs k).length = k := by unfold Z6u; simp
theorem Zhd {w : World} {g : Nat} {a b c d a' b' c' d' : Value} {t : TypeId} {fr : Nat × Nat} (h : w.1[g]? = some (.cells #[a, b, c, d] t fr)) :
 ((((w.setCell ⟨g, 0, none⟩ a').setCell ⟨g, 1, none⟩ b').setCell ⟨g, 2, none⟩ c').setCell ⟨g, 3, none⟩ d').1[g]? = some (.cells #[a', b', c', d'] t fr) := by
 simp [World.setCell, Array.getElem?_modify, h]
theorem Z3w {w : World} {g base n : Nat} {v : Value} {xs : List Value} (h : w.ownsRow base 65 5 v n xs) (hg : g < base) (a b c d : Value) :
 ((((w.setCell ⟨g, 0, none⟩ a).setCell ⟨g, 1, none⟩ b).setCell ⟨g, 2, none⟩ c).setCell ⟨g, 3, none⟩ d).ownsRow base 65 5 v n xs := by
 have k : ∀ (W : World) (j : Nat) (u : Value), W.ownsRow base 65 5 v n xs -> (W.setCell ⟨g, j, none⟩ u).ownsRow base 65 5 v n xs := fun W j u ho => ho.kept (Z07 _ _ _) (by
  cases hb : v.ownBlock with
  | none => exact .inl rfl
  | some b =>
   refine .inr (fun e => ?_)
   injection e with e
   have := (ho.lt b hb).1
   have : b = g := e
   omega)
 exact k _ _ _ (k _ _ _ (k _ _ _ (k _ _ _ h)))
theorem OwnsP.mono {w : World} {base base' : Nat} {v : Value} {ps : List Pce} (h : OwnsP w base v ps) (hb : base' <= base) : OwnsP w base' v ps := by
 obtain ⟨h1, h2 | ⟨g, cap, cur, hv, h3, h4⟩⟩ := h
 ·exact ⟨h1, .inl h2⟩
 ·exact ⟨h1, .inr ⟨g, cap, cur, hv, Nat.le_trans hb h3, h4⟩⟩
theorem Zgv (cs : List ByteArray) (vc : Value) (w : World) (hr : ReadsT w vc cs) (hl : cs.length <= 100000) :
 Calls Tryz.prog 59 #[vc] w fun e w' => ∃ vp, e = .returned (Z22 (Z7S cs) vp) /\ Below w.1.size w w' /\ OwnsP w' w.1.size vp (Z7S cs).ps := by
 obtain ⟨a, cap, rfl, hcc⟩ := hr
 have HCC := Z0 hcc
 obtain ⟨i0, hi⟩ := info_parts Tryz.infoPc
 have HI := Z0 hi
 clear hcc hi
 go_enter Tryz.func59, Tryz.ntmps59
 go_wp2_with fail
 go_loopw [9] (fun i wr => ∃ (k : Nat) (v : Value), k <= cs.length /\ i = .int .i64 k /\ Below w.1.size w wr /\ w.1.size + 2 <= wr.1.size /\ wr.1[w.1.size]? = some (.cells #[.int .u8 0, .int .u8 0, .string ⟨#[]⟩, .slice none 0 0] 34 (0, 0)) /\
  wr.1[w.1.size + 1]? = some (.cells #[.int .u8 1, .int .u8 1, .string ⟨#[49, 48, 48, 48, 48]⟩, v] 34 (0, 0)) /\ wr.ownsRow (w.1.size + 2) 65 5 v k ((Z6u cs k).flatMap pceC)) (fun i _ => cs.length - (intOf i).toNat)
 case atStart =>
  have hz : (w.alloc (.cells #[.int .u8 0, .int .u8 0, .string ⟨#[]⟩, .slice none 0 0] 34)).1.size = w.1.size + 1 := Z6 _ _
  refine ⟨0, .slice none 0 0, ZE _, rfl, ((Z9 _ w).alloc (Z1 _) _).alloc (by simp) _, by simp, (ZB _ _ _ (by omega)).trans (Z01 w _), ?_, World.ownsRow_nil _ _ _ _⟩
  have := Z01 (w.alloc (.cells #[.int .u8 0, .int .u8 0, .string ⟨#[]⟩, .slice none 0 0] 34)) (.cells #[.int .u8 1, .int .u8 1, .string ⟨#[49, 48, 48, 48, 48]⟩, .slice none 0 0] 34)
  rw [hz] at this
  exact this
 case round =>
  obtain ⟨k, v, hk, rfl, hB, hz, h0, h1, hO⟩ := hrel
  have b0 := cell_of_row wr (w.1.size + 1) 0 _ _ _ h1
  have b1 := cell_of_row wr (w.1.size + 1) 1 _ _ _ h1
  have b2 := cell_of_row wr (w.1.size + 1) 2 _ _ _ h1
  have b3 := cell_of_row wr (w.1.size + 1) 3 _ _ _ h1
  have f3 : wr.frozen? ⟨w.1.size + 1, 3, none⟩ = false := by simp [World.frozen?, h1]
  simp only [List.getElem?_toArray, List.getElem?_cons_zero, List.getElem?_cons_succ] at b0 b1 b2 b3
  have H0 := Z0 h0
  have H1 := Z0 h1
  by_cases hlt : k < cs.length
  ·obtain ⟨g, off, rfl, hg, hat⟩ := HCC.out (by omega)
   have e1 : wr.cell? ⟨g, off + k, none⟩ = some (.string cs[k]) := (hB.cell (p := ⟨g, off + k, none⟩) hg).trans (hat k hlt)
   have hsu := ZaP cs hlt
   obtain ⟨c, hc⟩ : ∃ c, c = cs[k] := ⟨_, rfl⟩
   rw [<- hc] at e1 hsu
   have HSU := Z0 hsu
   have HO := Z0 hO
   have hlo : ∀ b, v.ownBlock = some b -> w.1.size + 2 <= b := fun b hb => (hO.lt b hb).1
   have hkp : ∀ (X : Obj) (w9 : World), (wr.alloc X).grownBy w9 v.ownBlock -> ∀ b, b < w.1.size + 2 -> w9.1[b]? = wr.1[b]? := fun X w9 hg b hb =>
    (hg.block b (by rw [Z6]; omega) (fun e => by have := hlo b e.symm; omega)).trans (ZB _ _ _ (by omega))
   have HKP := Z0 hkp
   have HLO := Z0 hlo
   have hmod : (k : Int).tmod 20 = (k : Int) % 20 := Int.tmod_eq_emod_of_nonneg (Int.natCast_nonneg k)
   have hm2 : 0 <= (k : Int) % 20 /\ (k : Int) % 20 < 20 := ⟨Int.emod_nonneg _ (by omega), Int.emod_lt_of_pos _ (by omega)⟩
   clear hat hc hsu h0 h1 hkp hlo
   rcases Joins.ownsRow_forms hO with ⟨rfl, hpn⟩ | ⟨g2, cap2, rfl⟩
   ·have HPN := Z0 hpn
    clear hpn
    clear hO
    go_wp2_with (at_builtin; refine wpList_append_lies _ rfl _ _ 32 rfl (w.1.size + 2) 65 i0 (.agg #[.int .i64 0, .int .i64 0, .string ⟨#[]⟩, .int .i64 0, .bool false]) 5 48 Tryz.underlying32 HI.out.1 HI.out.2.1 HI.out.2.2.1 HI.out.2.2.2 rfl (by decide) _ k _ rfl (HO.out.alloc _) ⟨wr.1.size, 0, none⟩ 1 1 (pceC (Z9C k c)) rfl rfl (Z0f wr (pceC (Z9C k c)) _) (by simp [pceC, Value.oneCell']) (by decide) (by unfold maxLen; omega) (by omega) (by simp; omega) _ rfl ?_; intro g9 cap9 w9 hown9 hgrow hat9 hlt9; have hb9 := HKP.out _ w9 hgrow; have e3 : w9.cell? ⟨w.1.size + 1, 3, none⟩ = some _ := (World.cell?_of_block (w := wr) (hb9 (w.1.size + 1) (by omega))).trans b3; have f9 : w9.frozen? ⟨w.1.size + 1, 3, none⟩ = false := (World.frozen?_of_block (w := wr) (hb9 (w.1.size + 1) (by omega))).trans f3; have HB9 := Z0 hb9; clear hb9)
    go_roundw
    case rel =>
     have h9 : w9.1[w.1.size + 1]? = _ := (HB9.out _ (by omega)).trans H1.out
     refine ⟨k + 1, .slice (some ⟨g9, 0, none⟩) (k + 1) cap9, by omega, by go_num, ?_, ?_, ?_, ?_, ?_⟩
     ·exact ((hB.alloc hB.size _).grown hgrow (by have := hB.size; simp; omega) (fun r e => by have := HLO.out r e; omega)).setCell (p := ⟨w.1.size + 1, 3, none⟩) (Nat.le_succ _) _
     ·have := hgrow.size
      simp [World.setCell] at this ⊢; omega
     ·exact (ZA _ _ _ _ (by show w.1.size ≠ w.1.size + 1; omega)).trans ((HB9.out _ (by omega)).trans H0.out)
     ·show (w9.1.modify (w.1.size + 1) _)[w.1.size + 1]? = _
      rw [Array.getElem?_modify, if_pos rfl, h9]
      rfl
     ·rw [HSU.out, List.flatMap_append, List.flatMap_cons, List.flatMap_nil, List.append_nil]
      exact hown9.kept (Z07 _ _ _) (.inr (by show some g9 ≠ some (w.1.size + 1); have := (hown9.lt g9 rfl).1; intro e; injection e; omega))
    case measure => simp [intOf]; omega
   ·clear hO
    go_wp2_with (at_builtin; refine wpList_append_lies _ rfl _ _ 32 rfl (w.1.size + 2) 65 i0 (.agg #[.int .i64 0, .int .i64 0, .string ⟨#[]⟩, .int .i64 0, .bool false]) 5 48 Tryz.underlying32 HI.out.1 HI.out.2.1 HI.out.2.2.1 HI.out.2.2.2 rfl (by decide) _ k _ rfl (HO.out.alloc _) ⟨wr.1.size, 0, none⟩ 1 1 (pceC (Z9C k c)) rfl rfl (Z0f wr (pceC (Z9C k c)) _) (by simp [pceC, Value.oneCell']) (by decide) (by unfold maxLen; omega) (by omega) (by simp; omega) _ rfl ?_; intro g9 cap9 w9 hown9 hgrow hat9 hlt9; have hb9 := HKP.out _ w9 hgrow; have e3 : w9.cell? ⟨w.1.size + 1, 3, none⟩ = some _ := (World.cell?_of_block (w := wr) (hb9 (w.1.size + 1) (by omega))).trans b3; have f9 : w9.frozen? ⟨w.1.size + 1, 3, none⟩ = false := (World.frozen?_of_block (w := wr) (hb9 (w.1.size + 1) (by omega))).trans f3; have HB9 := Z0 hb9; clear hb9)
    go_roundw
    case rel =>
     have h9 : w9.1[w.1.size + 1]? = _ := (HB9.out _ (by omega)).trans H1.out
     refine ⟨k + 1, .slice (some ⟨g9, 0, none⟩) (k + 1) cap9, by omega, by go_num, ?_, ?_, ?_, ?_, ?_⟩
     ·exact ((hB.alloc hB.size _).grown hgrow (by have := hB.size; simp; omega) (fun r e => by have := HLO.out r e; omega)).setCell (p := ⟨w.1.size + 1, 3, none⟩) (Nat.le_succ _) _
     ·have := hgrow.size
      simp [World.setCell] at this ⊢; omega
     ·exact (ZA _ _ _ _ (by show w.1.size ≠ w.1.size + 1; omega)).trans ((HB9.out _ (by omega)).trans H0.out)
     ·show (w9.1.modify (w.1.size + 1) _)[w.1.size + 1]? = _
      rw [Array.getElem?_modify, if_pos rfl, h9]
      rfl
     ·rw [HSU.out, List.flatMap_append, List.flatMap_cons, List.flatMap_nil, List.append_nil]
      exact hown9.kept (Z07 _ _ _) (.inr (by show some g9 ≠ some (w.1.size + 1); have := (hown9.lt g9 rfl).1; intro e; injection e; omega))
    case measure => simp [intOf]; omega
  ·obtain rfl : k = cs.length := by omega
   have z0 := cell_of_row wr w.1.size 0 _ _ _ h0
   have z1 := cell_of_row wr w.1.size 1 _ _ _ h0
   have z2 := cell_of_row wr w.1.size 2 _ _ _ h0
   have z3 := cell_of_row wr w.1.size 3 _ _ _ h0
   simp only [List.getElem?_toArray, List.getElem?_cons_zero, List.getElem?_cons_succ] at z0 z1 z2 z3
   have y : ∀ j, wr.frozen? ⟨w.1.size, j, none⟩ = false := fun j => by simp [World.frozen?, h0]
   have y0 := y 0
   have y1 := y 1
   have y2 := y 2
   have y3 := y 3
   have HO := Z0 hO
   have HH0 := Z0 h0
   clear y h0 h1
   rcases Joins.ownsRow_forms hO with ⟨rfl, hpn⟩ | ⟨g2, cap2, rfl⟩
   ·have HPN := Z0 hpn
    clear hpn hO
    go_wp2_with fail
    refine bodyPost_ret (results_cell_row rfl _ _ w.1.size 34 _ (0, 0) _ rfl (Zhd HH0.out) Tryz.underlying34 rfl (by kernel_rfl)) rfl ?_
    refine ⟨_, rfl, (((hB.setCell (p := ⟨w.1.size, 0, none⟩) (Z1 _) _).setCell (p := ⟨w.1.size, 1, none⟩) (Z1 _) _).setCell (p := ⟨w.1.size, 2, none⟩) (Z1 _) _).setCell (p := ⟨w.1.size, 3, none⟩) (Z1 _) _, ?_⟩
    have ho : OwnsP wr (w.1.size + 2) (.slice none 0 0) (Z7S cs).ps := by
     unfold OwnsP Z7S
     dsimp only
     rw [Z7R]
     exact HO.out
    exact OwnsP.mono (Z3w ho (by omega) _ _ _ _) (Nat.le_add_right _ _)
   ·clear hO
    go_wp2_with fail
    refine bodyPost_ret (results_cell_row rfl _ _ w.1.size 34 _ (0, 0) _ rfl (Zhd HH0.out) Tryz.underlying34 rfl (by kernel_rfl)) rfl ?_
    refine ⟨_, rfl, (((hB.setCell (p := ⟨w.1.size, 0, none⟩) (Z1 _) _).setCell (p := ⟨w.1.size, 1, none⟩) (Z1 _) _).setCell (p := ⟨w.1.size, 2, none⟩) (Z1 _) _).setCell (p := ⟨w.1.size, 3, none⟩) (Z1 _) _, ?_⟩
    have ho : OwnsP wr (w.1.size + 2) (.slice (some ⟨g2, 0, none⟩) cs.length cap2) (Z7S cs).ps := by
     unfold OwnsP Z7S
     dsimp only
     rw [Z7R]
     exact HO.out
    exact OwnsP.mono (Z3w ho (by omega) _ _ _ _) (Nat.le_add_right _ _)
def RdU16 (w : World) (v : Value) (l : List UInt16) : Prop :=
 ∃ a cap, v = .slice a l.length cap /\ (0 < l.length -> ∃ g off, a = some ⟨g, off, none⟩ /\ g < w.1.size /\ ∀ i (h : i < l.length), w.cell? ⟨g, off + i, none⟩ = some (.int .u16 (l[i].toNat : Int)))
theorem RdU16.below {w w' : World} {v : Value} {zs : List UInt16} (h : RdU16 w v zs) (hb : Below w.1.size w w') : RdU16 w' v zs := by
 obtain ⟨a, cap, hv, hc⟩ := h
 exact ⟨a, cap, hv, fun h0 => by
  obtain ⟨g, off, ha, hg, hcc⟩ := hc h0
  exact ⟨g, off, ha, ZH hg hb.size, fun i h => (hb.cell (p := ⟨g, off + i, none⟩) hg).trans (hcc i h)⟩⟩
def Z8e (w : World) (v : Value) (l : List UInt16) : Prop := RdU16 w v l /\ (v = .slice none 0 0 \/ ∃ b off spot cap, v = .slice (some ⟨b, off, spot⟩) l.length cap /\ l.length <= cap)
theorem RdU16.take {w : World} {a : Option Addr} {n cap : Nat} {bs : List UInt16} (h : RdU16 w (.slice a n cap) bs) {k cap' : Nat} (hk : k <= bs.length) : RdU16 w (.slice a k cap') (bs.take k) := by
 obtain ⟨a', c', hv, hc⟩ := h
 injection hv with h1 h2 h3
 subst h1
 refine ⟨a, cap', by rw [List.length_take, Nat.min_eq_left hk], fun h0 => ?_⟩
 rw [List.length_take] at h0
 obtain ⟨g, off, ha, hg, hcc⟩ := hc (by omega)
 exact ⟨g, off, ha, hg, fun i hi => by rw [List.length_take] at hi; rw [hcc i (by omega), List.getElem_take]⟩
theorem Zbk (a : Nat) (ha : a < 65536) : bits .and .i64 (a : Int) 1 = ((a % 2 : Nat) : Int) := by
 have h1 : (BitVec.ofInt 64 (a : Int)).toNat = a := by
  rw [BitVec.ofInt_natCast, BitVec.toNat_ofNat]; exact Nat.mod_eq_of_lt (by omega)
 have h2 : (BitVec.ofInt 64 (1 : Int)).toNat = 1 := by decide
 show IntKind.i64.wrap ((BitVec.ofInt 64 (a : Int) &&& BitVec.ofInt 64 1).toNat : Int) = _
 rw [BitVec.toNat_and, h1, h2, Nat.and_one_is_mod]
 have := Nat.mod_lt a (show 0 < 2 by decide)
 simp [IntKind.wrap, IntKind.bits, IntKind.signed]; omega
theorem Zfi (x : UInt8) {wr : World} (W : World) (hb : Below wr.1.size wr W) (hc : W.1[wr.1.size]? = some (.cells #[.int .u8 (x.toNat : Int)] 5 (0, 0))) :
 Calls Tryz.prog 62 #[.slice (some ⟨wr.1.size, 0, none⟩) 1 1] W fun e w' => ∃ g cap, e = .returned (.slice (some ⟨g, 0, none⟩) 1 cap) /\ Below wr.1.size wr w' /\ w'.cell? ⟨g, 0, none⟩ = some (.string (Z3q x)) := by
 have hz := (Z5.1 hc).1
 refine (Zfj [x] _ _ ⟨some ⟨wr.1.size, 0, none⟩, 1, rfl, fun _ => ⟨_, 0, rfl, by omega, fun i hi => ?_⟩⟩ (by simp [maxLen])).mono ?_
 ·obtain rfl : i = 0 := by simp at hi; exact hi
  exact cell_of_row _ _ 0 _ _ _ hc
 ·rintro e w' ⟨v, rfl, hb2, ho⟩
  have ho' : w'.ownsRow _ 9 1 v 1 [.string (Z3q x)] := ho
  rcases Joins.ownsRow_forms ho' with ⟨rfl, hp⟩ | ⟨g, cap, rfl⟩
  ·exact absurd hp (by decide)
  ·exact ⟨g, cap, rfl, hb.trans (hb2.mono hb.size), by rw [ho'.cellAt 0 (by decide)]; rfl⟩
theorem ZcZ (l : List UInt16) (vl : Value) (w : World) (hr : RdU16 w vl l) (hl : l.length <= 2000) :
 Calls Tryz.prog 26 #[.int .u8 0, vl] w fun e w' => ∃ ap cp, e = .returned (Z22 (Z08 l) (.slice ap l.length cp)) /\ Below w.1.size w w' /\ OwnsP w' w.1.size (.slice ap l.length cp) (Z08 l).ps := by
 obtain ⟨a, cap, rfl, hcc⟩ := hr
 have HCC := Z0 hcc
 obtain ⟨i0, hi⟩ := info_parts Tryz.infoPc
 have HI := Z0 hi
 clear hcc hi
 go_enter Tryz.func26, Tryz.ntmps26
 go_wp2_with fail
 go_loopw [6, 7] (fun z i wr => ∃ (k : Nat) (v : Value), k <= l.length /\ z = .int .i64 (Z7Z (l.take k)) /\ i = .int .i64 k /\ Below w.1.size w wr /\ w.1.size + 2 <= wr.1.size /\ wr.1[w.1.size]? = some (.cells #[.int .u8 0, .int .u8 0, .string ⟨#[]⟩, .slice none 0 0] 34 (0, 0)) /\
  wr.1[w.1.size + 1]? = some (.cells #[.int .u8 1, .int .u8 1, .string ⟨#[49, 48, 48, 50, 51]⟩, v] 34 (0, 0)) /\ wr.ownsRow (w.1.size + 2) 65 5 v k ((Zav l k).flatMap pceC)) (fun _ i _ => l.length - (intOf i).toNat)
 case atStart =>
  have hz : (w.alloc (.cells #[.int .u8 0, .int .u8 0, .string ⟨#[]⟩, .slice none 0 0] 34)).1.size = w.1.size + 1 := Z6 _ _
  refine ⟨0, .slice none 0 0, ZE _, rfl, rfl, ((Z9 _ w).alloc (Z1 _) _).alloc (by simp) _, by simp, (ZB _ _ _ (by omega)).trans (Z01 w _), ?_, World.ownsRow_nil _ _ _ _⟩
  have := Z01 (w.alloc (.cells #[.int .u8 0, .int .u8 0, .string ⟨#[]⟩, .slice none 0 0] 34)) (.cells #[.int .u8 1, .int .u8 1, .string ⟨#[49, 48, 48, 50, 51]⟩, .slice none 0 0] 34)
  rw [hz] at this
  exact this
 case round =>
  obtain ⟨k, v, hk, rfl, rfl, hB, hz, h0, h1, hO⟩ := hrel
  have H0 := Z0 h0
  have H1 := Z0 h1
  by_cases hlt : k < l.length
  ·obtain ⟨g, off, rfl, hg, hat⟩ := HCC.out (by omega)
   have e1 : wr.cell? ⟨g, off + k, none⟩ = some (.int .u16 (l[k].toNat : Int)) := (hB.cell (p := ⟨g, off + k, none⟩) hg).trans (hat k hlt)
   have hsu := Ze4 l hlt
   have hid : Z7Z (l.take (k + 1)) = Z7Z (l.take k) + (1 + ((l[k].toNat % 3 : Nat) : Int)) := by rw [Z8 hlt, Z6J]
   have hbd := Z7Y (l.take k)
   rw [List.length_take, Nat.min_eq_left hk] at hbd
   obtain ⟨x, hx⟩ : ∃ x, x = l[k] := ⟨_, rfl⟩
   rw [<- hx] at e1 hsu hid
   have hxb : x.toNat < 65536 := x.toNat_lt
   have h3 : ((x.toNat : Int)).tmod 3 = ((x.toNat % 3 : Nat) : Int) := by rw [Int.tmod_eq_emod_of_nonneg (Int.natCast_nonneg _)]; rfl
   have h3b : x.toNat % 3 < 3 := Nat.mod_lt _ (by decide)
   have h8 : (x.toNat : Int) / 256 = ((UInt8.ofNat (x.toNat / 256)).toNat : Int) := by rw [UInt8.toNat_ofNat']; omega
   have h8b : (UInt8.ofNat (x.toNat / 256)).toNat < 256 := UInt8.toNat_lt _
   have h20 : ((x.toNat : Int) / 4).tmod 20 = ((x.toNat / 4 % 20 : Nat) : Int) := by rw [Int.tmod_eq_emod_of_nonneg (by omega)]; rfl
   have h20b : x.toNat / 4 % 20 < 20 := Nat.mod_lt _ (by decide)
   have hand := Zbk x.toNat hxb
   have hdec : (0 < x.toNat % 2) ↔ x.toNat % 2 = 1 := by omega
   obtain ⟨P, hP⟩ : ∃ P, P = p24 (Z7Z (l.take k) + (1 + ((x.toNat % 3 : Nat) : Int))) x := ⟨_, rfl⟩
   rw [<- hP] at hsu
   have hcds := fun W => Zfi (UInt8.ofNat (x.toNat / 256)) (wr := wr) W
   obtain ⟨cc, hcc⟩ : ∃ c, c = Z3q (UInt8.ofNat (x.toNat / 256)) := ⟨_, rfl⟩
   rw [<- hcc] at hcds
   have hPe : pceC P = [.int .i64 (Z7Z (l.take k) + (1 + ((x.toNat % 3 : Nat) : Int))), .int .i64 0, .string cc, .int .i64 (1 + ((x.toNat / 4 % 20 : Nat) : Int)), .bool (decide (x.toNat % 2 = 1))] := by rw [hP, hcc]; rfl
   obtain ⟨m3, hm3⟩ : ∃ z, z = x.toNat % 3 := ⟨_, rfl⟩
   obtain ⟨m8, hm8⟩ : ∃ z, z = (UInt8.ofNat (x.toNat / 256)).toNat := ⟨_, rfl⟩
   obtain ⟨m20, hm20⟩ : ∃ z, z = x.toNat / 4 % 20 := ⟨_, rfl⟩
   obtain ⟨m2, hm2⟩ : ∃ z, z = x.toNat % 2 := ⟨_, rfl⟩
   rw [<- hm3] at hid h3 h3b hPe
   rw [<- hm8] at h8 h8b hcds
   rw [<- hm20] at h20 h20b hPe
   rw [<- hm2] at hand hdec hPe
   have hm2b : m2 < 2 := by omega
   have hw8 : IntKind.u8.wrap (m8 : Int) = (m8 : Int) := by simp [IntKind.wrap, IntKind.bits, IntKind.signed]; omega
   have hdb : decide (0 < m2) = decide (m2 = 1) := by
    by_cases h : m2 = 1
    ·rw [h]; rfl
    ·rw [show m2 = 0 by omega]; rfl
   have hw20 : IntKind.i64.wrap (1 + (m20 : Int)) = 1 + (m20 : Int) := by simp [IntKind.wrap, IntKind.bits, IntKind.signed]; omega
   obtain ⟨bb, hbb⟩ : ∃ b, b = decide (m2 = 1) := ⟨_, rfl⟩
   rw [<- hbb] at hdb hPe
   obtain ⟨X, hX⟩ : ∃ X, X = x.toNat := ⟨_, rfl⟩
   rw [<- hX] at h3 h8 h20 hand e1 hxb
   have HCO := Z0 hcds
   have HSU := Z0 hsu
   have HID := Z0 hid
   have HO := Z0 hO
   have HPE := Z0 hPe
   clear hat hsu hid hO hm3 hm8 hm20 hm2 hbb hcc hP hdec hX hx hcds h0 h1 hPe
   have hbv : ∀ W, Below wr.1.size wr W -> W.cell? ⟨w.1.size + 1, 3, none⟩ = some v /\ W.frozen? ⟨w.1.size + 1, 3, none⟩ = false := fun W hW => by
    have h1 := (hW.block (w.1.size + 1) (by omega)).trans H1.out
    exact ⟨cell_of_row _ _ 3 _ _ _ h1, by simp [World.frozen?, h1]⟩
   have HBV := Z0 hbv
   obtain ⟨b3, f3⟩ := hbv wr (Z9 _ _)
   obtain ⟨va, vc, rfl⟩ := Z0B HO.out
   have HLO : Hid (∀ b, (Value.slice va k vc).ownBlock = some b -> w.1.size + 2 <= b) := fun b hb => (HO.out.lt b hb).1
   have HST : Hid (∀ w9 : World, (∀ b, b < w.1.size + 2 -> w9.1[b]? = wr.1[b]?) -> w9.cell? ⟨w.1.size + 1, 3, none⟩ = some (.slice va k vc) /\ w9.frozen? ⟨w.1.size + 1, 3, none⟩ = false) := fun w9 h9 => by
    have h1 := (h9 (w.1.size + 1) (by omega)).trans H1.out
    exact ⟨cell_of_row _ _ 3 _ _ _ h1, by simp [World.frozen?, h1]⟩
   have hX3 : (wr.alloc (.cells #[.int .u8 (m8 : Int)] 5)).cell? ⟨w.1.size + 1, 3, none⟩ = some (.slice va k vc) := (HBV.out _ ((Z9 _ wr).alloc (Z1 _) _)).1
   clear hbv
   go_wp2_with fail
   go_region_law (first | (refine step_append_lies _ (by rfl) _ _ _ (by rfl) (w.1.size + 2) 65 i0 (.agg #[.int .i64 0, .int .i64 0, .string ⟨#[]⟩, .int .i64 0, .bool false]) 5 48 Tryz.underlying32 HI.out.1 HI.out.2.1 HI.out.2.2.1 HI.out.2.2.2 rfl (by decide) (.slice va k vc) k _ (by rfl) (by first | exact ((Z09 HO.out hbC).alloc _).drew | exact (Z09 HO.out hbC).drew.alloc _) ⟨wC.1.size, 0, none⟩ 1 1 (pceC P) (by rfl) (by rfl) (by rw [HPE.out]; exact Z0f wC _ _) (by rw [HPE.out]; simp [Value.oneCell']) (by omega) (by unfold maxLen; omega) (by omega) (by have := hbC.size; show _ <= (wC.alloc _).1.size; rw [Z6]; omega) _ rfl ?_; intro g9 cap9 w9 hown9 hgrow hat9 hlt9; have HB9 : Hid (∀ b, b < w.1.size + 2 -> w9.1[b]? = wr.1[b]?) := (fun b hb => (hgrow.block b (by have := hbC.size; show b < (wC.alloc _).1.size; rw [Z6]; omega) (fun e => by have := HLO.out b e.symm; omega)).trans ((show (wC.alloc _).1[b]? = _ from ZB _ _ _ (by have := hbC.size; omega)).trans (hbC.block b (by omega)))); obtain ⟨e9, f9⟩ := HST.out w9 HB9.out) | (go_simp; go_at_call 62; refine (HCO.out _ (by first | exact ((Z9 _ wr).alloc (Z1 _) _).drew | exact (Z9 _ wr).drew.alloc (Z1 _) _) (by exact Z01 wr _)).mono ?_; rintro e wC ⟨gC, cC, rfl, hbC, hcC⟩; obtain ⟨bC3, fC3⟩ := HBV.out wC hbC; have hXC : (wC.alloc (.cells #[.int .i64 (Z7Z (l.take k) + (1 + (m3 : Int))), .int .i64 0, .string cc, .int .i64 (1 + (m20 : Int)), .bool bb] 65)).cell? ⟨w.1.size + 1, 3, none⟩ = some (.slice va k vc) := (HBV.out _ (hbC.alloc hbC.size _)).1))
   all_goals
    go_wp2_with fail
    go_roundw
    case rel =>
     have h9 : w9.1[w.1.size + 1]? = _ := (HB9.out _ (by omega)).trans H1.out
     refine ⟨k + 1, .slice (some ⟨g9, 0, none⟩) (k + 1) cap9, by omega, by rw [HID.out], by go_num, ?_, ?_, ?_, ?_, ?_⟩
     ·have hbz : Below w.1.size w (wC.alloc (.cells #[.int .i64 (Z7Z (l.take k) + (1 + (m3 : Int))), .int .i64 0, .string cc, .int .i64 (1 + (m20 : Int)), .bool bb] 65)) := (hB.trans (hbC.mono hB.size)).alloc (Nat.le_trans hB.size hbC.size) _
      exact (hbz.grown hgrow hbz.size (fun r e => by have := HLO.out r e; omega)).setCell (p := ⟨w.1.size + 1, 3, none⟩) (Nat.le_succ _) _
     ·have h1 := hgrow.size
      have h2 := hbC.size
      rw [Z6] at h1
      simp [World.setCell]; omega
     ·exact (ZA _ _ _ _ (by show w.1.size ≠ w.1.size + 1; omega)).trans ((HB9.out _ (by omega)).trans H0.out)
     ·show (w9.1.modify (w.1.size + 1) _)[w.1.size + 1]? = _
      rw [Array.getElem?_modify, if_pos rfl, h9]
      rfl
     ·rw [HSU.out, List.flatMap_append, List.flatMap_cons, List.flatMap_nil, List.append_nil]
      exact hown9.kept (Z07 _ _ _) (.inr (by show some g9 ≠ some (w.1.size + 1); have := (hown9.lt g9 rfl).1; intro e; injection e; omega))
    case measure => simp [intOf]; omega
  ·obtain rfl : k = l.length := by omega
   have z0 := cell_of_row wr w.1.size 0 _ _ _ h0
   have z1 := cell_of_row wr w.1.size 1 _ _ _ h0
   have z2 := cell_of_row wr w.1.size 2 _ _ _ h0
   have z3 := cell_of_row wr w.1.size 3 _ _ _ h0
   have b0 := cell_of_row wr (w.1.size + 1) 0 _ _ _ h1
   have b1 := cell_of_row wr (w.1.size + 1) 1 _ _ _ h1
   have b2 := cell_of_row wr (w.1.size + 1) 2 _ _ _ h1
   have b3 := cell_of_row wr (w.1.size + 1) 3 _ _ _ h1
   simp only [List.getElem?_toArray, List.getElem?_cons_zero, List.getElem?_cons_succ] at z0 z1 z2 z3 b0 b1 b2 b3
   have y : ∀ j, wr.frozen? ⟨w.1.size, j, none⟩ = false := fun j => by simp [World.frozen?, h0]
   have y0 := y 0
   have y1 := y 1
   have y2 := y 2
   have y3 := y 3
   have HO := Z0 hO
   have HH0 := Z0 h0
   obtain ⟨va, vc, rfl⟩ := Z0B HO.out
   clear y h0 h1 hO
   go_wp2_with fail
   refine bodyPost_ret (results_cell_row rfl _ _ w.1.size 34 _ (0, 0) _ rfl (Zhd HH0.out) Tryz.underlying34 rfl (by kernel_rfl)) rfl ?_
   refine ⟨va, vc, rfl, (((hB.setCell (p := ⟨w.1.size, 0, none⟩) (Z1 _) _).setCell (p := ⟨w.1.size, 1, none⟩) (Z1 _) _).setCell (p := ⟨w.1.size, 2, none⟩) (Z1 _) _).setCell (p := ⟨w.1.size, 3, none⟩) (Z1 _) _, ?_⟩
   have ho : OwnsP wr (w.1.size + 2) (.slice va l.length vc) (Z08 l).ps := by
    unfold OwnsP Z08
    dsimp only
    rw [Z2P]
    exact HO.out
   exact OwnsP.mono (Z3w ho (by omega) _ _ _ _) (Nat.le_add_right _ _)
end Go.Proofs.YtlgajongmkhcnaaGreatDoor
namespace Go.Proofs.YtlgajongmkhcnaaGreatDoor
open Go.RowKit
set_option maxRecDepth 100000
theorem Zc7 {ls : List Lev} {cs : List ByteArray} {ps : List Pce} {zs : List Int} (h : cs.length = ps.length) (hz : zs.length = ps.length) (hn : Z1g ls.length zs = true) : OwnIn ps zs (Z0Y ls cs ls.length) := by
 refine ⟨fun i hi => ?_, fun x hx y hy hl i h1 h2 => ?_⟩
 ·obtain ⟨h0, h1⟩ := Z6m hn i (by omega)
  obtain ⟨m, hm⟩ : ∃ m : Nat, zs[i]'(by omega) = (m : Int) := ⟨_, (Int.toNat_of_nonneg h0).symm⟩
  have hic : i < cs.length := by omega
  refine ⟨gAt ls cs ls.length m (Z0e (lv ls m) cs[i]), Z20.2 ⟨m, _, by omega, Zes hic, rfl⟩, ?_, ?_⟩
  ·rw [Z2, Z3 (by omega), Option.getD_some, hm]; rfl
  ·exact Z3j.2 ⟨i, hic, rfl, rfl⟩
 ·obtain ⟨m, n, hm, hn, rfl⟩ := Z20.1 hx
  obtain ⟨m', n', hm', hn', rfl⟩ := Z20.1 hy
  have e : (m : Int) = (m' : Int) := hl
  obtain rfl : m = m' := by omega
  obtain ⟨j, hj, h3, rfl⟩ := Z3j.1 h1
  obtain ⟨j', hj', h4, h5⟩ := Z3j.1 h2
  obtain rfl : j = j' := by omega
  rw [<- h3, <- h4]
theorem Z8M {α : Type} : ∀ L : List (List α), (∀ l ∈ L, 1 <= l.length) -> L.length <= L.flatten.length
 | [], _ => Z1 _
 | l :: r, h => by
  have := Z8M r (fun x hx => h x (List.mem_cons_of_mem _ hx))
  have := h l List.mem_cons_self
  rw [List.length_cons, List.flatten_cons, ZC]
  omega
theorem ZdD {α β : Type} (f : α -> List β) (L : List α) (n : Nat) : ((L.take n).flatMap f).length <= (L.flatMap f).length := by
 conv => rhs; rw [<- List.take_append_drop n L, List.flatMap_append, ZC]
 omega
theorem ZbQ {k : Pck} {ps : List Pce} {zs : List Int} {Gs : List Grp} (hk : 1 <= k.pieces) (hg0 : 0 <= k.grams) (hb : 1 <= k.bundles) (ht : 1 <= k.trays) (hg : ∀ p ∈ ps, p.grams <= k.grams) (hu : Z4K ps) (hG : GrpsIn ps Gs) (ho : OwnIn ps zs Gs) (n : Nat) (hn : n <= Gs.length) :
 (Z1Y k ps zs Gs n).buns.length <= ps.length /\ (Z1Y k ps zs Gs n).tras.length <= ps.length /\ (Z1Y k ps zs Gs n).cons.length <= ps.length /\ (Z1Y k ps zs Gs n).beg <= (Z1Y k ps zs Gs n).tras.length := by
 have hok := Zeb hb ht ps zs Gs n hn
 have hF := Z8p hb ht hG.order (ps := ps) (zs := zs) n hn
 have hids := Zci (zs := zs) hk hg0 hg hG
 have hperm := Z7t hG ho
 have h1 : (Z1Y k ps zs Gs n).buns.length <= ps.length := by
  rw [hok.buns]
  refine Nat.le_trans (ZdD _ _ _) ?_
  have h2 := Z8M ((Gs.flatMap (Z0S k ps zs)).map (fun b => b.ids)) (fun l hl => by
   obtain ⟨b, hb, rfl⟩ := List.mem_map.1 hl
   obtain ⟨x, hx, hb⟩ := List.mem_flatMap.1 hb
   exact List.length_pos_iff.2 ((Z2g (zs := zs) hk hg0 hg hu hG hx).2 b hb).2.2.1)
  rw [Z1o, hids, Z7, Z7, hperm.length_eq, (Z0K _).2.1] at h2
  exact h2
 have h2 := Z8M ((Z1Y k ps zs Gs n).tras.map (fun t => t.bs)) (fun l hl => by
  obtain ⟨t, ht, rfl⟩ := List.mem_map.1 hl
  exact (hF.tl t ht).1)
 rw [Z1o, hok.nb, (Z0K _).2.1, Z7] at h2
 have h3 := Z8M ((Z1Y k ps zs Gs n).cons.map (fun t => t.ts)) (fun l hl => by
  obtain ⟨t, ht, rfl⟩ := List.mem_map.1 hl
  exact (hF.cl t ht).1)
 rw [Z1o, hok.nt, (Z0K _).2.1, Z7] at h3
 have h4 := hok.beg
 exact ⟨h1, by omega, by omega, h4⟩
theorem Zee : ∀ (ps : List Pce) (b : Int), ZbR b ps = true -> (∀ p ∈ ps, b < p.id /\ p.id <= 999999 /\ 1 <= p.grams /\ p.grams <= 50000) /\ ps.Pairwise (fun p q => p.id < q.id)
 | [], _, _ => ⟨by simp, List.Pairwise.nil⟩
 | p :: r, b, h => by
  unfold ZbR at h
  rw [ZF] at h
  obtain ⟨h1, h2⟩ := h
  obtain ⟨h3, h4⟩ := Zee r p.id h2
  unfold pcB at h1
  simp only [ZF, decide_eq_true_eq] at h1
  obtain ⟨⟨a1, a2, _⟩, _, a3, a4⟩ := h1
  refine ⟨fun q hq => ?_, List.pairwise_cons.2 ⟨fun q hq => (h3 q hq).1, h4⟩⟩
  rcases List.mem_cons.1 hq with rfl | hq
  ·exact ⟨a1, a2, a3, a4⟩
  ·obtain ⟨b1, b2⟩ := h3 q hq
   exact ⟨by omega, b2⟩
theorem Z8z {m : Mai} (h : Z21 m = true) : (∀ p ∈ m.ps, 0 < p.id /\ p.id <= 999999 /\ 1 <= p.grams /\ p.grams <= 50000) /\ Z4K m.ps := by
 unfold Z21 at h
 simp only [ZF] at h
 obtain ⟨h1, h2⟩ := Zee m.ps 0 h.2.2.2
 refine ⟨h1, fun i j hij hj => ?_⟩
 have e : ∀ q : Nat, (hq : q < m.ps.length) -> Z17 m.ps (q : Int) = m.ps[q] := fun q hq => by
  unfold Z17
  rw [Int.toNat_natCast, Z2, Z3 hq]; rfl
 rw [e i (by omega), e j hj]
 exact List.pairwise_iff_getElem.1 h2 i j (by omega) hj hij
end Go.Proofs.YtlgajongmkhcnaaGreatDoor
namespace Go.Proofs.YtlgajongmkhcnaaGreatDoor
open Go.RowKit Go.Maps Go.WideMaps
set_option maxRecDepth 100000
theorem Z2H : Keyed Tryz.prog 3 := int_keyed Tryz.underlying3
def OwnsII (w : World) (B n : Nat) (f : Int -> Option Int) (c : Nat) : Prop :=
 ∃ D : DataW Unit, w.ownsMap Tryz.prog 3 (plainElem Tryz.prog 3) B n D /\ Maps.size D = c /\ ∀ x : Int, (f x = none -> Maps.has D (.int .i64 x) = false) /\ ∀ y, f x = some y -> Maps.has D (.int .i64 x) = true /\ ∀ zd, D.atKey (.int .i64 x) zd = .lit (.int .i64 y)
theorem OwnsII.made (w : World) : OwnsII (w.alloc (.map #[] 0)) w.1.size 0 (fun _ => none) 0 :=
 ⟨.map [], World.ownsMap_made _ _ _ _, rfl, fun s => ⟨fun _ => rfl, fun y h => by cases h⟩⟩
section
variable {w w' : World} {B n c : Nat} {f : Int -> Option Int}
theorem OwnsII.kept {row : Option Nat} (h : OwnsII w B n f c) (hg : w.grownBy w' row) (hne : some B ≠ row) : OwnsII w' B n f c := by
 obtain ⟨D, hD, hc, hf⟩ := h
 exact ⟨D, hD.kept hg hne, hc, hf⟩
theorem OwnsII.below (h : OwnsII w B n f c) (hb : Below w.1.size w w') : OwnsII w' B n f c := h.kept (Z0a hb) (by simp)
theorem OwnsII.look (h : OwnsII w B n f c) {t : TypeId} (ht : Tryz.prog.underlying t = some (.map 3 3)) {x : Int} (hx : (Lit.int .i64 x).wf = true) :
 (Instr.lookup t (.map (some B)) (.int .i64 x) true).run Tryz.prog w = .ok (.tuple #[.int .i64 ((f x).getD 0), .bool (f x).isSome]) w := by
 obtain ⟨D, hD, _, hf⟩ := h
 obtain ⟨v, ps, hrun, hv⟩ := hD.look_ok Z2H ht (intLaw.zero w) (intLaw.lay 0 (by decide)) (keyOf_int_mk Tryz.underlying3 hx)
 rw [hrun]
 obtain ⟨h1, h2⟩ := hf x
 cases hfs : f x with
 | none =>
  rw [atKey_of_not_has (h1 hfs)] at hv
  rw [intLaw.inv _ _ _ hv, h1 hfs]; rfl
 | some y =>
  rw [(h2 y hfs).2] at hv
  rw [intLaw.inv _ _ _ hv, (h2 y hfs).1]; rfl
theorem OwnsII.update (h : OwnsII w B n f c) {t : TypeId} (ht : Tryz.prog.underlying t = some (.map 3 3)) (hn : n < maxLen) {x y : Int} (hx : (Lit.int .i64 x).wf = true) (hy : (Lit.int .i64 y).wf = true) (hnone : f x = none) :
 ∃ w', (Instr.mapUpdate t (.map (some B)) (.int .i64 x) (.int .i64 y)).run Tryz.prog w = .ok () w' /\ OwnsII w' B (n + 1) (fun u => if u = x then some y else f u) (c + 1) /\ w.grownBy w' (some B) := by
 obtain ⟨D, hD, hc, hf⟩ := h
 obtain ⟨w', hrun, h1, h2⟩ := hD.update Z2H ht hn (keyOf_int_mk Tryz.underlying3 hx) (intLaw.lay y hy)
 have htd := hD.tidy Z2H
 refine ⟨w', hrun, ⟨_, h1, ?_, fun u => ?_⟩, h2⟩
 ·rw [size_put htd, (hf x).1 hnone, if_neg (by decide), hc]
 ·have hm := hD.isMap
  have hk : WideAt.IsKeyLit (Lit.int .i64 x) := trivial
  dsimp only
  by_cases e : u = x
  ·subst e
   rw [if_pos rfl]
   refine ⟨fun h => (by cases h), fun y' h => ?_⟩
   obtain rfl := Option.some.inj h
   exact ⟨has_put_same hm hk _, fun zd => atKey_put_same hm hk _ zd⟩
  ·rw [if_neg e]
   have hne : Lit.int .i64 u ≠ Lit.int .i64 x := fun h => e (by injection h)
   exact ⟨fun h => by rw [<- (hf u).1 h]; exact has_put_other hne _, fun y' hy => ⟨by rw [<- ((hf u).2 y' hy).1]; exact has_put_other hne _, fun zd => by rw [<- ((hf u).2 y' hy).2 zd]; exact atKey_put_other hne _ _⟩⟩
theorem OwnsII.drop (h : OwnsII w B n f (c + 1)) {t : TypeId} (ht : Tryz.prog.underlying t = some (.map 3 3)) {x y : Int} (hx : (Lit.int .i64 x).wf = true) (hsome : f x = some y) (ty : TypeId) :
 ∃ w', (Builtin.delete_ #[t, 3] ty #[.map (some B), .int .i64 x]).run Tryz.prog w = .ok (.tuple #[]) w' /\ OwnsII w' B n (fun u => if u = x then none else f u) c /\ w.grownBy w' (some B) := by
 obtain ⟨D, hD, hc, hf⟩ := h
 obtain ⟨w', hrun, h1, h2⟩ := hD.drop Z2H ht (keyOf_int_mk Tryz.underlying3 hx) ty
 have htd := hD.tidy Z2H
 refine ⟨w', hrun, ⟨_, h1, ?_, fun u => ?_⟩, h2.grown⟩
 ·have := size_del htd (k := Lit.int .i64 x)
  rw [((hf x).2 y hsome).1, if_pos rfl, hc] at this
  omega
 ·dsimp only
  by_cases e : u = x
  ·subst e
   rw [if_pos rfl]
   exact ⟨fun _ => has_del_same, fun y' h => by cases h⟩
  ·rw [if_neg e]
   have hne : Lit.int .i64 u ≠ Lit.int .i64 x := fun h => e (by injection h)
   exact ⟨fun h => by rw [<- (hf u).1 h]; exact has_del_other hne, fun y' hy => ⟨by rw [<- ((hf u).2 y' hy).1]; exact has_del_other hne, fun zd => by rw [<- ((hf u).2 y' hy).2 zd]; exact atKey_del_other hne _⟩⟩
theorem OwnsII.len (h : OwnsII w B n f c) {t : TypeId} (ht : Tryz.prog.underlying t = some (.map 3 3)) (ty : TypeId) : (Builtin.len_ #[t] ty #[.map (some B)]).run Tryz.prog w = .ok (.int .i64 (c : Nat)) w := by
 obtain ⟨D, hD, hc, _⟩ := h
 rw [<- hc]
 exact hD.len ht ty
end
theorem Z5z (w : World) {ops : Array Oper} {rest : List Oper} {o : Oper} {a : Act} {Q : Exit -> Act -> World -> Prop}
 (hg : o.guard = none) (m x v : Operand) (t : TypeId) (hop : o.op = Op.mapUpdate t m x v) (ht : Tryz.prog.underlying t = some (.map 3 3)) (B n c : Nat) (f : Int -> Option Int)
 (hm : a.eval m = .map (some B)) (hown : OwnsII w B n f c) (hn : n < maxLen) (s y : Int) (hs : (Lit.int .i64 s).wf = true) (hy : (Lit.int .i64 y).wf = true) (hnone : f s = none) (hx : a.eval x = .int .i64 s) (hv : a.eval v = .int .i64 y)
 (hK : ∀ w', OwnsII w' B (n + 1) (fun u => if u = s then some y else f u) (c + 1) -> w.grownBy w' (some B) -> wpList Tryz.prog ops Q rest (a.put o.dst undef) w') : wpList Tryz.prog ops Q (o :: rest) a w := by
 refine wpList_plain hg fun K' hK' => ?_
 obtain ⟨w', hrun, r1, r2⟩ := hown.update ht hn hs hy hnone
 unfold Oper.wp
 simp [execOp, hop, hm, hx, hv, hrun, Result.andThen]
 exact hK' _ _ (hK w' r1 r2)
theorem Z7c (w : World) {ops : Array Oper} {rest : List Oper} {o : Oper} {a : Act} {Q : Exit -> Act -> World -> Prop}
 (hg : o.guard = none) (m x : Operand) (t : TypeId) (hop : o.op = Op.call { callee := Callee.builtin Builtin.delete, args := #[m, x], argTypes := #[t, 3] }) (ht : Tryz.prog.underlying t = some (.map 3 3)) (B n c : Nat) (f : Int -> Option Int)
 (hm : a.eval m = .map (some B)) (hown : OwnsII w B n f (c + 1)) (s y : Int) (hs : (Lit.int .i64 s).wf = true) (hsome : f s = some y) (hx : a.eval x = .int .i64 s)
 (hK : ∀ w', OwnsII w' B n (fun u => if u = s then none else f u) c -> w.grownBy w' (some B) -> wpList Tryz.prog ops Q rest (a.put o.dst (.tuple #[])) w') : wpList Tryz.prog ops Q (o :: rest) a w := by
 refine wpList_plain hg fun K' hK' => ?_
 obtain ⟨w', hrun, r1, r2⟩ := hown.drop ht hs hsome o.type
 unfold Oper.wp
 simp [execOp, hop, resolve, invoke, builtin, hm, hx, hrun, Result.andThen]
 exact hK' _ _ (hK w' r1 r2)
theorem Z1K (w : World) {ops : Array Oper} {rest : List Oper} {o : Oper} {a : Act} {Q : Exit -> Act -> World -> Prop}
 (hg : o.guard = none) (m x : Operand) (t : TypeId) (hop : o.op = Op.lookup t m x true) (ht : Tryz.prog.underlying t = some (.map 3 3)) (B n c : Nat) (f : Int -> Option Int)
 (hm : a.eval m = .map (some B)) (hown : OwnsII w B n f c) (s : Int) (hs : (Lit.int .i64 s).wf = true) (hx : a.eval x = .int .i64 s) (y : Option Int) (hy : f s = y)
 (hK : wpList Tryz.prog ops Q rest (a.put o.dst (.tuple #[.int .i64 (y.getD 0), .bool y.isSome])) w) : wpList Tryz.prog ops Q (o :: rest) a w := by
 subst hy
 refine wpList_plain hg fun K' hK' => ?_
 have hrun := hown.look ht hs
 unfold Oper.wp
 simp [execOp, hop, hm, hx, hrun, Result.andThen]
 exact hK' _ _ hK
theorem Z8h (w : World) {ops : Array Oper} {rest : List Oper} {o : Oper} {a : Act} {Q : Exit -> Act -> World -> Prop}
 (hg : o.guard = none) (m : Operand) (t : TypeId) (hop : o.op = Op.call { callee := Callee.builtin Builtin.len, args := #[m], argTypes := #[t] }) (ht : Tryz.prog.underlying t = some (.map 3 3)) (B n c : Nat) (f : Int -> Option Int)
 (hm : a.eval m = .map (some B)) (hown : OwnsII w B n f c)
 (hK : wpList Tryz.prog ops Q rest (a.put o.dst (.int .i64 (c : Nat))) w) : wpList Tryz.prog ops Q (o :: rest) a w := by
 refine wpList_plain hg fun K' hK' => ?_
 have hrun := hown.len ht o.type
 unfold Oper.wp
 simp [execOp, hop, resolve, invoke, builtin, hm, hrun, Result.andThen]
 exact hK' _ _ hK
open Classical in
noncomputable def Z7b (ps : List Pce) (n : Nat) (pre : List Int) (u : Int) : Option Int :=
 if h : ∃ j : Nat, j < n /\ (Z17 ps (j : Int)).id = u /\ u ∉ pre then some ((Classical.choose h : Nat) : Int) else none
theorem Z1R {ps : List Pce} (hu : Z4K ps) {n j : Nat} {pre : List Int} (hn : n <= ps.length) (hj : j < n) (h : (Z17 ps (j : Int)).id ∉ pre) : Z7b ps n pre (Z17 ps (j : Int)).id = some (j : Int) := by
 have hex : ∃ j' : Nat, j' < n /\ (Z17 ps (j' : Int)).id = (Z17 ps (j : Int)).id /\ (Z17 ps (j : Int)).id ∉ pre := ⟨j, hj, rfl, h⟩
 unfold Z7b
 rw [dif_pos hex]
 obtain ⟨h1, h2, _⟩ := Classical.choose_spec hex
 congr 1
 exact Zb0 hu (by constructor <;> omega) (by constructor <;> omega) h2
theorem Z2J {ps : List Pce} {n : Nat} {pre : List Int} {u : Int} (h : ∀ j : Nat, j < n -> (Z17 ps (j : Int)).id = u -> u ∈ pre) : Z7b ps n pre u = none := by
 unfold Z7b
 rw [dif_neg]
 rintro ⟨j, h1, h2, h3⟩
 exact h3 (h j h1 h2)
theorem Z5b {ps : List Pce} (hu : Z4K ps) {n : Nat} (hn : n <= ps.length) (pre : List Int) (u : Int) : Z7b ps n pre u = none \/ ∃ j : Nat, j < n /\ (Z17 ps (j : Int)).id = u /\ u ∉ pre /\ Z7b ps n pre u = some (j : Int) := by
 by_cases h : ∃ j : Nat, j < n /\ (Z17 ps (j : Int)).id = u /\ u ∉ pre
 ·obtain ⟨j, h1, h2, h3⟩ := h
  refine .inr ⟨j, h1, h2, h3, ?_⟩
  subst h2
  exact Z1R hu hn h1 h3
 ·exact .inl (Z2J (fun j hj he => Classical.byContradiction (fun hc => h ⟨j, hj, he, hc⟩)))
theorem ZeM {ps : List Pce} (hu : Z4K ps) {j : Nat} (hj : j < ps.length) : (fun u => if u = (Z17 ps (j : Int)).id then some (j : Int) else Z7b ps j [] u) = Z7b ps (j + 1) [] := by
 funext u
 by_cases e : u = (Z17 ps (j : Int)).id
 ·rw [if_pos e, e, Z1R hu (by omega) (Nat.lt_succ_self _) (by simp)]
 ·rw [if_neg e]
  rcases Z5b hu (show j <= ps.length by omega) [] u with h | ⟨i, h1, h2, _, h4⟩
  ·rw [h]
   symm
   refine Z2J (fun i hi he => ?_)
   exfalso
   by_cases hij : i = j
   ·subst hij; exact e he.symm
   ·have := Z1R hu (show j <= ps.length by omega) (show i < j by omega) (pre := []) (by simp)
    rw [he, h] at this
    cases this
  ·rw [h4, <- h2, Z1R hu (by omega) (by omega) (by simp)]
theorem ZeN {ps : List Pce} (hu : Z4K ps) {n : Nat} (hn : n <= ps.length) (pre : List Int) (x : Int) : (fun u => if u = x then none else Z7b ps n pre u) = Z7b ps n (pre ++ [x]) := by
 funext u
 by_cases e : u = x
 ·rw [if_pos e, Z2J (fun j _ _ => by rw [e]; simp)]
 ·rw [if_neg e]
  rcases Z5b hu hn pre u with h | ⟨i, h1, h2, h3, h4⟩
  ·rw [h]
   symm
   refine Z2J (fun i hi he => ?_)
   refine List.mem_append_left _ (Classical.byContradiction (fun hc => ?_))
   subst he
   rw [Z1R hu hn hi hc] at h
   cases h
  ·rw [h4]
   subst h2
   rw [Z1R hu hn h1 (by
    intro hc
    rcases ZG.1 hc with hc | hc
    ·exact h3 hc
    ·exact e (ZI.1 hc))]
end Go.Proofs.YtlgajongmkhcnaaGreatDoor
