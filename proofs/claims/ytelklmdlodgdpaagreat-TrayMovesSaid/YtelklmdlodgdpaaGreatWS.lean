/-
  presort.Plan at a right scheme and a right mailing.
-/
import Derived.Test.YtelklmdlodgdpaaGreatGJ
import Derived.Test.YtelklmdlodgdpaaGreatGG
import Derived.Deep.RegionHeld3
import Derived.Deep.AppendLies
import Derived.Deep.DeepCutAuto
namespace Go.Proofs.YtelklmdlodgdpaaGreat
open Go.RowKit Go.Sort Go.Shelf
set_option linter.unusedVariables false
set_option maxRecDepth 100000
theorem short_none {ls : List Lev} {cs : List ByteArray} (h : rightB ls = true) (hp : ∀ l ∈ ls, ∀ c ∈ cs, l.pre ≤ c.size) : cs.any (shortB ls) = false := by
  rw [List.any_eq_false]
  intro c hc
  have hl := right_len h
  rw [shortB_eq (by omega)]
  have := hp _ (List.getElem_mem (show 0 < ls.length by omega)) c hc
  simp
  omega
/-- The tree as Plan makes it. -/
theorem tree_made {w4 W : World} {v vg : Value} {n : Nat}
    (h : W = (((w4.alloc (.cells #[v, vg, .slice (some ⟨w4.heap.size + 1, 0, none⟩) n n, .slice (some ⟨w4.heap.size + 1 + 1, 0, none⟩) n n, .slice (some ⟨w4.heap.size + 1 + 1 + 1, 0, none⟩) n n] 116)).alloc (.cells (madeCells #[.slice none 0 0] n) 30)).alloc (.cells (madeCells #[.slice none 0 0] n) 30)).alloc (.cells (madeCells #[.int .i64 0] n) 3)) :
    TreeAt W w4.heap.size v vg n (w4.heap.size + 1) (w4.heap.size + 2) (w4.heap.size + 3) ∧ W.rowIs (w4.heap.size + 1) 30 n (fun _ => .slice none 0 0) ∧ W.rowIs (w4.heap.size + 2) 30 n (fun _ => .slice none 0 0) ∧ IntsAt W (w4.heap.size + 3) (List.replicate n 0) ∧
      Below w4.heap.size w4 W ∧ W.heap.size = w4.heap.size + 4 := by
  obtain ⟨A, hA⟩ : ∃ A, A = w4.alloc (.cells #[v, vg, .slice (some ⟨w4.heap.size + 1, 0, none⟩) n n, .slice (some ⟨w4.heap.size + 1 + 1, 0, none⟩) n n, .slice (some ⟨w4.heap.size + 1 + 1 + 1, 0, none⟩) n n] 116) := ⟨_, rfl⟩
  obtain ⟨B, hB⟩ : ∃ B, B = A.alloc (.cells (madeCells #[.slice none 0 0] n) 30) := ⟨_, rfl⟩
  obtain ⟨C, hC⟩ : ∃ C, C = B.alloc (.cells (madeCells #[.slice none 0 0] n) 30) := ⟨_, rfl⟩
  have hD : W = C.alloc (.cells (madeCells #[.int .i64 0] n) 3) := by rw [h, hC, hB, hA]
  have zA : A.heap.size = w4.heap.size + 1 := by rw [hA]; exact World.size_alloc _ _
  have zB : B.heap.size = w4.heap.size + 2 := by rw [hB, World.size_alloc, zA]
  have zC : C.heap.size = w4.heap.size + 3 := by rw [hC, World.size_alloc, zB]
  have bA : Below w4.heap.size w4 A := by rw [hA]; exact (Below.refl _ _).alloc (Nat.le_refl _) _
  have bB : Below A.heap.size A B := by rw [hB]; exact (Below.refl _ _).alloc (Nat.le_refl _) _
  have bC : Below B.heap.size B C := by rw [hC]; exact (Below.refl _ _).alloc (Nat.le_refl _) _
  have bD : Below C.heap.size C W := by rw [hD]; exact (Below.refl _ _).alloc (Nat.le_refl _) _
  have tA : TreeAt A w4.heap.size v vg n (w4.heap.size + 1) (w4.heap.size + 2) (w4.heap.size + 3) := by rw [hA]; exact alloc_new w4 _
  have rB : B.rowIs (w4.heap.size + 1) 30 n (fun _ => .slice none 0 0) := by rw [← zA, hB]; exact World.rowIs_made A _ _ _
  have rC : C.rowIs (w4.heap.size + 2) 30 n (fun _ => .slice none 0 0) := by rw [← zB, hC]; exact World.rowIs_made B _ _ _
  have iD : IntsAt W (w4.heap.size + 3) (List.replicate n 0) := by rw [← zC, hD]; exact made_ints C n
  refine ⟨(bD.block _ (by omega)).trans ((bC.block _ (by omega)).trans ((bB.block _ (by omega)).trans tA)), rowIs_below (rowIs_below rB bC (by omega)) bD (by omega), rowIs_below rC bD (by omega), iD, below_c (below_c (below_c bA bA.size bB) (by omega) bC) (by omega) bD, by rw [hD, World.size_alloc, zC]⟩
set_option maxHeartbeats 16000000 in
theorem plan25_ok (ls : List Lev) (v vp : Value) (m : Mai) (w : World) (hr : RdLevs w v ls) (hri : rightB ls = true) (hm : mailB m = true) (hrp : RdPces w vp m.ps) (h8 : 0 ≤ m.cls ∧ m.cls ≤ 255 ∧ 0 ≤ m.ctr ∧ m.ctr ≤ 255) (hom : m.origin.size ≤ maxLen)
    (hsh : ∀ l ∈ ls, ∀ c ∈ codesM m.ps, l.pre ≤ c.size) :
    Calls Tryz.prog 21 #[v, maiV m vp] w fun e w' => ∃ g, e = .returned (.tuple #[.slice (some ⟨g, 0, none⟩) m.ps.length m.ps.length, .int .i64 0]) ∧ Below w.heap.size w w' ∧ w.heap.size ≤ g ∧ IntsAt w' g (planR (plsOf ls) (pG ls (codesM m.ps)) m.ps.length) := by
  obtain ⟨hcl, hcc⟩ := mail_codes hm
  have hlen := right_len hri
  have hcz : ∀ c ∈ codesM m.ps, c.size ≤ maxLen := fun c hc => by have := codeB_size (hcc c hc); unfold maxLen; omega
  have hpl : m.ps.length ≤ 2000 := by have := hcl; unfold codesM at this; rwa [List.length_map] at this
  have hclen : (codesM m.ps).length = m.ps.length := by unfold codesM; simp
  have HRT := Lib.hid (fun W (hW : Below w.heap.size w W) => right_any ls v W (hr.below hW) (right_fits hri) (by unfold maxLen; omega))
  have HML := Lib.hid (fun W (hW : Below w.heap.size w W) => mailing_any m vp W (hrp.below hW) h8 hom (by omega) (fun p hp => hcz _ (List.mem_map_of_mem hp)))
  have HCO := Lib.hid (fun W (hW : Below w.heap.size w W) => codes25_any m vp W (hrp.below hW) (by omega))
  have hgr : groupsR ls (codesM m.ps) = ((gTo ls (codesM m.ps) ls.length).1, 0) := groupsR_ok hri hcl hcc (short_none hri hsh)
  have HGP := Lib.hid (fun W vc (hW : Below w.heap.size w W) (hrc : ReadsT W vc (codesM m.ps)) => groups_any ls v vc (codesM m.ps) W (hr.below hW) (right_fits hri) (by unfold maxLen; omega) hrc (by unfold maxLen; omega) hcz)
  rw [hgr] at HGP
  have hcls := gTo_closed ls (codesM m.ps) ls.length (Nat.le_refl _)
  have hgb := gTo_bound ls (codesM m.ps) hlen.2 hcl
  rw [hcls] at HGP hgb
  have hF3 := forest3 hri hcc hsh
  rw [hclen] at hF3
  have hpG : pG ls (codesM m.ps) = pOfs (gAll ls (codesM m.ps) ls.length) := rfl
  rw [hpG] at hF3 ⊢
  dsimp only at HGP hgb
  obtain ⟨Gs, hGs⟩ : ∃ G, G = gAll ls (codesM m.ps) ls.length := ⟨_, rfl⟩
  rw [← hGs] at HGP hgb hF3 ⊢
  rw [hri] at HRT
  rw [hm] at HML
  have HR := Lib.hid hr
  have HF3 := Lib.hid hF3
  have hmk1 := fun W => run_make_row' (P := Tryz.prog) 83 30 (.slice none 0 0) 24 Tryz.underlying83 Tryz.infoSl rfl .i64 .i64 Gs.length (by omega) (by omega) W
  have hmk2 := fun W => run_make_row' (P := Tryz.prog) 30 3 (.int .i64 0) 8 Tryz.underlying30 Tryz.infoI rfl .i64 .i64 Gs.length (by omega) (by omega) W
  have hcents : ∀ l ∈ ls, 0 ≤ l.cents ∧ l.cents ≤ 1000000 := fun l hl => by
    obtain ⟨i, hi, rfl⟩ := List.mem_iff_getElem.1 hl
    obtain ⟨_, _, ⟨_, hlv, _, _⟩, _⟩ := rightB_iff.1 hri
    obtain ⟨hh, _⟩ := levelB_iff.1 (hlv i hi hi)
    unfold headB at hh
    rw [Bool.and_eq_true, decide_eq_true_eq] at hh
    exact hh.2.2.2
  have hitm : ∀ x ∈ Gs, x.items.length ≤ 2000 := fun x hx => by
    rw [hGs] at hx
    obtain ⟨mm, n, _, _, rfl⟩ := mem_gAll.1 hx
    have : (itm ls (codesM m.ps) mm n).length ≤ (codesM m.ps).length := itm_len ls _ mm n
    exact Nat.le_trans this hcl
  have hup : ∀ k (hk : k < Gs.length), Gs[k].up = -1 ∨ ∃ u : Nat, u < Gs.length ∧ Gs[k].up = (u : Int) := fun k hk => by
    have hmem : Gs[k] ∈ gAll ls (codesM m.ps) ls.length := by rw [← hGs]; exact List.getElem_mem hk
    obtain ⟨mm, hP⟩ := part_at hri hcc hsh hmem
    rcases hP.up with ⟨h1, _⟩ | ⟨_, u, hu, h1, _⟩
    · exact .inl h1
    · exact .inr ⟨u, by rw [hGs]; exact hu, h1⟩
  have HUP := Lib.hid hup
  have HCT := Lib.hid hcents
  have HIT := Lib.hid hitm
  obtain ⟨ap, cp, rfl, _⟩ := hrp
  obtain ⟨al, cl, rfl, _⟩ := hr
  unfold maiV at HML HCO ⊢
  obtain ⟨cls, ctr, org, ps⟩ := m
  dsimp only at *
  obtain ⟨np, hnp⟩ : ∃ n, n = ps.length := ⟨_, rfl⟩
  rw [← hnp] at HML HCO HF3 hpl ⊢
  clear hcl hcc hcz hclen hgr hcls hF3 hpG hGs hsh hri hm hcents hitm hup hom hnp
  have hb0 : Below w.heap.size w (w.alloc (.cells #[.int .u8 cls, .int .u8 ctr, .string org, .slice ap np cp] 29)) := (Below.refl _ w).alloc (Nat.le_refl _) _
  have hz0 : (w.alloc (.cells #[.int .u8 cls, .int .u8 ctr, .string org, .slice ap np cp] 29)).heap.size = w.heap.size + 1 := World.size_alloc _ _
  have hbx : ∀ W, Below (w.heap.size + 1) (w.alloc (.cells #[.int .u8 cls, .int .u8 ctr, .string org, .slice ap np cp] 29)) W → W.cell? ⟨w.heap.size, 0, none⟩ = some (.int .u8 cls) ∧ W.cell? ⟨w.heap.size, 1, none⟩ = some (.int .u8 ctr) ∧ W.cell? ⟨w.heap.size, 2, none⟩ = some (.string org) ∧ W.cell? ⟨w.heap.size, 3, none⟩ = some (.slice ap np cp) := fun W hW =>
    ⟨(hW.cell (p := ⟨w.heap.size, 0, none⟩) (Nat.lt_succ_self _)).trans (cell_of_row _ _ 0 _ _ _ (alloc_new w _)), (hW.cell (p := ⟨w.heap.size, 1, none⟩) (Nat.lt_succ_self _)).trans (cell_of_row _ _ 1 _ _ _ (alloc_new w _)),
      (hW.cell (p := ⟨w.heap.size, 2, none⟩) (Nat.lt_succ_self _)).trans (cell_of_row _ _ 2 _ _ _ (alloc_new w _)), (hW.cell (p := ⟨w.heap.size, 3, none⟩) (Nat.lt_succ_self _)).trans (cell_of_row _ _ 3 _ _ _ (alloc_new w _))⟩
  have HBX := Lib.hid hbx
  have HZ0 := Lib.hid hz0
  clear hbx hz0
  go_enter Tryz.func21, Tryz.ntmps21
  go_wp2_with (first
    | (go_at_call 39; refine (HRT.out _ hb0).mono ?_; rintro e w1 ⟨rfl, hb1⟩; (rw [HZ0.out] at hb1); have hB1 : Below w.heap.size w w1 := hb0.trans (hb1.mono (Nat.le_succ _)); obtain ⟨x0, x1, x2, x3⟩ := HBX.out w1 hb1)
    | (go_at_call 48; refine (HML.out _ hB1).mono ?_; rintro e w2 ⟨rfl, hb2⟩; have hb2' := hb1.trans (hb2.mono (by have := hb1.size; rw [HZ0.out] at this; exact this)); have hB2 : Below w.heap.size w w2 := hb0.trans (hb2'.mono (Nat.le_succ _)); clear x0 x1 x2 x3; obtain ⟨x0, x1, x2, x3⟩ := HBX.out w2 hb2')
    | (go_at_call 50; refine (HCO.out _ hB2).mono ?_; rintro e w3 ⟨u, rfl, hb3, hrc3⟩; have hB3 : Below w.heap.size w w3 := below_c hB2 hB2.size hb3)
    | (go_at_call 49; refine (HGP.out _ _ hB3 hrc3).mono ?_; rintro e w4 ⟨vg, rfl, hb4, hog⟩; have hrg := RdGrps.of_owns hog; obtain ⟨ag, cg, hvg⟩ := hog.len; subst hvg; clear x0 x1 x2 x3))
  have hB4 : Below w.heap.size w w4 := below_c hB3 hB3.size hb4
  have hB4z := hB4.size
  have hbx4 : Below (w.heap.size + 1) (w.alloc (.cells #[.int .u8 cls, .int .u8 ctr, .string org, .slice ap np cp] 29)) w4 := by
    have h2 := hb2'.size
    have h3 := hb3.size
    rw [HZ0.out] at h2
    exact (hb2'.trans (hb3.mono h2)).trans (hb4.mono (by omega))
  have hb4z := hbx4.size
  rw [HZ0.out] at hb4z
  have HX := Lib.hid (HBX.out w4 hbx4).2.2.2
  have HRL := Lib.hid (RdLevs.below HR.out hB4)
  have HRG := Lib.hid hrg
  have HB4 := Lib.hid hB4
  clear hb1 hB1 hb2 hb2' hB2 hb3 hrc3 hB3 hb4 hog hrg hbx4 hb0 hmk1 hmk2 HRT HML HCO HGP HBX HR hB4
  obtain ⟨W0, hW0⟩ : ∃ W0 : World, W0 = (((w4.alloc (.cells #[.slice al ls.length cl, .slice ag Gs.length cg, .slice (some ⟨w4.heap.size + 1, 0, none⟩) Gs.length Gs.length, .slice (some ⟨w4.heap.size + 1 + 1, 0, none⟩) Gs.length Gs.length, .slice (some ⟨w4.heap.size + 1 + 1 + 1, 0, none⟩) Gs.length Gs.length] 116)).alloc (.cells (madeCells #[.slice none 0 0] Gs.length) 30)).alloc (.cells (madeCells #[.slice none 0 0] Gs.length) 30)).alloc (.cells (madeCells #[.int .i64 0] Gs.length) 3) := ⟨_, rfl⟩
  have hTM := tree_made hW0
  rw [← hW0]
  clear hW0
  obtain ⟨t1, t2, t3, t4, t5, t6⟩ := hTM
  have HT3 := Lib.hid t3
  have HT4 := Lib.hid t4
  obtain ⟨j0, hj⟩ := info_parts Tryz.infoI
  have HJ := Lib.hid hj
  clear hj
  go_loopw [48] (fun i wr => ∃ k : Nat, k ≤ Gs.length ∧ i = .int .i64 k ∧ Below w4.heap.size w4 wr ∧ w4.heap.size + 4 ≤ wr.heap.size ∧ TreeAt wr w4.heap.size (.slice al ls.length cl) (.slice ag Gs.length cg) Gs.length (w4.heap.size + 1) (w4.heap.size + 2) (w4.heap.size + 3) ∧
    wr.rowIs (w4.heap.size + 2) 30 Gs.length (fun _ => .slice none 0 0) ∧ IntsAt wr (w4.heap.size + 3) (List.replicate Gs.length 0) ∧ ∃ F, BelF wr (w4.heap.size + 4) (w4.heap.size + 1) Gs.length (belTo (pOfs Gs) k) F) (fun i _ => Gs.length - (intOf i).toNat)
  case atStart => exact ⟨0, Nat.zero_le _, rfl, t5, by omega, t1, t3, t4, _, BelF.nil t2⟩
  case round =>
    clear t1 t2 t3 t4 t5 t6 HT3 HT4
    obtain ⟨k, hk, rfl, hB, hz, ht, hr2, hi3, F, hF⟩ := hrel
    by_cases hlt : k < Gs.length
    · have hrg := RdGrps.below HRG.out hB
      obtain ⟨ag', cg', hvg, hgr⟩ := hrg
      injection hvg with q1 q2 q3
      subst q1
      clear q2 q3
      obtain ⟨gg, og, rfl, hgg, hcg⟩ := hgr (by omega)
      obtain ⟨sv, hsv, g0, g1, g2, g3⟩ := hcg k hlt
      have hups := HUP.out k hlt
      have hga := gsAt_get hlt
      have hbs1 : ∀ j : Nat, Gs[k].up = (j : Int) → belTo (pOfs Gs) (k + 1) j = belTo (pOfs Gs) k j ++ [(k : Int)] := fun j h => by rw [belTo_succ, hga]; exact if_pos h
      have hbs2 : ∀ j : Nat, Gs[k].up ≠ (j : Int) → belTo (pOfs Gs) (k + 1) j = belTo (pOfs Gs) k j := fun j h => by rw [belTo_succ, hga]; exact if_neg h
      obtain ⟨x, hx⟩ : ∃ x, x = Gs[k] := ⟨_, rfl⟩
      rw [← hx] at hsv g0 g1 g2 hups hbs1 hbs2
      obtain ⟨lvl, nm, up, items⟩ := x
      dsimp only at hsv g0 g1 g2 g3 hups hbs1 hbs2
      obtain ⟨ai, ci, rfl, _⟩ := hsv
      obtain ⟨n1, hn1⟩ : ∃ n, n = items.length := ⟨_, rfl⟩
      rw [← hn1] at g3
      have HBS1 := Lib.hid hbs1
      have HBS2 := Lib.hid hbs2
      have HT := Lib.hid ht
      have HR2 := Lib.hid hr2
      have HI3 := Lib.hid hi3
      have HF := Lib.hid hF
      obtain ⟨CG, hCG⟩ : ∃ c, c = Obj.cells #[.int .i64 lvl, .string nm, .int .i64 up, .slice ai n1 ci] 81 (0, 0) := ⟨_, rfl⟩
      have hbc : Below wr.heap.size wr (wr.alloc CG) := (Below.refl _ _).alloc (Nat.le_refl _) _
      have hz1 : (wr.alloc CG).heap.size = wr.heap.size + 1 := World.size_alloc _ _
      have q2 : (wr.alloc CG).cell? ⟨wr.heap.size, 2, none⟩ = some (.int .i64 up) := by rw [hCG]; exact cell_of_row _ _ 2 _ _ _ (alloc_new wr _)
      clear hbs1 hbs2 ht hr2 hi3 hF hn1 hgr hcg hga hx
      rcases hups with rfl | ⟨u, hu, rfl⟩
      · clear hCG q2 hbc hz1
        go_wp2_with fail
        go_roundw
        case rel =>
          have e : belTo (pOfs Gs) (k + 1) = belTo (pOfs Gs) k := funext fun j => HBS2.out j (by omega)
          refine ⟨k + 1, by omega, by go_num, hB.alloc hB.size _, by simp; omega, (Below.heap_alloc _ _ _ (by omega)).trans HT.out, HR2.out.alloc _, (Below.heap_alloc _ _ _ (by omega)).trans HI3.out, F, ?_⟩
          rw [e]
          exact HF.out.below ((Below.refl _ _).alloc (Nat.le_refl _) _)
        case measure => simp [intOf]; omega
      · have hF1 := HF.out.below hbc
        have hc2 : (wr.alloc CG).cell? ⟨w4.heap.size, 2, none⟩ = some (.slice (some ⟨w4.heap.size + 1, 0, none⟩) Gs.length Gs.length) := (hbc.cell (p := ⟨w4.heap.size, 2, none⟩) (by show w4.heap.size < _; omega)).trans HT.out.c.2.2.1
        have hcu := hF1.row.cell hu
        have hfz := hF1.row.frozen u
        have hbl := belTo_len (pOfs Gs) k u
        have hown := hF1.own u hu
        have hsame : ∀ w' : World, w'.heap[w4.heap.size]? = (wr.alloc CG).heap[w4.heap.size]? → w'.heap[wr.heap.size]? = (wr.alloc CG).heap[wr.heap.size]? → w'.cell? ⟨w4.heap.size, 2, none⟩ = some (.slice (some ⟨w4.heap.size + 1, 0, none⟩) Gs.length Gs.length) ∧ w'.cell? ⟨wr.heap.size, 2, none⟩ = some (.int .i64 u) := fun w' h1 h2 =>
          ⟨(World.cell?_of_block (w := wr.alloc CG) h1).trans hc2, (World.cell?_of_block (w := wr.alloc CG) h2).trans q2⟩
        have hba : Below (wr.alloc CG).heap.size (wr.alloc CG) ((wr.alloc CG).drew.alloc (.cells #[.int .i64 k] 3)) := (Below.refl (wr.alloc CG).heap.size (wr.alloc CG)).drew.alloc (Nat.le_refl _) _
        have hcu2 : ((wr.alloc CG).alloc (.cells #[.int .i64 k] 3)).cell? ⟨w4.heap.size + 1, u, none⟩ = some (F u) := (hba.cell (p := ⟨w4.heap.size + 1, u, none⟩) (by show w4.heap.size + 1 < _; omega)).trans hcu
        have HSM := Lib.hid hsame
        have HOWN := Lib.hid hown
        have HF1 := Lib.hid hF1
        have HBA := Lib.hid hba
        obtain ⟨Fu, hFu⟩ : ∃ f, f = F u := ⟨_, rfl⟩
        rw [← hFu] at hcu hcu2 HOWN
        have HFU := Lib.hid hFu
        obtain ⟨bn, hbn⟩ : ∃ n, n = (belTo (pOfs Gs) k u).length := ⟨_, rfl⟩
        rw [← hbn] at hbl HOWN
        have HBN := Lib.hid hbn
        clear hsame hown hF1 hba hFu hbn
        go_upto_region 14 with fail
        rw [← hCG]
        clear hCG
        have hgbT : ∀ w1 : World, ((wr.alloc CG).drew.alloc (.cells #[.int .i64 k] 3)).grownBy w1 Fu.ownBlock → w1.heap[w4.heap.size]? = (wr.alloc CG).heap[w4.heap.size]? ∧ w1.heap[wr.heap.size]? = (wr.alloc CG).heap[wr.heap.size]? ∧ w1.heap[w4.heap.size + 1]? = (wr.alloc CG).heap[w4.heap.size + 1]? := fun w1 hg => by
          have hlo : ∀ b, Fu.ownBlock = some b → w4.heap.size + 4 ≤ b ∧ b < wr.heap.size := fun b hb => by
            have h1 := HF.out.own u hu
            rw [← HFU.out] at h1
            exact h1.lt b hb
          have hsz := HBA.out.size
          refine ⟨(hg.block _ (by omega) (fun e => ?_)).trans (HBA.out.block _ (by omega)), (hg.block _ (by omega) (fun e => ?_)).trans (HBA.out.block _ (by omega)), (hg.block _ (by omega) (fun e => ?_)).trans (HBA.out.block _ (by omega))⟩
          · have := hlo _ e.symm; omega
          · have := hlo _ e.symm; omega
          · have := hlo _ e.symm; omega
        have HGT := Lib.hid hgbT
        clear hgbT
        refine wp_region_held_drew (S := fun w' => w'.cell? ⟨w4.heap.size, 2, none⟩ = some (.slice (some ⟨w4.heap.size + 1, 0, none⟩) Gs.length Gs.length) ∧ w'.cell? ⟨wr.heap.size, 2, none⟩ = some (.int .i64 u)) (by kernel_rfl) (HSM.out _ rfl rfl) (fun hHeld => ?_)
        refine wpAnyH_take (i := 0) (oi := ⟨some 56, _, _, _, _, _⟩) (v := ?v0) rfl (by kernel_rfl) (by kernel_rfl) (by kernel_rfl) (fun _ _ _ h => h) (Or.inl ⟨by kernel_rfl, ?y0⟩) hHeld ?r0
        case' y0 => (intro w hSw; (try dsimp only at hSw); go_simp; (try with_reducible rfl))
        simp only [Act.put]
        refine wpAnyH_take (i := 1) (oi := ⟨some 57, _, _, _, _, _⟩) (v := ?v1) rfl (by kernel_rfl) (by kernel_rfl) (by kernel_rfl) (fun _ _ _ h => h) (Or.inl ⟨by kernel_rfl, ?y1⟩) hHeld ?r1
        case' y1 => (intro w hSw; (try dsimp only at hSw); go_simp; (try with_reducible rfl))
        simp only [Act.put]
        refine wpAnyH_take (i := 2) (oi := ⟨some 58, _, _, _, _, _⟩) (v := ?v2) rfl (by kernel_rfl) (by kernel_rfl) (by kernel_rfl) (fun _ _ _ h => h) (Or.inl ⟨by kernel_rfl, ?y2⟩) hHeld ?r2
        case' y2 => (intro w hSw; (try dsimp only at hSw); go_simp; (try with_reducible rfl))
        simp only [Act.put]
        refine wpAnyH_take (i := 3) (oi := ⟨some 59, _, _, _, _, _⟩) (v := ?v3) rfl (by kernel_rfl) (by kernel_rfl) (by kernel_rfl) (fun _ _ _ h => h) (Or.inl ⟨by kernel_rfl, ?y3⟩) hHeld ?r3
        case' y3 => (intro w hSw; (try dsimp only at hSw); go_simp; (try with_reducible rfl))
        simp only [Act.put]
        refine wpAnyH_take (i := 4) (oi := ⟨some 60, _, _, _, _, _⟩) (v := ?v4) rfl (by kernel_rfl) (by kernel_rfl) (by kernel_rfl) (fun _ _ _ h => h) (Or.inl ⟨by kernel_rfl, ?y4⟩) hHeld ?r4
        case' y4 => (intro w hSw; (try dsimp only at hSw); go_simp; (try with_reducible rfl))
        simp only [Act.put]
        refine wpAnyH_take (i := 5) (oi := ⟨some 61, _, _, _, _, _⟩) (v := ?v5) rfl (by kernel_rfl) (by kernel_rfl) (by kernel_rfl) (fun _ _ _ h => h) (Or.inl ⟨by kernel_rfl, ?y5⟩) hHeld ?r5
        case' y5 => (intro w hSw; (try dsimp only at hSw); go_simp; (try with_reducible rfl))
        simp only [Act.put]
        refine wpAnyH_take (i := 6) (oi := ⟨some 62, _, _, _, _, _⟩) (v := ?v6) rfl (by kernel_rfl) (by kernel_rfl) (by kernel_rfl) (fun _ _ _ h => h) (Or.inl ⟨by kernel_rfl, ?y6⟩) hHeld ?r6
        case' y6 => (intro w hSw; (try dsimp only at hSw); go_simp; (try with_reducible rfl))
        simp only [Act.put]
        refine wpAnyH_take (i := 7) (oi := ⟨some 63, _, _, _, _, _⟩) (v := ?v7) rfl (by kernel_rfl) (by kernel_rfl) (by kernel_rfl) (fun _ _ _ h => h) (Or.inl ⟨by kernel_rfl, ?y7⟩) hHeld ?r7
        case' y7 => (intro w hSw; (try dsimp only at hSw); go_simp; (try with_reducible rfl))
        simp only [Act.put]
        refine wpAnyH_take (i := 8) (oi := ⟨some 64, _, _, _, _, _⟩) (v := ?v8) rfl (by kernel_rfl) (by kernel_rfl) (by kernel_rfl) (fun _ _ _ h => h) (Or.inl ⟨by kernel_rfl, ?y8⟩) hHeld ?r8
        case' y8 => (intro w hSw; (try dsimp only at hSw); go_simp; (try with_reducible rfl))
        simp only [Act.put]
        refine wpAnyH_take (i := 10) (oi := ⟨some 66, _, _, _, _, _⟩) (v := ?v10) rfl (by kernel_rfl) (by kernel_rfl) (by kernel_rfl) (fun _ _ _ h => h) (Or.inl ⟨by kernel_rfl, ?y10⟩) hHeld ?r10
        case' y10 => (intro w hSw; (try dsimp only at hSw); go_simp; (try with_reducible rfl))
        simp only [Act.put]
        refine wpAnyH_ready (rs := [9, 11]) (by kernel_rfl) (by simp) ?_
        refine AllReadyH.cons rfl (fun K hK => ?_) (AllReadyH.cons rfl (fun K hK => ?_) AllReadyH.nil)
        · rw [if_pos (by kernel_rfl)]
          go_simp
          refine hK.out _ _ (HSM.out _ rfl rfl) (fun hHeld2 => ?_)
          clear hK K
          try simp only [Act.put]
          refine wpAnyH_ready (rs := [11]) (by kernel_rfl) (by simp) ?_
          refine AllReadyH.cons rfl (fun K hK => ?_) AllReadyH.nil
          rw [if_pos (by kernel_rfl)]
          go_simp
          refine hK.out _ _ (HSM.out _ (HBA.out.block _ (by omega)) (HBA.out.block _ (by omega))) (fun hHeld2 => ?_)
          clear hK K
          try simp only [Act.put]
          refine wpAnyH_ready (rs := [12]) (by kernel_rfl) (by simp) ?_
          refine AllReadyH.cons rfl (fun K hK => ?_) AllReadyH.nil
          refine step_append_lies _ (by rfl) _ _ _ (by rfl) (w4.heap.size + 4) 3 j0 (.int .i64 0) 1 8 Tryz.underlying30 HJ.out.1 HJ.out.2.1 HJ.out.2.2.1 HJ.out.2.2.2 rfl (by omega) Fu bn _ (by rfl) ((HOWN.out.drew).alloc _) ⟨wr.heap.size + 1, 0, none⟩ 1 1 [.int .i64 k] (by rfl) (by rfl) (World.news_of_block (cs := #[.int .i64 k]) (t := 3) (fr := (0, 0)) (by rw [← hz1]; exact heap_alloc_new _ _)) (by simp [Value.oneCell']) (by omega) (by unfold maxLen; omega) (by omega) (by simp; omega) _ rfl ?_
          intro gg9 cap9 w9 hown9 hgrow hat9 hlt9
          have hrz := (HGT.out w9 hgrow).2.2
          have c9 : w9.cell? ⟨w4.heap.size + 1, u, none⟩ = some Fu := (World.cell?_of_block (w := wr.alloc CG) hrz).trans hcu
          have f9 : w9.frozen? ⟨w4.heap.size + 1, u, none⟩ = false := (World.frozen?_of_block (w := wr.alloc CG) hrz).trans hfz
          have HRZ := Lib.hid hrz
          clear hrz
          refine hK.out _ _ (HSM.out _ (HGT.out w9 hgrow).1 (HGT.out w9 hgrow).2.1) (fun hHeld2 => ?_)
          clear hK K
          try simp only [Act.put]
          refine wpAnyH_take (i := 13) (oi := ⟨some 69, _, _, _, _, _⟩) (v := ?v13a) rfl (by kernel_rfl) (by kernel_rfl) (by kernel_rfl) (fun _ _ _ h => h) (Or.inl ⟨by kernel_rfl, ?y13a⟩) hHeld2 ?r13a
          case' y13a => (intro w hSw; (try dsimp only at hSw); go_simp; (try with_reducible rfl))
          simp only [Act.put]
          refine wpAnyH_ready (rs := [14]) (by kernel_rfl) (by simp) ?_
          refine AllReadyH.cons rfl (fun K hK => ?_) AllReadyH.nil
          rw [if_pos (by kernel_rfl)]
          go_simp
          refine hK.out _ _ (HSM.out _ ((Below.heap_setCell _ _ _ _ (by show w4.heap.size ≠ w4.heap.size + 1; omega)).trans (HGT.out w9 hgrow).1) ((Below.heap_setCell _ _ _ _ (by show wr.heap.size ≠ w4.heap.size + 1; omega)).trans (HGT.out w9 hgrow).2.1)) (fun hHeld2 => ?_)
          clear hK K
          try simp only [Act.put]
          refine wpAnyH_done (by kernel_rfl) ?_ _
          go_wp2_with fail
          go_roundw
          case rel =>
            have hbx : Below (wr.alloc CG).heap.size (wr.alloc CG) ((wr.alloc CG).alloc (.cells #[.int .i64 k] 3)).drew := ((Below.refl (wr.alloc CG).heap.size (wr.alloc CG)).alloc (Nat.le_refl _) _).drew
            have hFx := HF1.out.below hbx
            have hg9 : ((wr.alloc CG).alloc (.cells #[.int .i64 k] 3)).drew.grownBy w9 (F u).ownBlock := by rw [← HFU.out]; exact hgrow
            have hat : (F u).ownBlock = some gg9 ∨ ((wr.alloc CG).alloc (.cells #[.int .i64 k] 3)).drew.heap.size ≤ gg9 := by
              rw [← HFU.out]
              exact hat9.imp id (fun h => by rw [h]; exact Nat.le_refl _)
            have ho9 := hown9
            rw [HBN.out] at ho9 ⊢
            have hput := hFx.put hu (k : Int) (by omega) ho9 hg9 hat
            have hG : (fun i => if i = u then belTo (pOfs Gs) k u ++ [(k : Int)] else belTo (pOfs Gs) k i) = belTo (pOfs Gs) (k + 1) := funext fun j => by
              by_cases e : j = u
              · subst e
                rw [if_pos rfl, HBS1.out j rfl]
              · rw [if_neg e, HBS2.out j (by omega)]
            rw [hG] at hput
            have hlo : ∀ b, (F u).ownBlock = some b → w4.heap.size + 4 ≤ b := fun b hb => (HF.out.own u hu).lt b hb |>.1
            have hsx : ((wr.alloc CG).alloc (.cells #[.int .i64 k] 3)).drew.heap.size = wr.heap.size + 2 := by
              show ((wr.alloc CG).alloc (.cells #[.int .i64 k] 3)).heap.size = _
              rw [World.size_alloc, World.size_alloc]
            have hbl9 : ∀ b, b < w4.heap.size + 4 → w9.heap[b]? = wr.heap[b]? := fun b hb =>
              (hg9.block b (by omega) (fun e => by have := hlo b e.symm; omega)).trans ((hbx.block b (by omega)).trans (hbc.block b (by omega)))
            refine ⟨k + 1, by omega, by go_num, ?_, ?_, ?_, ?_, ?_, _, hput⟩
            · exact (((hB.alloc hB.size CG).trans (hbx.mono (by omega))).grown hg9 (by omega) (fun r e => by have := hlo r e; omega)).setCell (p := ⟨w4.heap.size + 1, u, none⟩) (Nat.le_succ _) _
            · have := hg9.size
              simp [World.setCell]; omega
            · exact (Below.heap_setCell _ _ _ _ (by show w4.heap.size ≠ w4.heap.size + 1; omega)).trans ((hbl9 _ (by omega)).trans HT.out)
            · exact (HR2.out.of_block (hbl9 _ (by omega))).setOther (by show w4.heap.size + 2 ≠ w4.heap.size + 1; omega) _
            · exact (Below.heap_setCell _ _ _ _ (by show w4.heap.size + 3 ≠ w4.heap.size + 1; omega)).trans ((hbl9 _ (by omega)).trans HI3.out)
          case measure => simp [intOf]; omega
        · rw [if_pos (by kernel_rfl)]
          go_simp
          refine hK.out _ _ (HSM.out _ (HBA.out.block _ (by omega)) (HBA.out.block _ (by omega))) (fun hHeld2 => ?_)
          clear hK K
          try simp only [Act.put]
          refine wpAnyH_ready (rs := [9]) (by kernel_rfl) (by simp) ?_
          refine AllReadyH.cons rfl (fun K hK => ?_) AllReadyH.nil
          rw [if_pos (by kernel_rfl)]
          go_simp
          refine hK.out _ _ (HSM.out _ (HBA.out.block _ (by omega)) (HBA.out.block _ (by omega))) (fun hHeld2 => ?_)
          clear hK K
          try simp only [Act.put]
          refine wpAnyH_ready (rs := [12]) (by kernel_rfl) (by simp) ?_
          refine AllReadyH.cons rfl (fun K hK => ?_) AllReadyH.nil
          refine step_append_lies _ (by rfl) _ _ _ (by rfl) (w4.heap.size + 4) 3 j0 (.int .i64 0) 1 8 Tryz.underlying30 HJ.out.1 HJ.out.2.1 HJ.out.2.2.1 HJ.out.2.2.2 rfl (by omega) Fu bn _ (by rfl) ((HOWN.out.drew).alloc _) ⟨wr.heap.size + 1, 0, none⟩ 1 1 [.int .i64 k] (by rfl) (by rfl) (World.news_of_block (cs := #[.int .i64 k]) (t := 3) (fr := (0, 0)) (by rw [← hz1]; exact heap_alloc_new _ _)) (by simp [Value.oneCell']) (by omega) (by unfold maxLen; omega) (by omega) (by simp; omega) _ rfl ?_
          intro gg9 cap9 w9 hown9 hgrow hat9 hlt9
          have hrz := (HGT.out w9 hgrow).2.2
          have c9 : w9.cell? ⟨w4.heap.size + 1, u, none⟩ = some Fu := (World.cell?_of_block (w := wr.alloc CG) hrz).trans hcu
          have f9 : w9.frozen? ⟨w4.heap.size + 1, u, none⟩ = false := (World.frozen?_of_block (w := wr.alloc CG) hrz).trans hfz
          have HRZ := Lib.hid hrz
          clear hrz
          refine hK.out _ _ (HSM.out _ (HGT.out w9 hgrow).1 (HGT.out w9 hgrow).2.1) (fun hHeld2 => ?_)
          clear hK K
          try simp only [Act.put]
          refine wpAnyH_take (i := 13) (oi := ⟨some 69, _, _, _, _, _⟩) (v := ?v13b) rfl (by kernel_rfl) (by kernel_rfl) (by kernel_rfl) (fun _ _ _ h => h) (Or.inl ⟨by kernel_rfl, ?y13b⟩) hHeld2 ?r13b
          case' y13b => (intro w hSw; (try dsimp only at hSw); go_simp; (try with_reducible rfl))
          simp only [Act.put]
          refine wpAnyH_ready (rs := [14]) (by kernel_rfl) (by simp) ?_
          refine AllReadyH.cons rfl (fun K hK => ?_) AllReadyH.nil
          rw [if_pos (by kernel_rfl)]
          go_simp
          refine hK.out _ _ (HSM.out _ ((Below.heap_setCell _ _ _ _ (by show w4.heap.size ≠ w4.heap.size + 1; omega)).trans (HGT.out w9 hgrow).1) ((Below.heap_setCell _ _ _ _ (by show wr.heap.size ≠ w4.heap.size + 1; omega)).trans (HGT.out w9 hgrow).2.1)) (fun hHeld2 => ?_)
          clear hK K
          try simp only [Act.put]
          refine wpAnyH_done (by kernel_rfl) ?_ _
          go_wp2_with fail
          go_roundw
          case rel =>
            have hbx : Below (wr.alloc CG).heap.size (wr.alloc CG) ((wr.alloc CG).alloc (.cells #[.int .i64 k] 3)).drew := ((Below.refl (wr.alloc CG).heap.size (wr.alloc CG)).alloc (Nat.le_refl _) _).drew
            have hFx := HF1.out.below hbx
            have hg9 : ((wr.alloc CG).alloc (.cells #[.int .i64 k] 3)).drew.grownBy w9 (F u).ownBlock := by rw [← HFU.out]; exact hgrow
            have hat : (F u).ownBlock = some gg9 ∨ ((wr.alloc CG).alloc (.cells #[.int .i64 k] 3)).drew.heap.size ≤ gg9 := by
              rw [← HFU.out]
              exact hat9.imp id (fun h => by rw [h]; exact Nat.le_refl _)
            have ho9 := hown9
            rw [HBN.out] at ho9 ⊢
            have hput := hFx.put hu (k : Int) (by omega) ho9 hg9 hat
            have hG : (fun i => if i = u then belTo (pOfs Gs) k u ++ [(k : Int)] else belTo (pOfs Gs) k i) = belTo (pOfs Gs) (k + 1) := funext fun j => by
              by_cases e : j = u
              · subst e
                rw [if_pos rfl, HBS1.out j rfl]
              · rw [if_neg e, HBS2.out j (by omega)]
            rw [hG] at hput
            have hlo : ∀ b, (F u).ownBlock = some b → w4.heap.size + 4 ≤ b := fun b hb => (HF.out.own u hu).lt b hb |>.1
            have hsx : ((wr.alloc CG).alloc (.cells #[.int .i64 k] 3)).drew.heap.size = wr.heap.size + 2 := by
              show ((wr.alloc CG).alloc (.cells #[.int .i64 k] 3)).heap.size = _
              rw [World.size_alloc, World.size_alloc]
            have hbl9 : ∀ b, b < w4.heap.size + 4 → w9.heap[b]? = wr.heap[b]? := fun b hb =>
              (hg9.block b (by omega) (fun e => by have := hlo b e.symm; omega)).trans ((hbx.block b (by omega)).trans (hbc.block b (by omega)))
            refine ⟨k + 1, by omega, by go_num, ?_, ?_, ?_, ?_, ?_, _, hput⟩
            · exact (((hB.alloc hB.size CG).trans (hbx.mono (by omega))).grown hg9 (by omega) (fun r e => by have := hlo r e; omega)).setCell (p := ⟨w4.heap.size + 1, u, none⟩) (Nat.le_succ _) _
            · have := hg9.size
              simp [World.setCell]; omega
            · exact (Below.heap_setCell _ _ _ _ (by show w4.heap.size ≠ w4.heap.size + 1; omega)).trans ((hbl9 _ (by omega)).trans HT.out)
            · exact (HR2.out.of_block (hbl9 _ (by omega))).setOther (by show w4.heap.size + 2 ≠ w4.heap.size + 1; omega) _
            · exact (Below.heap_setCell _ _ _ _ (by show w4.heap.size + 3 ≠ w4.heap.size + 1; omega)).trans ((hbl9 _ (by omega)).trans HI3.out)
          case measure => simp [intOf]; omega
    · obtain rfl : k = Gs.length := by omega
      have hgrw := RdGrps.below HRG.out hB
      have hTW : TreeW wr w4.heap.size (w4.heap.size + 1) (w4.heap.size + 2) (w4.heap.size + 3) (w4.heap.size + 4) (.slice al ls.length cl) (.slice ag Gs.length cg) Gs (tabOf (plsOf ls) (pOfs Gs)) 0 (rowF (fun _ => 0) Gs.length) := by
        refine ⟨ht, ⟨F, hF.row, fun g hg => ?_⟩, ⟨_, hr2, fun g hg => absurd hg (Nat.not_lt_zero _)⟩, by rw [← rowF_rep]; exact hi3, rowF_len _ _, ⟨by omega, by omega, by omega, by omega, hz⟩, ⟨by omega, by omega, by omega, by omega, by omega, by omega⟩, hgrw⟩
        have := RowJ.of_rowI (hF.own g hg)
        have e := belTo_end (pOfs Gs) g
        rw [pOfs_len] at e
        rw [e] at this
        exact this
      have HTW := Lib.hid hTW
      clear hTW hgrw ht hr2 hi3 hF hz
      go_wp2_with fail
      go_loopw [73] (fun i wr => ∃ k : Nat, k ≤ Gs.length ∧ i = .int .i64 k ∧ Below w4.heap.size w4 wr ∧ TreeW wr w4.heap.size (w4.heap.size + 1) (w4.heap.size + 2) (w4.heap.size + 3) (w4.heap.size + 4) (.slice al ls.length cl) (.slice ag Gs.length cg) Gs (tabOf (plsOf ls) (pOfs Gs)) k (rowF (fun _ => 0) Gs.length)) (fun i _ => Gs.length - (intOf i).toNat)
      case atStart => exact ⟨0, Nat.zero_le _, rfl, hB, HTW.out⟩
      case round =>
        clear hB HTW F
        obtain ⟨wo, hwo⟩ : ∃ x, x = wr := ⟨_, rfl⟩
        subst hwo
        obtain ⟨k, hk, rfl, hB, hT⟩ := hrel
        by_cases hlt : k < Gs.length
        · have hTlt := hT.lt
          have c3 := hT.tr.c.2.2.2.1
          have hTB : ∀ W, Below wo.heap.size wo W → Calls Tryz.prog 51 #[.pointer (some ⟨w4.heap.size, 0, none⟩), .int .i64 k] W fun e w' => ∃ a cap, e = .returned (.slice a (tabOf (plsOf ls) (pOfs Gs) k).length cap) ∧ Below W.heap.size W w' ∧ RowJ w' (w4.heap.size + 4) (.slice a (tabOf (plsOf ls) (pOfs Gs) k).length cap) (tabOf (plsOf ls) (pOfs Gs) k) := fun W hW =>
            table_any _ _ _ _ _ _ _ Gs _ k ls W (hT.below hW) HF3.out.toForest2.toForest hlt (by omega) (RdLevs.below (RdLevs.below HRL.out hB) hW) (by omega) HCT.out HIT.out
          have HTB := Lib.hid hTB
          have HT := Lib.hid hT
          have hszo := hTlt.2.2.2.2
          have hk3 : ∀ w', Below wo.heap.size wo w' → w'.cell? ⟨w4.heap.size, 3, none⟩ = some (.slice (some ⟨w4.heap.size + 2, 0, none⟩) Gs.length Gs.length) := fun w' hw => (hw.cell (p := ⟨w4.heap.size, 3, none⟩) (by show w4.heap.size < _; omega)).trans c3
          have HK3 := Lib.hid hk3
          clear hTB hT hk3
          go_upto_region 19 with fail
          go_region_held3 (fun w' => w'.cell? ⟨w4.heap.size, 3, none⟩ = some (.slice (some ⟨w4.heap.size + 2, 0, none⟩) Gs.length Gs.length))
            (first
              | exact HK3.out _ (Below.refl wo.heap.size wo).drew
              | exact HK3.out _ hB6
              | exact (World.cell?_of_block (w := w6) (Below.heap_setCell _ _ _ _ (by show w4.heap.size ≠ w4.heap.size + 2; omega))).trans (HK3.out _ hB6))
            (first
              | (go_at_call 51; refine (HTB.out _ (Below.refl wo.heap.size wo).drew).mono ?_; rintro e w6 ⟨ta, tc, rfl, hb6, hr6⟩; have hB6 : Below wo.heap.size wo w6 := (Below.refl wo.heap.size wo).drew.trans hb6; obtain ⟨fT, k1, _⟩ := (HT.out.below hB6).tb; have k6 := k1.cell hlt; have f6 := k1.frozen k))
          all_goals
            go_wp2_with fail
            go_roundw
            case rel =>
              have hB6w : Below w4.heap.size w4 w6 := below_c hB hB.size hB6
              have hBs : Below w4.heap.size w4 (w6.setCell ⟨w4.heap.size + 2, k, none⟩ (.slice ta (tabOf (plsOf ls) (pOfs Gs) k).length tc)) := hB6w.setCell (p := ⟨w4.heap.size + 2, k, none⟩) (by show w4.heap.size ≤ w4.heap.size + 2; omega) _
              exact ⟨k + 1, by omega, by go_num, hBs, TreeW.put (HT.out.below hB6) hlt hr6 (RdGrps.below HRG.out hBs)⟩
            case measure => simp [intOf]; omega
        · obtain rfl : k = Gs.length := by omega
          have HT := Lib.hid hT
          have hpn := pOfs_len Gs
          clear hT
          have hcl2 := pls_cents HCT.out
          have hitp := items_at HIT.out
          have hFo := HF3.out.toForest2.toForest
          have hmok : ∀ g, g < (pOfs Gs).length → 0 < (gsAt (pOfs Gs) g).lvl → MOk (subTabs (plsOf ls) (pOfs Gs) g) := fun g hg hl => sub_mok hFo hcl2 hitp hg hl
          have HPR := Lib.hid (pass_range hFo hmok)
          have HMO := Lib.hid hmok
          have HFO := Lib.hid hFo
          have HTT := Lib.hid (fun g hg => (tab_tb hFo hcl2 g hg).le (hitp g hg))
          clear hcl2 hitp hFo hmok
          go_wp2_with fail
          go_loopw [12] (fun i wr => ∃ r : Nat, r ≤ Gs.length ∧ i = .int .i64 ((r : Int) - 1) ∧ Below w4.heap.size w4 wr ∧ TreeW wr w4.heap.size (w4.heap.size + 1) (w4.heap.size + 2) (w4.heap.size + 3) (w4.heap.size + 4) (.slice al ls.length cl) (.slice ag Gs.length cg) Gs (tabOf (plsOf ls) (pOfs Gs)) Gs.length (rowF (passTo (plsOf ls) (pOfs Gs) (tabsTo (plsOf ls) (pOfs Gs) (pOfs Gs).length) (Gs.length - r)) Gs.length)) (fun i _ => (intOf i + 1).toNat)
          case atStart => exact ⟨Gs.length, Nat.le_refl _, rfl, hB, by rw [Nat.sub_self]; exact HT.out⟩
          case round =>
            clear hB
            obtain ⟨wp, hwp⟩ : ∃ x, x = wr := ⟨_, rfl⟩
            subst hwp
            obtain ⟨r, hr, rfl, hB, hT⟩ := hrel
            rcases r with _ | g
            · have hTr : TreeW wp w4.heap.size (w4.heap.size + 1) (w4.heap.size + 2) (w4.heap.size + 3) (w4.heap.size + 4) (.slice al ls.length cl) (.slice ag Gs.length cg) Gs (tabOf (plsOf ls) (pOfs Gs)) Gs.length (rowF (passF (plsOf ls) (pOfs Gs)) Gs.length) := by
                have h1 := hT
                rw [Nat.sub_zero, ← hpn] at h1
                unfold passF
                rw [hpn] at h1 ⊢
                exact h1
              have hpass := all_pass HF3.out
              have hcle := come_len HFO.out hpass
              have hq : ∀ g, g < Gs.length → (comeL (pOfs Gs) (passF (plsOf ls) (pOfs Gs)) g).length ≤ 2000 := fun g hg => by
                have hg' : g < (pOfs Gs).length := by rw [hpn]; exact hg
                rw [(hcle g hg').1]
                exact Nat.le_trans (qN_le HFO.out (pls_cents HCT.out) hpass hg') (items_at HIT.out g hg')
              have hPL := plan_any _ _ _ _ _ _ _ Gs _ (passF (plsOf ls) (pOfs Gs)) np (plsOf ls) wp hTr HFO.out (by omega) (by omega) (fun g hg => by
                have hg' : g < (pOfs Gs).length := by rw [hpn]; exact hg
                have h1 := (hpass g hg').nn
                have h2 := (pass_parts HFO.out hg' (hpass g hg')).1.le
                rw [(hcle g hg').1]
                unfold pN at h2
                omega) (fun g hg => by have := hq g hg; omega) (fun g hg i hi => by
                have hg' : g < (pOfs Gs).length := by rw [hpn]; exact hg
                exact HF3.out.range g hg' i (mem_come HF3.out.toForest2 g hg' i hi))
              have HPL := Lib.hid hPL
              have xb := (hB.cell (p := ⟨w.heap.size, 3, none⟩) (by show w.heap.size < _; omega)).trans HX.out
              have hTlt := hT.lt
              clear hTr hT hpass hcle hq hPL
              go_wp2_with (go_at_call 53; refine HPL.out.mono ?_; rintro e w7 ⟨rfl, hb7, hi7⟩)
              go_ret2
              have hBw : Below w.heap.size w wp := HB4.out.trans (hB.mono hB4z)
              refine ⟨wp.heap.size, rfl, below_c hBw hBw.size hb7, hBw.size, ?_⟩
              rw [planR_eq, hpn]
              exact hi7
            · have e1 : (((g + 1 : Nat) : Int) - 1) = (g : Int) := by omega
              rw [e1]
              have hg : g < Gs.length := by omega
              have hg' : g < (pOfs Gs).length := by rw [hpn]; exact hg
              have hga := gsAt_get hg
              obtain ⟨z0, z1⟩ := HFO.out.lvl g hg'
              rw [hga] at z0 z1
              have z0' : 0 ≤ Gs[g].lvl := z0
              have z1' : Gs[g].lvl < ((plsOf ls).length : Int) := z1
              rw [plsOf_len] at z1'
              obtain ⟨lv, hle⟩ : ∃ lv : Nat, Gs[g].lvl = (lv : Int) := ⟨_, (Int.toNat_of_nonneg z0').symm⟩
              have hlv : lv < ls.length := by omega
              have hMg : MOk ((belowR (pOfs Gs) g).map (tabOf (plsOf ls) (pOfs Gs))) := by
                by_cases h0 : 0 < (gsAt (pOfs Gs) g).lvl
                · exact HMO.out g hg' h0
                · have hnil : belowR (pOfs Gs) g = [] := by
                    rw [List.eq_nil_iff_forall_not_mem]
                    intro h hh
                    have h1 := HFO.out.sub g hg' h hh
                    have h2 := (HFO.out.lvl h (by have := HFO.out.below g hg' h hh; omega)).1
                    omega
                  rw [hnil]
                  refine ⟨by simp, fun t ht => absurd ht (by simp), fun k hk => ?_⟩
                  obtain rfl : k = 0 := by simpa using hk
                  exact ⟨by simp [mergedTo], by simp [mergedTo], by simp [mergedTo]⟩
              have hpr := HPR.out (Gs.length - (g + 1)) (by omega) g hg'
              have htl := (HTT.out g hg').2.1
              have hDV := divide_any _ _ _ _ _ _ _ Gs _ _ g ls lv wp hT hg (by omega) (RdLevs.below HRL.out hB) hlv hle (by omega) (HCT.out _ (List.getElem_mem hlv)) hMg hpr htl
              have hstep := passTo_sub (plsOf ls) (pOfs Gs) (tabsTo (plsOf ls) (pOfs Gs) (pOfs Gs).length) (Gs.length - (g + 1))
              rw [show (pOfs Gs).length - 1 - (Gs.length - (g + 1)) = g by rw [hpn]; omega, show Gs.length - (g + 1) + 1 = Gs.length - g by omega, lvOf_at hg hlv hle] at hstep
              have HST := Lib.hid hstep
              have HDV := Lib.hid hDV
              have HT2 := Lib.hid hT
              have hTz := hT.lt
              clear hstep hDV hT hpr htl hMg z0 z1 hga e1 hle
              go_wp2_with (go_at_call 52; refine HDV.out.mono ?_; rintro e w6 ⟨⟨r, rfl⟩, hg6, hi6⟩)
              go_roundw
              case rel =>
                have hBn : Below w4.heap.size w4 w6 := hB.grown hg6 (by omega) (fun r e => by injection e; omega)
                refine ⟨g, by omega, by go_num, hBn, ?_⟩
                rw [HST.out]
                exact TreeW.pass HT2.out hg6 hi6 (rowF_len _ _) (RdGrps.below HRG.out hBn)
              case measure => simp [intOf]
end Go.Proofs.YtelklmdlodgdpaaGreat
