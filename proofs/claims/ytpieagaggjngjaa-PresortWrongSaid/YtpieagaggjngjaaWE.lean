/-
  presort.Plan where there is no plan: a wrong scheme or mailing, a short code.
-/
import Derived.Test.YtpieagaggjngjaaWP
namespace Go.Proofs.Ytpieagaggjngjaa
open Go.RowKit Go.Sort
set_option linter.unusedVariables false
set_option maxRecDepth 100000
open Classical in
noncomputable def planErr (ls : List Lev) (m : Mai) : Int := if rightB ls = true ∧ mailB m = true then 6 else 2
set_option maxHeartbeats 16000000 in
theorem plan_bad (ls : List Lev) (v vp : Value) (m : Mai) (w : World) (hr : RdLevs w v ls) (hf : ∀ l ∈ ls, LevFits l) (hl : ls.length ≤ 100000) (hrp : RdPces w vp m.ps) (h8 : 0 ≤ m.cls ∧ m.cls ≤ 255 ∧ 0 ≤ m.ctr ∧ m.ctr ≤ 255)
    (hom : m.origin.size ≤ maxLen) (hml : m.ps.length ≤ 100000) (hcz : ∀ p ∈ m.ps, p.code.size ≤ maxLen) (hbad : rightB ls = true → mailB m = true → (codesM m.ps).any (shortB ls) = true) :
    Calls Try.prog 16 #[v, maiV m vp] w fun e w' => e = .returned (.tuple #[.slice none 0 0, .int .i64 (planErr ls m)]) ∧ Below w.heap.size w w' := by
  have HRT := Lib.hid (fun W (hW : Below w.heap.size w W) => right_any ls v W (hr.below hW) hf (by unfold maxLen; omega))
  have HML := Lib.hid (fun W (hW : Below w.heap.size w W) => mailing_any m vp W (hrp.below hW) h8 hom hml hcz)
  have HCO := Lib.hid (fun W (hW : Below w.heap.size w W) => codes25_any m vp W (hrp.below hW) hml)
  have hclen : (codesM m.ps).length = m.ps.length := by unfold codesM; simp
  have HGP := Lib.hid (fun W vc (hW : Below w.heap.size w W) (hrc : ReadsT W vc (codesM m.ps)) => groups_any ls v vc (codesM m.ps) W (hr.below hW) hf (by unfold maxLen; omega) hrc (by unfold maxLen; omega) (fun c hc => by
    unfold codesM at hc
    obtain ⟨p, hp, rfl⟩ := List.mem_map.1 hc
    exact hcz p hp))
  have hgR : mailB m = true → rightB ls = true → groupsR ls (codesM m.ps) = ([], 6) := fun h1 h2 => by
    obtain ⟨k1, k2⟩ := mail_parts h1
    unfold groupsR
    rw [if_neg (by omega), if_pos ⟨h2, fun c hc => by
      unfold codesM at hc
      obtain ⟨p, hp, rfl⟩ := List.mem_map.1 hc
      exact k2 p hp⟩, if_pos (hbad h2 h1)]
  have hE : planErr ls m = if rightB ls = true ∧ mailB m = true then 6 else 2 := by unfold planErr; rfl
  obtain ⟨R, hR⟩ : ∃ R, R = planErr ls m := ⟨_, rfl⟩
  rw [← hR] at hE ⊢
  obtain ⟨ap, cp, rfl, _⟩ := hrp
  obtain ⟨al, cl, rfl, _⟩ := hr
  obtain ⟨rb, hrb⟩ : ∃ b, b = rightB ls := ⟨_, rfl⟩
  obtain ⟨mb, hmb'⟩ : ∃ b, b = mailB m := ⟨_, rfl⟩
  rw [← hrb] at HRT hE hgR
  rw [← hmb'] at HML hE hgR
  unfold maiV at HML HCO ⊢
  obtain ⟨cls, ctr, org, ps⟩ := m
  dsimp only at *
  have hb0 : Below w.heap.size w (w.alloc (.cells #[.int .u8 cls, .int .u8 ctr, .string org, .slice ap ps.length cp] 28)) := (Below.refl _ w).alloc (Nat.le_refl _) _
  have hz0 : (w.alloc (.cells #[.int .u8 cls, .int .u8 ctr, .string org, .slice ap ps.length cp] 28)).heap.size = w.heap.size + 1 := World.size_alloc _ _
  have hbx : ∀ W, Below (w.heap.size + 1) (w.alloc (.cells #[.int .u8 cls, .int .u8 ctr, .string org, .slice ap ps.length cp] 28)) W → W.cell? ⟨w.heap.size, 0, none⟩ = some (.int .u8 cls) ∧ W.cell? ⟨w.heap.size, 1, none⟩ = some (.int .u8 ctr) ∧ W.cell? ⟨w.heap.size, 2, none⟩ = some (.string org) ∧ W.cell? ⟨w.heap.size, 3, none⟩ = some (.slice ap ps.length cp) := fun W hW =>
    ⟨(hW.cell (p := ⟨w.heap.size, 0, none⟩) (Nat.lt_succ_self _)).trans (cell_of_row _ _ 0 _ _ _ (alloc_new w _)), (hW.cell (p := ⟨w.heap.size, 1, none⟩) (Nat.lt_succ_self _)).trans (cell_of_row _ _ 1 _ _ _ (alloc_new w _)),
      (hW.cell (p := ⟨w.heap.size, 2, none⟩) (Nat.lt_succ_self _)).trans (cell_of_row _ _ 2 _ _ _ (alloc_new w _)), (hW.cell (p := ⟨w.heap.size, 3, none⟩) (Nat.lt_succ_self _)).trans (cell_of_row _ _ 3 _ _ _ (alloc_new w _))⟩
  have HBX := Lib.hid hbx
  have HZ0 := Lib.hid hz0
  have HE := Lib.hid hE
  have HGR := Lib.hid hgR
  clear hbx hz0 hE hgR hclen hR hrb hmb' hf hcz hbad
  cases rb
  · go_enter Try.func16, Try.ntmps16
    go_wp2_with (go_at_call 27; refine (HRT.out _ hb0).mono ?_; rintro e w1 ⟨rfl, hb1⟩)
    go_ret2
    rw [HE.out, if_neg (by simp)]
    exact ⟨rfl, below_c hb0 hb0.size hb1⟩
  · cases mb
    · go_enter Try.func16, Try.ntmps16
      go_wp2_with (first
        | (go_at_call 27; refine (HRT.out _ hb0).mono ?_; rintro e w1 ⟨rfl, hb1⟩; (rw [HZ0.out] at hb1); have hB1 : Below w.heap.size w w1 := hb0.trans (hb1.mono (Nat.le_succ _)); obtain ⟨x0, x1, x2, x3⟩ := HBX.out w1 hb1)
        | (go_at_call 35; refine (HML.out _ hB1).mono ?_; rintro e w2 ⟨rfl, hb2⟩))
      go_ret2
      rw [HE.out, if_neg (by simp)]
      exact ⟨rfl, below_c hB1 hB1.size hb2⟩
    · have hgr := HGR.out rfl rfl
      rw [hgr] at HGP
      dsimp only at HGP
      clear hgr
      have hre : R = 6 := by rw [HE.out, if_pos ⟨rfl, rfl⟩]
      subst hre
      go_enter Try.func16, Try.ntmps16
      go_wp2_with (first
        | (go_at_call 27; refine (HRT.out _ hb0).mono ?_; rintro e w1 ⟨rfl, hb1⟩; (rw [HZ0.out] at hb1); have hB1 : Below w.heap.size w w1 := hb0.trans (hb1.mono (Nat.le_succ _)); obtain ⟨x0, x1, x2, x3⟩ := HBX.out w1 hb1)
        | (go_at_call 35; refine (HML.out _ hB1).mono ?_; rintro e w2 ⟨rfl, hb2⟩; have hb2' := hb1.trans (hb2.mono (by have := hb1.size; rw [HZ0.out] at this; exact this)); have hB2 : Below w.heap.size w w2 := hb0.trans (hb2'.mono (Nat.le_succ _)); clear x0 x1 x2 x3; obtain ⟨x0, x1, x2, x3⟩ := HBX.out w2 hb2')
        | (go_at_call 37; refine (HCO.out _ hB2).mono ?_; rintro e w3 ⟨u, rfl, hb3, hrc3⟩; have hB3 : Below w.heap.size w w3 := below_c hB2 hB2.size hb3)
        | (go_at_call 12; refine (HGP.out _ _ hB3 hrc3).mono ?_; rintro e w4 ⟨vg, rfl, hb4, hog⟩))
      go_ret2
      exact ⟨rfl, below_c hB3 hB3.size hb4⟩
end Go.Proofs.Ytpieagaggjngjaa
