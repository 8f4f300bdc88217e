/-
  PresortFew: the walk.
-/
import Derived.Test.YtpieagaggjngjaaGI
import Derived.Test.YtpieagaggjngjaaGL
import Derived.Test.YtpieagaggjngjaaGJ
namespace Go.Proofs.Ytpieagaggjngjaa
open Go.RowKit Go.Sort
set_option linter.unusedVariables false
set_option maxRecDepth 100000
theorem ints_one4 (zs : List Int) : ∀ u ∈ zs.map (Value.int .i64), u.oneCell' = true := fun u hu => by
  obtain ⟨z, _, rfl⟩ := List.mem_map.1 hu
  rfl
theorem ints_news4 {w : World} {g : Nat} {zs : List Int} (h : IntsAt w g zs) : ∀ j u, (zs.map (Value.int .i64))[j]? = some u → w.cell? ((⟨g, 0, none⟩ : Addr).add j) = some u := by
  intro j u hj
  obtain ⟨hjl, hju⟩ := List.getElem?_eq_some_iff.1 hj
  rw [List.length_map] at hjl
  have ea : (⟨g, 0, none⟩ : Addr).add j = ⟨g, j, none⟩ := by unfold Addr.add; split <;> simp_all
  rw [ea, h.cell hjl, ← hju, List.getElem_map, List.getD_eq_getElem?_getD, List.getElem?_eq_getElem hjl]
  rfl
theorem copyI_any {zs : List Int} {g n cap : Nat} {w : World} (h : IntsAt w g zs) (hn : zs.length = n) (h0 : 0 < n) (hl : n ≤ 1000000) :
    Calls Try.prog 21 #[.slice (some ⟨g, 0, none⟩) n cap] w fun e w' => ∃ g' cap', e = .returned (.slice (some ⟨g', 0, none⟩) n cap') ∧ Below w.heap.size w w' ∧ w'.ownsRow w.heap.size 3 1 (.slice (some ⟨g', 0, none⟩) n cap') n (zs.map (Value.int .i64)) := by
  obtain ⟨j0, hj⟩ := info_parts Try.infoI
  have HJ := Lib.hid hj
  have HNW := Lib.hid (ints_news4 h)
  have HN := Lib.hid hn
  clear hj h hn
  go_enter Try.func21, Try.ntmps21
  go_wp2_with (at_builtin; refine wpList_append_own _ rfl _ _ 38 rfl w.heap.size 3 j0 (.int .i64 0) 1 8 Try.underlying38 HJ.out.1 HJ.out.2.1 HJ.out.2.2.1 HJ.out.2.2.2 rfl (by decide) _ _ _ rfl (World.ownsRow_nil _ _ _ _) ⟨g, 0, none⟩ n cap (zs.map (Value.int .i64)) rfl (by rw [List.length_map, HN.out, Nat.mul_one]) HNW.out (ints_one4 zs) (by unfold maxLen; omega) (by omega) (Nat.le_refl _) ?_; intro v' w5 hown' hgrow _)
  rw [Nat.zero_add, List.nil_append] at hown'
  obtain ⟨g', cap', hv, _, _⟩ := hown'.form h0
  subst hv
  go_ret
  exact ⟨g', cap', rfl, (Below.refl _ w).grown hgrow (Nat.le_refl _) (fun _ e => by cases e), hown'⟩
theorem row_below {w w' : World} {base : Nat} {e : TypeId} {k n : Nat} {v : Value} {xs : List Value} (h : w.ownsRow base e k v n xs) (hb : Below w.heap.size w w') : w'.ownsRow base e k v n xs := by
  refine h.kept (grown_none hb) ?_
  cases v.ownBlock with
  | none => exact .inl rfl
  | some g => exact .inr (by simp)
theorem rd_row4 {w : World} {base : Nat} {v : Value} {zs : List Int} {n : Nat} (h : w.ownsRow base 3 1 v n (zs.map (Value.int .i64))) (hn : zs.length = n) : RdInts w v zs := by
  subst hn
  exact (RowJ.of_rowI h).rd
set_option maxHeartbeats 16000000 in
theorem few_walk (n : Int) (vl vc vs : Value) (at_ : UInt8) (ls : List Lev) (cs : List ByteArray) (w : World) (h : HasPlan ls (mail25 cs)) (hM : MadeC #[.int .u32 n, vl, vc, vs, .int .i64 60] ls cs w) :
    Calls Try.prog 8 #[.int .u32 n, vl, vc, vs, .int .u8 (at_.toNat : Int)] w fun e w' => e = .returned (.bool true) ∧ Below w.heap.size w w' := by
  have HAW := Lib.hid (fun W => awake_any W)
  have HMD : Hid (MadeC #[.int .u32 n, vl, vc, vs, .int .i64 60] ls cs w) := hM
  have hlm : (mail25 cs).ps.length = cs.length := mailTo_len _ _
  have hcm : codesM (mail25 cs).ps = cs := mail_codesM cs
  have hpl := planM_len ls (mail25 cs)
  have hn := h.nums
  have hpc : planM ls (mail25 cs) = planC ls cs := by unfold planM; rw [hcm]
  rw [hpc] at hpl hn
  rw [hlm] at hpl
  have hfew := h.few
  rw [hlm] at hfew
  have hcode := h.code
  have hpre := h.pre
  rw [hcm] at hcode hpre
  have HPL := Lib.hid (fun W al cl ap cp (hr : RdLevs W (.slice al ls.length cl) ls) (hrp : RdPces W (.slice ap cs.length cp) (mail25 cs).ps) => plan_of h hr hrp)
  rw [hlm, hpc] at HPL
  have hsav : ∀ zs : List Int, zs.length = cs.length → numsB ls.length zs = true → ∀ W al cl vz, RdLevs W (.slice al ls.length cl) ls → RdInts W vz zs → Calls Try.prog 17 #[.slice al ls.length cl, vz] W fun e w' => e = .returned (.tuple #[.int .i64 (savesTo ls zs cs.length), .int .i64 0]) ∧ Below W.heap.size W w' := fun zs hz hzn W al cl vz hr hrz => by
    have := saving_of h.right hr hrz (by omega) hzn
    rwa [hz] at this
  have hval : ∀ zs : List Int, zs.length = cs.length → numsB ls.length zs = true → ∀ W al cl ap cp vz, RdLevs W (.slice al ls.length cl) ls → RdPces W (.slice ap cs.length cp) (mail25 cs).ps → RdInts W vz zs → Calls Try.prog 15 #[.slice al ls.length cl, maiV (mail25 cs) (.slice ap cs.length cp), vz] W fun e w' => e = .returned (.tuple #[.bool (grpsOkB ls zs (gAll ls cs ls.length)), .int .i64 0]) ∧ Below W.heap.size W w' := fun zs hz hzn W al cl ap cp vz hr hrp hrz => by
    have := valid_of h hr hrp hrz (by rw [hlm]; exact hz) hzn
    rwa [hcm] at this
  have hlaw : ∀ i (hi : i < (planC ls cs).length), 0 < (planC ls cs)[i] → numsB ls.length ((planC ls cs).set i ((planC ls cs)[i] - 1)) = true ∧ (grpsOkB ls ((planC ls cs).set i ((planC ls cs)[i] - 1)) (gAll ls cs ls.length) = true → savesTo ls ((planC ls cs).set i ((planC ls cs)[i] - 1)) cs.length < savesTo ls (planC ls cs) cs.length) :=
    fun i hi h0 => ⟨set_nums hn hi h0, fun ho => planC_few h.right hcode hpre hi h0 ho⟩
  have HS1 := Lib.hid (hsav _ hpl hn)
  unfold maiV mail25 at HPL hval
  dsimp only at HPL hval
  obtain ⟨zs, hzs⟩ : ∃ z, z = planC ls cs := ⟨_, rfl⟩
  rw [← hzs] at HPL hpl hn hlaw HS1
  have HN := Lib.hid (fun k hk => nums_at hn k hk)
  have HZL := Lib.hid hpl
  have hl6 := (right_len h.right).2
  clear hzs hn h hM hpc hcm hlm hcode hpre
  by_cases h0 : cs.length = 0
  · have h0e : ((cs.length : Int) == 0) = true := by simp [h0]
    have HC0 := Lib.hid h0
    clear h0
    go_enter Try.func8, Try.ntmps8
    go_wp2_with (first
      | (go_at_call 10; refine (HAW.out _).mono ?_; rintro e w1 ⟨rfl, hb1⟩)
      | (go_at_call 11; refine (HMD.out _ hb1).mono ?_; rintro e w2 ⟨al, cl, ap, cp, rfl, hb2, hr2, hp2⟩; have hB2 : Below w.heap.size w w2 := hb1.trans (hb2.mono hb1.size); (have hA2 : Below w2.heap.size w2 (w2.alloc (.cells #[.int .u8 1, .int .u8 1, .string ⟨#[49, 48, 48, 48, 48]⟩, .slice ap cs.length cp] 28)) := (Below.refl _ w2).alloc (Nat.le_refl _) _))
      | (go_at_call 16; refine (HPL.out _ al cl ap cp (RdLevs.below hr2 hA2) (RdPces.below hp2 hA2)).mono ?_; rintro e w3 ⟨gz, rfl, hb3, hgz, hz3⟩; (have hA3 : Below w2.heap.size w2 w3 := hA2.trans (hb3.mono hA2.size))))
    go_ret
    exact ⟨by simp, hB2.trans (hA3.mono hB2.size)⟩
  · have h0e : ((cs.length : Int) == 0) = false := by simp [h0]
    have h0n : ¬ (cs.length : Int) = 0 := by omega
    obtain ⟨i, hi⟩ : ∃ i, i = at_.toNat % cs.length := ⟨_, rfl⟩
    have hil : i < cs.length := by rw [hi]; exact Nat.mod_lt _ (by omega)
    have hw64 : wrap64 (at_.toNat : Int) = (at_.toNat : Int) := by have := at_.toNat_lt; unfold wrap64; omega
    have hmod : (wrap64 (at_.toNat : Int)).tmod (cs.length : Int) = (i : Int) := by rw [hw64, hi]; exact (Int.ofNat_tmod _ _).symm
    clear hw64
    have hizl : i < zs.length := by rw [hpl]; exact hil
    obtain ⟨hz0, hz1⟩ := HN.out i hizl
    have hlw := hlaw i hizl
    obtain ⟨z, hz⟩ : ∃ z, z = zs[i] := ⟨_, rfl⟩
    have hzd : zs.getD i (-1) = z := by rw [hz, List.getD_eq_getElem?_getD, List.getElem?_eq_getElem hizl]; rfl
    rw [← hz] at hz0 hz1 hlw
    have HZD := Lib.hid hzd
    clear hi hlaw hz hzd
    by_cases hzz : z = 0
    · have hze : (z == 0) = true := by simp [hzz]
      have HZZ := Lib.hid hzz
      clear hzz hlw
      go_enter Try.func8, Try.ntmps8
      go_wp2_with (first
        | (go_at_call 10; refine (HAW.out _).mono ?_; rintro e w1 ⟨rfl, hb1⟩)
        | (go_at_call 11; refine (HMD.out _ hb1).mono ?_; rintro e w2 ⟨al, cl, ap, cp, rfl, hb2, hr2, hp2⟩; have hB2 : Below w.heap.size w w2 := hb1.trans (hb2.mono hb1.size); (have hA2 : Below w2.heap.size w2 (w2.alloc (.cells #[.int .u8 1, .int .u8 1, .string ⟨#[49, 48, 48, 48, 48]⟩, .slice ap cs.length cp] 28)) := (Below.refl _ w2).alloc (Nat.le_refl _) _))
        | (go_at_call 16; refine (HPL.out _ al cl ap cp (RdLevs.below hr2 hA2) (RdPces.below hp2 hA2)).mono ?_; rintro e w3 ⟨gz, rfl, hb3, hgz, hz3⟩; (have hA3 : Below w2.heap.size w2 w3 := hA2.trans (hb3.mono hA2.size)); (have ez := hz3.cell hizl); rw [HZD.out] at ez))
      go_ret
      exact ⟨by simp, hB2.trans (hA3.mono hB2.size)⟩
    · have hze : (z == 0) = false := by simp [hzz]
      obtain ⟨hn2, hlt2⟩ := hlw (by omega)
      have hl2 : (zs.set i (z - 1)).length = cs.length := by rw [List.length_set, hpl]
      have HS2 := Lib.hid (hsav _ hl2 hn2)
      have HV2 := Lib.hid (hval _ hl2 hn2)
      obtain ⟨vb, hvb⟩ : ∃ b, b = grpsOkB ls (zs.set i (z - 1)) (gAll ls cs ls.length) := ⟨_, rfl⟩
      obtain ⟨sa, hsa⟩ : ∃ b, b = savesTo ls zs cs.length := ⟨_, rfl⟩
      obtain ⟨sb, hsb⟩ : ∃ b, b = savesTo ls (zs.set i (z - 1)) cs.length := ⟨_, rfl⟩
      rw [← hvb] at HV2 hlt2
      rw [← hsa] at HS1 hlt2
      rw [← hsb] at HS2 hlt2
      have hwr : IntKind.i64.wrap (z - 1) = z - 1 := IntWalk.i64_in _ (by omega)
      clear hzz hlw hsav hval hn2 hl2 hvb hsa hsb hpl
      cases vb
      · clear hlt2
        go_enter Try.func8, Try.ntmps8
        go_wp2_with (first
          | (go_at_call 10; refine (HAW.out _).mono ?_; rintro e w1 ⟨rfl, hb1⟩)
          | (go_at_call 11; refine (HMD.out _ hb1).mono ?_; rintro e w2 ⟨al, cl, ap, cp, rfl, hb2, hr2, hp2⟩; have hB2 : Below w.heap.size w w2 := hb1.trans (hb2.mono hb1.size); (have hA2 : Below w2.heap.size w2 (w2.alloc (.cells #[.int .u8 1, .int .u8 1, .string ⟨#[49, 48, 48, 48, 48]⟩, .slice ap cs.length cp] 28)) := (Below.refl _ w2).alloc (Nat.le_refl _) _); (have hz2 : (w2.alloc (.cells #[.int .u8 1, .int .u8 1, .string ⟨#[49, 48, 48, 48, 48]⟩, .slice ap cs.length cp] 28)).heap.size = w2.heap.size + 1 := World.size_alloc _ _); (have hn2 := alloc_new w2 (.cells #[.int .u8 1, .int .u8 1, .string ⟨#[49, 48, 48, 48, 48]⟩, .slice ap cs.length cp] 28)))
          | (go_at_call 16; refine (HPL.out _ al cl ap cp (RdLevs.below hr2 hA2) (RdPces.below hp2 hA2)).mono ?_; rintro e w3 ⟨gz, rfl, hb3, hgz, hz3⟩; (have hA3 : Below w2.heap.size w2 w3 := hA2.trans (hb3.mono hA2.size)); (have hs3 : w2.heap.size < w3.heap.size := by have := hb3.size; omega); (have hn3 := (hb3.block _ (by omega)).trans hn2); (have ez := hz3.cell hizl); rw [HZD.out] at ez)
          | (go_at_call 21; refine (copyI_any hz3 HZL.out (by omega) (by omega)).mono ?_; rintro e w4 ⟨gq, cq, rfl, hb4, hq4⟩; (have hql := hq4.lt gq rfl); (have eq := hq4.cellAt i (by omega)); (have hnq := hq4.frozenAt i); (have hst := (hq4.stored i (.int .i64 (z - 1))).1); rw [List.getElem?_map, List.getElem?_eq_getElem hizl] at eq; (have eq' : w4.cell? ⟨gq, i, none⟩ = some (.int .i64 z) := by rw [eq, ← HZD.out, List.getD_eq_getElem?_getD, List.getElem?_eq_getElem hizl]; rfl); clear eq; rw [← List.map_set] at hst; (have hW4 : Below w3.heap.size w3 (w4.setCell ⟨gq, i, none⟩ (.int .i64 (z - 1))) := hb4.setCell hql.1 _))
          | (go_at_call 17; refine (HS2.out _ al cl _ (RdLevs.below hr2 hA5) (rd_row4 hq5 (by rw [List.length_set, HZL.out]))).mono ?_; rintro e w6 ⟨rfl, hb6⟩; (have hq6 := row_below hq5 hb6); (have hA6 : Below w2.heap.size w2 w6 := hA5.trans (hb6.mono hA5.size)); obtain ⟨m0, m1, m2, m3⟩ := cells4 ((hb6.block _ (Nat.lt_of_lt_of_le hs3 (Nat.le_trans hW4.size hb5.size))).trans hn5))
          | (go_at_call 17; refine (HS1.out _ al cl _ (RdLevs.below hr2 (hA3.trans (hW4.mono hA3.size))) ((rd_plan hz3 HZL.out).below hW4)).mono ?_; rintro e w5 ⟨rfl, hb5⟩; (have hq5 := row_below hst hb5); (have hn5 := (hb5.block _ (Nat.lt_of_lt_of_le hs3 hW4.size)).trans ((hW4.block _ hs3).trans hn3)); (have hA5 : Below w2.heap.size w2 w5 := (hA3.trans (hW4.mono hA3.size)).trans (hb5.mono (hA3.trans (hW4.mono hA3.size)).size)))
          | (go_at_call 15; refine (HV2.out _ al cl ap cp _ (RdLevs.below hr2 hA6) (RdPces.below hp2 hA6) (rd_row4 hq6 (by rw [List.length_set, HZL.out]))).mono ?_; rintro e w7 ⟨rfl, hb7⟩; (have HBE : Hid (Below w.heap.size w w7) := hB2.trans ((hA6.trans (hb7.mono hA6.size)).mono hB2.size))))
        go_ret
        exact ⟨by simp, HBE.out⟩
      · have hlt3 := hlt2 rfl
        clear hlt2
        go_enter Try.func8, Try.ntmps8
        go_wp2_with (first
          | (go_at_call 10; refine (HAW.out _).mono ?_; rintro e w1 ⟨rfl, hb1⟩)
          | (go_at_call 11; refine (HMD.out _ hb1).mono ?_; rintro e w2 ⟨al, cl, ap, cp, rfl, hb2, hr2, hp2⟩; have hB2 : Below w.heap.size w w2 := hb1.trans (hb2.mono hb1.size); (have hA2 : Below w2.heap.size w2 (w2.alloc (.cells #[.int .u8 1, .int .u8 1, .string ⟨#[49, 48, 48, 48, 48]⟩, .slice ap cs.length cp] 28)) := (Below.refl _ w2).alloc (Nat.le_refl _) _); (have hz2 : (w2.alloc (.cells #[.int .u8 1, .int .u8 1, .string ⟨#[49, 48, 48, 48, 48]⟩, .slice ap cs.length cp] 28)).heap.size = w2.heap.size + 1 := World.size_alloc _ _); (have hn2 := alloc_new w2 (.cells #[.int .u8 1, .int .u8 1, .string ⟨#[49, 48, 48, 48, 48]⟩, .slice ap cs.length cp] 28)))
          | (go_at_call 16; refine (HPL.out _ al cl ap cp (RdLevs.below hr2 hA2) (RdPces.below hp2 hA2)).mono ?_; rintro e w3 ⟨gz, rfl, hb3, hgz, hz3⟩; (have hA3 : Below w2.heap.size w2 w3 := hA2.trans (hb3.mono hA2.size)); (have hs3 : w2.heap.size < w3.heap.size := by have := hb3.size; omega); (have hn3 := (hb3.block _ (by omega)).trans hn2); (have ez := hz3.cell hizl); rw [HZD.out] at ez)
          | (go_at_call 21; refine (copyI_any hz3 HZL.out (by omega) (by omega)).mono ?_; rintro e w4 ⟨gq, cq, rfl, hb4, hq4⟩; (have hql := hq4.lt gq rfl); (have eq := hq4.cellAt i (by omega)); (have hnq := hq4.frozenAt i); (have hst := (hq4.stored i (.int .i64 (z - 1))).1); rw [List.getElem?_map, List.getElem?_eq_getElem hizl] at eq; (have eq' : w4.cell? ⟨gq, i, none⟩ = some (.int .i64 z) := by rw [eq, ← HZD.out, List.getD_eq_getElem?_getD, List.getElem?_eq_getElem hizl]; rfl); clear eq; rw [← List.map_set] at hst; (have hW4 : Below w3.heap.size w3 (w4.setCell ⟨gq, i, none⟩ (.int .i64 (z - 1))) := hb4.setCell hql.1 _))
          | (go_at_call 17; refine (HS2.out _ al cl _ (RdLevs.below hr2 hA5) (rd_row4 hq5 (by rw [List.length_set, HZL.out]))).mono ?_; rintro e w6 ⟨rfl, hb6⟩; (have hq6 := row_below hq5 hb6); (have hA6 : Below w2.heap.size w2 w6 := hA5.trans (hb6.mono hA5.size)); obtain ⟨m0, m1, m2, m3⟩ := cells4 ((hb6.block _ (Nat.lt_of_lt_of_le hs3 (Nat.le_trans hW4.size hb5.size))).trans hn5))
          | (go_at_call 17; refine (HS1.out _ al cl _ (RdLevs.below hr2 (hA3.trans (hW4.mono hA3.size))) ((rd_plan hz3 HZL.out).below hW4)).mono ?_; rintro e w5 ⟨rfl, hb5⟩; (have hq5 := row_below hst hb5); (have hn5 := (hb5.block _ (Nat.lt_of_lt_of_le hs3 hW4.size)).trans ((hW4.block _ hs3).trans hn3)); (have hA5 : Below w2.heap.size w2 w5 := (hA3.trans (hW4.mono hA3.size)).trans (hb5.mono (hA3.trans (hW4.mono hA3.size)).size)))
          | (go_at_call 15; refine (HV2.out _ al cl ap cp _ (RdLevs.below hr2 hA6) (RdPces.below hp2 hA6) (rd_row4 hq6 (by rw [List.length_set, HZL.out]))).mono ?_; rintro e w7 ⟨rfl, hb7⟩; (have HBE : Hid (Below w.heap.size w w7) := hB2.trans ((hA6.trans (hb7.mono hA6.size)).mono hB2.size))))
        go_ret
        exact ⟨by simp, HBE.out⟩
theorem presortFew_walk (n : Int) (least cents l : List UInt8) (c : UInt8) (vl vc vs : Value) (w : World) (hn0 : 0 ≤ n) (hn1 : n < 4294967296) (hrl : RdBytes w vl least) (hrc : RdBytes w vc cents) (hrs : RdBytesC w vs l)
    (hll : least.length ≤ maxLen) (hcl : cents.length ≤ maxLen) (hsl : l.length ≤ maxLen) :
    Calls Try.prog 8 #[.int .u32 n, vl, vc, vs, .int .u8 (c.toNat : Int)] w fun e w' => e = .returned (.bool true) ∧ Below w.heap.size w w' :=
  few_walk n vl vc vs c _ _ w (made_has _ _ _ _) (made_c hn0 hn1 hrl hrc hrs hll hcl hsl (by decide))
end Go.Proofs.Ytpieagaggjngjaa
