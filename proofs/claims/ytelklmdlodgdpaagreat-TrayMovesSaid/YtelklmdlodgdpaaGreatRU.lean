/-
  What the rows of this seat share: numbers of 16 bits that come in, five and seven parameters; what Made brings.
-/
import Derived.Test.YtelklmdlodgdpaaGreatGK
import Derived.Test.YtelklmdlodgdpaaGreatTVN
import Derived.Test.YtelklmdlodgdpaaGreatTVS
import Derived.Test.YtelklmdlodgdpaaGreatGP
namespace Go.Proofs.YtelklmdlodgdpaaGreat
open Go.ChangeShapes Go.WideShapes Go.ChangeAt Go.RowKit
set_option linter.unusedVariables false
theorem cells_u16 : Tryz.prog.cellsOf 60 = 1 := by kernel_rfl
theorem u16_of_wf2 {n : Int} (h : (Lit.int .u16 n).wf = true) : ∃ c : UInt16, n = (c.toNat : Int) := by
  have := u16_of_wf h
  exact ⟨UInt16.ofNat n.toNat, by rw [UInt16.toNat_ofNat']; omega⟩
set_option maxRecDepth 100000 in
theorem open_u16sC_arg {H : Type} {enc : TypeId × Value → H} {W : World} {base : Nat} {v : Value} {d : DataW H} {ps : List MemPlace} (hval : Value.okWide Tryz.prog W .any base 24 v)
    (h : DataW.Trod enc Tryz.prog W 0 (fun _ => true) true 24 v d ps) : ∃ bs : List UInt16, RdU16 W v bs ∧ bs.length ≤ maxLen ∧ RdU16C W v bs := by
  obtain ⟨a0, len, cap, rfl⟩ := okWide_slice Tryz.underlying24 hval
  obtain ⟨fuel, hf⟩ := h
  rcases open_ints Tryz.underlying24 Tryz.underlying60 cells_u16 hf with ⟨hcs, hx⟩ | ⟨a, len', cap', zs, hcs, _, hl, hm, hz, hx, hcell, hwz⟩
  · simp [Value.cells] at hcs
    obtain ⟨rfl, rfl, rfl⟩ := hcs
    have h0 : RdU16 W (.slice none 0 0) [] := ⟨none, 0, rfl, fun h => absurd h (by simp)⟩
    exact ⟨[], h0, Nat.zero_le _, h0, .inl rfl⟩
  · simp [Value.cells] at hcs
    obtain ⟨rfl, rfl, rfl⟩ := hcs
    simp only [if_true] at hz
    obtain ⟨b, off, spot⟩ := a
    have hmap : ∀ i, i < len → ∃ c : UInt16, zs.getD i 0 = (c.toNat : Int) := fun i hi => by
      have hi' : i < zs.length := by omega
      have := hwz (zs.getD i 0) (by rw [List.getD_eq_getElem?_getD, List.getElem?_eq_getElem hi']; exact List.getElem_mem hi')
      exact u16_of_wf2 this
    have hr : RdU16 W (.slice (some ⟨b, off, spot⟩) len cap) ((List.range len).map (fun i => UInt16.ofNat (zs.getD i 0).toNat)) := by
      refine ⟨some ⟨b, off, spot⟩, cap, by simp, fun h0 => ?_⟩
      have hl0 : 0 < len := by simpa using h0
      have hspot : spot = none := by simpa [Addr.add] using World.cell?_spot (hcell 0 (by omega))
      subst hspot
      have hcc : ∀ i, i < len → W.cell? ⟨b, off + i, none⟩ = some (.int .u16 (zs.getD i 0)) := fun i hi => by
        have := hcell i (by omega)
        have ea : (⟨b, off, none⟩ : Addr).add i = ⟨b, off + i, none⟩ := by unfold Addr.add; split <;> simp_all
        rw [ea] at this
        exact this
      refine ⟨b, off, rfl, cell_lt (hcc 0 hl0), fun i hi => ?_⟩
      have hi' : i < len := by simpa using hi
      obtain ⟨c, hc⟩ := hmap i hi'
      rw [hcc i hi', List.getElem_map, List.getElem_range, hc]
      simp
    refine ⟨(List.range len).map (fun i => UInt16.ofNat (zs.getD i 0).toNat), hr, by simp; omega, hr, .inr ⟨b, off, spot, cap, by simp, by simp; omega⟩⟩
theorem made_b {n : Int} {b : Nat} {vl vc vs : Value} {least cents : List UInt8} {l : List UInt16} {most : Nat} {w : World} (hn0 : 0 ≤ n) (hn1 : n < 4294967296) (hb1 : b < 4294967296) (hrl : RdBytes w vl least) (hrc : RdBytes w vc cents) (hrs : RdU16C w vs l)
    (hll : least.length ≤ maxLen) (hcl : cents.length ≤ maxLen) (hsl : l.length ≤ maxLen) (hm : most ≤ 2000) :
    MadeB #[.int .u32 n, vl, vc, vs, .int .i64 most, .int .u32 b] (madeR (bitsOf n) (lowL least 3) cents) (l.take most) (planM (madeR (bitsOf n) (lowL least 3) cents) (mail24 (l.take most))) (pckBy b) w := by
  intro W hW
  have hrs' : RdU16C W vs l := ⟨hrs.1.below hW, hrs.2⟩
  by_cases hx : vs = .slice none 0 0
  · exact made26_nil n b vl vc vs least cents l most W hn0 hn1 hb1 (hrl.below hW) (hrc.below hW) hrs' hll hcl hsl hm hx
  · exact made26_some n b vl vc vs least cents l most W hn0 hn1 hb1 (hrl.below hW) (hrc.below hW) hrs' hll hcl hsl hm hx
theorem made_hp (n : Int) (least cents : List UInt8) (l : List UInt16) (most : Nat) (hm : most ≤ 2000) : HasPlan (madeR (bitsOf n) (lowL least 3) cents) (mail24 (l.take most)) := mail24_has _ _ _ _ (by rw [List.length_take]; omega)
section
variable {H : Type} {enc : TypeId × Value → H} {P : Program} {w : World} {base : Nat} {spare : Nat → Bool} {held : Bool}
theorem trodAll_five {t t' t'' t3 t4 : TypeId} {args : Array Value} {ds : List (DataW H)} {ps : List MemPlace} (h : DataW.TrodAll enc P w base spare held [t, t', t'', t3, t4] args.toList ds ps) :
    ∃ v v' v'' v3 v4 d d' d'' d3 d4 p p' p'' p3 p4, args = #[v, v', v'', v3, v4] ∧ ds = [d, d', d'', d3, d4] ∧ ps = p ++ p' ++ p'' ++ p3 ++ p4 ∧ DataW.Trod enc P w base spare held t v d p ∧ DataW.Trod enc P w base spare held t' v' d' p' ∧ DataW.Trod enc P w base spare held t'' v'' d'' p'' ∧ DataW.Trod enc P w base spare held t3 v3 d3 p3 ∧ DataW.Trod enc P w base spare held t4 v4 d4 p4 := by
  obtain ⟨v, vs, d, ds', p, q, hargs, rfl, rfl, hd, hrest⟩ := trodAll_cons h
  obtain ⟨v', vs', d', ds'', p', q', rfl, rfl, rfl, hd', hrest'⟩ := trodAll_cons hrest
  obtain ⟨v'', vs'', d'', ds''', p'', q'', rfl, rfl, rfl, hd'', hrest''⟩ := trodAll_cons hrest'
  obtain ⟨v3, vs3, d3, ds3, p3, q3, rfl, rfl, rfl, hd3, hrest3⟩ := trodAll_cons hrest''
  obtain ⟨v4, vs4, d4, ds4, p4, q4, rfl, rfl, rfl, hd4, hrest4⟩ := trodAll_cons hrest3
  obtain ⟨rfl, rfl, rfl⟩ := trodAll_nil hrest4
  exact ⟨v, v', v'', v3, v4, d, d', d'', d3, d4, p, p', p'', p3, p4, by cases args; simp_all, rfl, by simp, hd, hd', hd'', hd3, hd4⟩
theorem trodAll_mk5 {t t' t'' t3 t4 : TypeId} {v v' v'' v3 v4 : Value} {d d' d'' d3 d4 : DataW H} {p p' p'' p3 p4 : List MemPlace} (h : DataW.Trod enc P w base spare held t v d p) (h' : DataW.Trod enc P w base spare held t' v' d' p')
    (h'' : DataW.Trod enc P w base spare held t'' v'' d'' p'') (h3 : DataW.Trod enc P w base spare held t3 v3 d3 p3) (h4 : DataW.Trod enc P w base spare held t4 v4 d4 p4) : DataW.TrodAll enc P w base spare held [t, t', t'', t3, t4] [v, v', v'', v3, v4] [d, d', d'', d3, d4] (p ++ (p' ++ (p'' ++ (p3 ++ p4)))) := ⟨p, p' ++ (p'' ++ (p3 ++ p4)), h, trodAll_mk4 h' h'' h3 h4, rfl⟩
theorem trodAll_mk6x {t' t'' t3 t4 t5 t6 : TypeId} {v' v'' v3 v4 v5 v6 : Value} {d' d'' d3 d4 d5 d6 : DataW H} {p' p'' p3 p4 p5 p6 : List MemPlace} (h' : DataW.Trod enc P w base spare held t' v' d' p')
    (h'' : DataW.Trod enc P w base spare held t'' v'' d'' p'') (h3 : DataW.Trod enc P w base spare held t3 v3 d3 p3) (h4 : DataW.Trod enc P w base spare held t4 v4 d4 p4) (h5 : DataW.Trod enc P w base spare held t5 v5 d5 p5) (h6 : DataW.Trod enc P w base spare held t6 v6 d6 p6) :
    DataW.TrodAll enc P w base spare held [t', t'', t3, t4, t5, t6] [v', v'', v3, v4, v5, v6] [d', d'', d3, d4, d5, d6] (p' ++ (p'' ++ (p3 ++ (p4 ++ (p5 ++ p6))))) := ⟨p', p'' ++ (p3 ++ (p4 ++ (p5 ++ p6))), h', trodAll_mk5 h'' h3 h4 h5 h6, rfl⟩
theorem trodAll_seven {t t' t'' t3 t4 t5 t6 : TypeId} {args : Array Value} {ds : List (DataW H)} {ps : List MemPlace} (h : DataW.TrodAll enc P w base spare held [t, t', t'', t3, t4, t5, t6] args.toList ds ps) :
    ∃ v v' v'' v3 v4 v5 v6 d d' d'' d3 d4 d5 d6 p p' p'' p3 p4 p5 p6, args = #[v, v', v'', v3, v4, v5, v6] ∧ ds = [d, d', d'', d3, d4, d5, d6] ∧ ps = p ++ p' ++ p'' ++ p3 ++ p4 ++ p5 ++ p6 ∧ DataW.Trod enc P w base spare held t v d p ∧ DataW.Trod enc P w base spare held t' v' d' p' ∧ DataW.Trod enc P w base spare held t'' v'' d'' p'' ∧ DataW.Trod enc P w base spare held t3 v3 d3 p3 ∧ DataW.Trod enc P w base spare held t4 v4 d4 p4 ∧ DataW.Trod enc P w base spare held t5 v5 d5 p5 ∧ DataW.Trod enc P w base spare held t6 v6 d6 p6 := by
  obtain ⟨v, vs, d, es1, p, q, hargs, rfl, rfl, hd, hrest⟩ := trodAll_cons h
  obtain ⟨v', vs', d', es2, p', q', rfl, rfl, rfl, hd', hrest'⟩ := trodAll_cons hrest
  obtain ⟨v'', vs'', d'', es3, p'', q'', rfl, rfl, rfl, hd'', hrest''⟩ := trodAll_cons hrest'
  obtain ⟨v3, vs3, d3, es4, p3, q3, rfl, rfl, rfl, hd3, hrest3⟩ := trodAll_cons hrest''
  obtain ⟨v4, vs4, d4, es5, p4, q4, rfl, rfl, rfl, hd4, hrest4⟩ := trodAll_cons hrest3
  obtain ⟨v5, vs5, d5, es6, p5, q5, rfl, rfl, rfl, hd5, hrest5⟩ := trodAll_cons hrest4
  obtain ⟨v6, vs6, d6, es7, p6, q6, rfl, rfl, rfl, hd6, hrest6⟩ := trodAll_cons hrest5
  obtain ⟨rfl, rfl, rfl⟩ := trodAll_nil hrest6
  exact ⟨v, v', v'', v3, v4, v5, v6, d, d', d'', d3, d4, d5, d6, p, p', p'', p3, p4, p5, p6, by cases args; simp_all, rfl, by simp, hd, hd', hd'', hd3, hd4, hd5, hd6⟩
theorem trodAll_mk7 {t t' t'' t3 t4 t5 t6 : TypeId} {v v' v'' v3 v4 v5 v6 : Value} {d d' d'' d3 d4 d5 d6 : DataW H} {p p' p'' p3 p4 p5 p6 : List MemPlace} (h : DataW.Trod enc P w base spare held t v d p) (h' : DataW.Trod enc P w base spare held t' v' d' p')
    (h'' : DataW.Trod enc P w base spare held t'' v'' d'' p'') (h3 : DataW.Trod enc P w base spare held t3 v3 d3 p3) (h4 : DataW.Trod enc P w base spare held t4 v4 d4 p4) (h5 : DataW.Trod enc P w base spare held t5 v5 d5 p5) (h6 : DataW.Trod enc P w base spare held t6 v6 d6 p6) :
    DataW.TrodAll enc P w base spare held [t, t', t'', t3, t4, t5, t6] [v, v', v'', v3, v4, v5, v6] [d, d', d'', d3, d4, d5, d6] (p ++ (p' ++ (p'' ++ (p3 ++ (p4 ++ (p5 ++ p6)))))) := ⟨p, p' ++ (p'' ++ (p3 ++ (p4 ++ (p5 ++ p6)))), h, trodAll_mk6x h' h'' h3 h4 h5 h6, rfl⟩
end
end Go.Proofs.YtelklmdlodgdpaaGreat
