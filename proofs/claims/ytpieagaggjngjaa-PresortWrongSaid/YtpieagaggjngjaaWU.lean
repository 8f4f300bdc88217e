/-
  letterbaglaw25.made.
-/
import Derived.Test.YtpieagaggjngjaaWV
import Derived.Test.YtpieagaggjngjaaGC
import Derived.Deep.RegionWith
import Derived.Deep.DeepCutAuto
namespace Go.Proofs.Ytpieagaggjngjaa
open Go.RowKit Go.Sort
set_option linter.unusedVariables false
set_option maxRecDepth 100000
theorem Try.infoU8 : (Try.prog.info? 5).map (fun i => (i.zero, i.size, i.bytes)) = some (some (.int .u8 0), 1, 1) := by kernel_rfl
theorem results_tmp_cell {fn : Func} {p u : Tmp} {ty : TypeId} (h : fn.results = #[.tmp u, .cell p ty]) (tmps : Array Value) (w : World) (g : Nat) (x : Value)
    (hp : tmps.getD p undef = .pointer (some ⟨g, 0, none⟩)) (hL : (loadVar ty ⟨g, 0, none⟩).run Try.prog w = .ok x w) : (results fn tmps).run Try.prog w = .ok (.tuple #[tmps.getD u undef, x]) w := by
  have hp' : tmps[p]?.getD undef = .pointer (some ⟨g, 0, none⟩) := by simpa using hp
  simp [results, h, hp', asAddr, hL, Result.andThen]
def lowL (least : List UInt8) (k : Nat) : List UInt8 := (least.take k).map (· % 8)
theorem lowL_succ {least : List UInt8} {k : Nat} (h : k < least.length) : lowL least (k + 1) = lowL least k ++ [least[k] % 8] := by
  unfold lowL; rw [List.take_succ_eq_append_getElem h, List.map_append]; rfl
def encU (c : UInt8) : Value := .int .u8 (c.toNat : Int)
theorem lowL_len (least : List UInt8) (k : Nat) : (lowL least k).length ≤ k := by unfold lowL; rw [List.length_map, List.length_take]; omega
theorem RdBytes.of_row {w : World} {base : Nat} {v : Value} {bs : List UInt8} (h : w.ownsRow base 5 1 v bs.length (bs.map encU)) : RdBytes w v bs := by
  rcases Joins.ownsRow_forms h with ⟨rfl, hp⟩ | ⟨g, cap, rfl⟩
  · obtain rfl : bs = [] := List.length_eq_zero_iff.1 hp
    exact rd_bytes0 w
  · exact ⟨_, cap, rfl, fun _ => ⟨g, 0, rfl, (h.lt g rfl).2, fun i hi => by rw [Nat.zero_add, h.cellAt i (by omega), List.getElem?_map, List.getElem?_eq_getElem hi]; rfl⟩⟩
/-- A slice of bytes that may be cut. -/
def RdBytesC (w : World) (v : Value) (bs : List UInt8) : Prop := RdBytes w v bs ∧ (v = .slice none 0 0 ∨ ∃ b off spot cap, v = .slice (some ⟨b, off, spot⟩) bs.length cap ∧ bs.length ≤ cap)
theorem RdBytes.below2 {w w' : World} {v : Value} {zs : List UInt8} (h : RdBytes w v zs) (hb : Below w.heap.size w w') : RdBytes w' v zs := h.below hb
theorem RdBytes.take {w : World} {a : Option Addr} {n cap : Nat} {bs : List UInt8} (h : RdBytes w (.slice a n cap) bs) {k cap' : Nat} (hk : k ≤ bs.length) : RdBytes w (.slice a k cap') (bs.take k) := by
  obtain ⟨a', c', hv, hc⟩ := h
  injection hv with h1 h2 h3
  subst h1
  refine ⟨a, cap', by rw [List.length_take, Nat.min_eq_left hk], fun h0 => ?_⟩
  rw [List.length_take] at h0
  obtain ⟨g, off, ha, hg, hcc⟩ := hc (by omega)
  exact ⟨g, off, ha, hg, fun i hi => by rw [List.length_take] at hi; rw [hcc i (by omega), List.getElem_take]⟩
theorem made_at {n : Int} {v vc : Value} {least cents : List UInt8} {wr : World} {k base : Nat} (ho : wr.ownsRow base 5 1 v k ((lowL least k).map encU)) (hk : k ≤ least.length) (hfin : lowL least k = lowL least 3) (hn0 : 0 ≤ n) (hn1 : n < 4294967296) (hrc : RdBytes wr vc cents) (hcl : cents.length ≤ maxLen)
    {nl : Nat} (hnl : nl = (madeR (bitsOf n) (lowL least 3) cents).length) : ∀ W, Below wr.heap.size wr W → Calls Try.prog 25 #[.int .u32 n, v, vc] W fun e w' => ∃ al cl, e = .returned (.slice al nl cl) ∧ Below W.heap.size W w' ∧ OwnsLv w' W.heap.size (.slice al nl cl) (madeR (bitsOf n) (lowL least 3) cents) := fun W hW => by
  have hlk : (lowL least k).length = k := by unfold lowL; rw [List.length_map, List.length_take]; omega
  have hbt : RdBytes wr v (lowL least 3) := by
    rw [← hfin]
    refine RdBytes.of_row (base := base) ?_
    rw [hlk]
    exact ho
  refine (made_any n v vc (lowL least 3) cents W hn0 hn1 (hbt.below hW) (hrc.below hW) (by have := lowL_len least 3; unfold maxLen; omega) hcl).mono ?_
  rintro e w' ⟨v', rfl, hb, ho⟩
  obtain ⟨al, cl, rfl⟩ := ho.form
  rw [hnl]
  exact ⟨al, cl, rfl, hb, ho⟩
theorem codes_at {a : Option Addr} {mm cap most : Nat} {l : List UInt8} {wr : World} (h : RdBytes wr (.slice a mm cap) (l.take mm)) (he : l.take mm = l.take most) (hm : most ≤ 2000) : ∀ W, Below wr.heap.size wr W → Calls Try.prog 26 #[.slice a mm cap] W fun e w' => ∃ u, e = .returned u ∧ Below W.heap.size W w' ∧ ReadsT w' u (codesOf (l.take most)) := fun W hW => by
  rw [he] at h
  refine (codes_any (l.take most) _ W (h.below hW) (by rw [List.length_take]; unfold maxLen; omega)).mono ?_
  rintro e w' ⟨v', rfl, hb, ho⟩
  exact ⟨v', rfl, hb, ReadsT.of_row ho⟩
theorem mail_at {most : Nat} {l : List UInt8} {nc : Nat} (hnc : nc = (codesOf (l.take most)).length) (hm : most ≤ 2000) : ∀ W u, ReadsT W u (codesOf (l.take most)) → Calls Try.prog 23 #[u] W fun e w' => ∃ ap cp, e = .returned (.agg #[.int .u8 1, .int .u8 1, .string ⟨#[49, 48, 48, 48, 48]⟩, .slice ap nc cp]) ∧ Below W.heap.size W w' ∧ OwnsP w' W.heap.size (.slice ap nc cp) (mail25 (codesOf (l.take most))).ps := fun W u hu => by
  rw [hnc]
  refine mail_ex _ u W hu ?_
  unfold codesOf
  rw [List.length_map, List.length_take, List.length_take]
  omega
theorem row_mono {w : World} {base base' : Nat} {e : TypeId} {size : Nat} {v : Value} {n : Nat} {xs : List Value} (h : w.ownsRow base e size v n xs) (hb : base' ≤ base) : w.ownsRow base' e size v n xs := by
  obtain ⟨h1, h2 | ⟨g, cap, cur, hv, h3, h4⟩⟩ := h
  · exact ⟨h1, .inl h2⟩
  · exact ⟨h1, .inr ⟨g, cap, cur, hv, Nat.le_trans hb h3, h4⟩⟩
theorem OwnsLv.mono {w : World} {base base' : Nat} {v : Value} {ls : List Lev} (h : OwnsLv w base v ls) (hb : base' ≤ base) : OwnsLv w base' v ls := by
  obtain ⟨L, hL, hLr, hLo⟩ := h
  exact ⟨L, hL, fun p hp => row_mono (hLr p hp) hb, row_mono hLo hb⟩
theorem made_fin {w wr wL : World} {b1 b2 : Nat} {v1 v2 x0 x1 x2 x3 : Value} {ls : List Lev} {ps : List Pce} (hB : Below w.heap.size w wr) (hL : Below (w.heap.size + 1) wr wL) (h0 : wr.heap[w.heap.size]? = some (.cells #[x0, x1, x2, x3] 28 (0, 0))) (hl : OwnsLv wL b1 v1 ls) (hp : OwnsP wL b2 v2 ps)
    (hz : w.heap.size + 1 ≤ wr.heap.size) (h1 : wr.heap.size ≤ b1 ∨ w.heap.size + 1 ≤ b1) (h2 : w.heap.size + 1 ≤ b2) (a b c d : Value) :
    Below w.heap.size w ((((wL.setCell ⟨w.heap.size, 0, none⟩ a).setCell ⟨w.heap.size, 1, none⟩ b).setCell ⟨w.heap.size, 2, none⟩ c).setCell ⟨w.heap.size, 3, none⟩ d) ∧
    OwnsLv ((((wL.setCell ⟨w.heap.size, 0, none⟩ a).setCell ⟨w.heap.size, 1, none⟩ b).setCell ⟨w.heap.size, 2, none⟩ c).setCell ⟨w.heap.size, 3, none⟩ d) w.heap.size v1 ls ∧
    OwnsP ((((wL.setCell ⟨w.heap.size, 0, none⟩ a).setCell ⟨w.heap.size, 1, none⟩ b).setCell ⟨w.heap.size, 2, none⟩ c).setCell ⟨w.heap.size, 3, none⟩ d) w.heap.size v2 ps := by
  have hBL : Below w.heap.size w wL := hB.trans (hL.mono (by omega))
  have hg : wL.heap[w.heap.size]? = some (.cells #[x0, x1, x2, x3] 28 (0, 0)) := (hL.block _ (Nat.lt_succ_self _)).trans h0
  have hgb : wL.grownBy ((((wL.setCell ⟨w.heap.size, 0, none⟩ a).setCell ⟨w.heap.size, 1, none⟩ b).setCell ⟨w.heap.size, 2, none⟩ c).setCell ⟨w.heap.size, 3, none⟩ d) (some w.heap.size) :=
    ⟨rfl, rfl, rfl, by simp [World.setCell], fun k hk hne => by
      have hk' : k ≠ w.heap.size := fun e => hne (by rw [e])
      have hs : ∀ (W : World) (p : Addr) (u : Value), p.block = w.heap.size → (W.setCell p u).heap[k]? = W.heap[k]? := fun W p u hp => Below.heap_setCell _ _ _ _ (fun e => hk' (by rw [e, hp]))
      rw [hs _ _ _ rfl, hs _ _ _ rfl, hs _ _ _ rfl, hs _ _ _ rfl]⟩
  refine ⟨(((hBL.setCell (p := ⟨w.heap.size, 0, none⟩) (Nat.le_refl _) _).setCell (p := ⟨w.heap.size, 1, none⟩) (Nat.le_refl _) _).setCell (p := ⟨w.heap.size, 2, none⟩) (Nat.le_refl _) _).setCell (p := ⟨w.heap.size, 3, none⟩) (Nat.le_refl _) _, ?_, ?_⟩
  · refine OwnsLv.mono (hl.grown hgb ?_ ?_) (by omega)
    · intro g e cur fr
      injection e with e
      rw [← e, hg]
      intro e2
      injection e2 with e2
      injection e2 with e3 e4 e5
      exact absurd e4 (by decide)
    · intro g e cur fr
      injection e with e
      rw [← e, hg]
      intro e2
      injection e2 with e2
      injection e2 with e3 e4 e5
      exact absurd e4 (by decide)
  · exact OwnsP.mono (own_set4 hp (by omega) _ _ _ _) (by omega)
set_option maxHeartbeats 16000000 in
theorem made25_any (n : Int) (vl vc vs : Value) (least cents l : List UInt8) (most : Nat) (w : World) (hn0 : 0 ≤ n) (hn1 : n < 4294967296) (hrl : RdBytes w vl least) (hrc : RdBytes w vc cents) (hrs : RdBytesC w vs l)
    (hll : least.length ≤ maxLen) (hcl : cents.length ≤ maxLen) (hsl : l.length ≤ maxLen) (hm : most ≤ 2000) :
    Calls Try.prog 11 #[.int .u32 n, vl, vc, vs, .int .i64 most] w fun e w' => ∃ al cl ap cp, e = .returned (.tuple #[.slice al (madeR (bitsOf n) (lowL least 3) cents).length cl, .agg #[.int .u8 1, .int .u8 1, .string ⟨#[49, 48, 48, 48, 48]⟩, .slice ap (codesOf (l.take most)).length cp]]) ∧ Below w.heap.size w w' ∧
      OwnsLv w' w.heap.size (.slice al (madeR (bitsOf n) (lowL least 3) cents).length cl) (madeR (bitsOf n) (lowL least 3) cents) ∧ OwnsP w' w.heap.size (.slice ap (codesOf (l.take most)).length cp) (mail25 (codesOf (l.take most))).ps := by
  obtain ⟨a, ca, rfl, hca⟩ := hrl
  obtain ⟨hrs, hfm⟩ := hrs
  have hrs' := hrs
  obtain ⟨as_, cs_, rfl, hcs⟩ := hrs'
  have HRS := Lib.hid hrs
  have hfm2 : (as_ = none ∧ cs_ = 0 ∧ l.length = 0) ∨ (∃ sb so sp, as_ = some ⟨sb, so, sp⟩ ∧ l.length ≤ cs_) := by
    rcases hfm with h | ⟨b, off, spot, cap, h, hc⟩
    · injection h with h1 h2 h3
      exact .inl ⟨h1, h3, h2⟩
    · injection h with h1 h2 h3
      exact .inr ⟨b, off, spot, h1, by omega⟩
  have HFM := Lib.hid hfm2
  obtain ⟨mm, hmm⟩ : ∃ mm : Nat, min (l.length : Int) (most : Int) = (mm : Int) := ⟨min l.length most, by omega⟩
  have HMM : Hid (l.take mm = l.take most ∧ mm ≤ l.length) := by
    refine ⟨?_, by omega⟩
    by_cases h : l.length ≤ most
    · rw [List.take_of_length_le (by omega), List.take_of_length_le h]
    · rw [show mm = most by omega]
  have HCL : Hid ((codesOf (l.take most)).length ≤ 100000) := by
    unfold codesOf
    show _ ≤ _
    rw [List.length_map, List.length_take, List.length_take]
    omega
  have HRC := Lib.hid hrc
  have HCA := Lib.hid hca
  obtain ⟨i0, hi⟩ := info_parts Try.infoU8
  have HI := Lib.hid hi
  clear hi hca hcs hrc hrs hfm hfm2
  obtain ⟨nl, hnl⟩ : ∃ z, z = (madeR (bitsOf n) (lowL least 3) cents).length := ⟨_, rfl⟩
  obtain ⟨nc, hnc⟩ : ∃ z, z = (codesOf (l.take most)).length := ⟨_, rfl⟩
  rw [← hnl, ← hnc]
  have HNL := Lib.hid hnl
  have HNC := Lib.hid hnc
  clear hnl hnc
  go_enter Try.func11, Try.ntmps11
  go_wp2_with (at_make; refine wpList_make_own _ rfl _ _ 23 rfl (w.heap.size + 1) 5 i0 (.int .u8 0) 1 Try.underlying23 HI.out.1 HI.out.2.1 HI.out.2.2.1 _ _ _ 3 rfl (by first | rfl | simp) rfl (by rw [HI.out.2.2.2]; omega) (by unfold maxLen; omega) (by simp) ?_; intro w1 hown hgrow)
  have hb1 : Below w.heap.size w w1 := ((Below.refl _ w).alloc (Nat.le_refl _) _).grown hgrow (by simp) (fun r e => by cases e)
  have hz1 := hgrow.size
  rw [World.size_alloc] at hz1
  have hm1 : w1.heap[w.heap.size]? = some (.cells #[.int .u8 0, .int .u8 0, .string ⟨#[]⟩, .slice none 0 0] 28 (0, 0)) := (hgrow.block _ (by simp) (by simp)).trans (alloc_new w _)
  clear hgrow
  go_loopw [12, 13] (fun v i wr => ∃ k : Nat, k ≤ 3 ∧ k ≤ least.length ∧ i = .int .i64 k ∧ Below w.heap.size w wr ∧ w.heap.size + 1 ≤ wr.heap.size ∧ wr.heap[w.heap.size]? = some (.cells #[.int .u8 0, .int .u8 0, .string ⟨#[]⟩, .slice none 0 0] 28 (0, 0)) ∧
    wr.ownsRow (w.heap.size + 1) 5 1 v k ((lowL least k).map encU)) (fun _ i _ => 3 - (intOf i).toNat)
  case atStart => exact ⟨0, by omega, Nat.zero_le _, rfl, hb1, hz1, hm1, by simpa [lowL, World.size_alloc] using hown⟩
  case round =>
    clear hb1 hz1 hm1 hown
    obtain ⟨k, hk3, hkl, rfl, hB, hz, hM, hO⟩ := hrel
    have HM := Lib.hid hM
    have HO := Lib.hid hO
    clear hM
    by_cases hlt : k < least.length
    · by_cases h3 : k < 3
      · obtain ⟨g, off, rfl, hg, hat⟩ := HCA.out (by omega)
        have e1 : wr.cell? ⟨g, off + k, none⟩ = some (.int .u8 (least[k].toNat : Int)) := (hB.cell (p := ⟨g, off + k, none⟩) hg).trans (hat k hlt)
        have hsu := lowL_succ hlt
        obtain ⟨c, hc⟩ : ∃ c, c = least[k] := ⟨_, rfl⟩
        rw [← hc] at e1 hsu
        have hcb : c.toNat < 256 := c.toNat_lt
        have hmod : ((c.toNat : Int)).tmod 8 = ((c % 8).toNat : Int) := by rw [Int.tmod_eq_emod_of_nonneg (Int.natCast_nonneg _), UInt8.toNat_mod]; rfl
        have hmod2 : ((c.toNat : Int)) % 8 = ((c % 8).toNat : Int) := by rw [UInt8.toNat_mod]; rfl
        have hcb2 : (c % 8).toNat < 8 := by rw [UInt8.toNat_mod]; exact Nat.mod_lt _ (by decide)
        have HSU := Lib.hid hsu
        obtain ⟨d, hd⟩ : ∃ d, d = c % 8 := ⟨_, rfl⟩
        rw [← hd] at hmod hmod2 hcb2 HSU
        clear hat hc hsu hd
        rcases Joins.ownsRow_forms hO with ⟨rfl, hpn⟩ | ⟨g2, cap2, rfl⟩
        · have HPN := Lib.hid hpn
          clear hpn hO
          have HN1 := Lib.hid (cells_new wr [encU d] 5)
          go_wp2_with (at_builtin; refine wpList_append_lies _ rfl _ _ 23 rfl (w.heap.size + 1) 5 i0 (.int .u8 0) 1 1 Try.underlying23 HI.out.1 HI.out.2.1 HI.out.2.2.1 HI.out.2.2.2 rfl (by decide) _ k _ rfl (HO.out.alloc _) ⟨wr.heap.size, 0, none⟩ 1 1 [encU d] rfl rfl HN1.out (by simp [encU, Value.oneCell']) (by decide) (by unfold maxLen; omega) (by omega) (by simp; omega) _ rfl ?_; intro g9 cap9 w9 hown9 hgrow hat9 hlt9)
          go_roundw
          case rel =>
            have hbk : ∀ b, b < w.heap.size + 1 → w9.heap[b]? = wr.heap[b]? := fun b hb => (hgrow.block b (by rw [World.size_alloc]; omega) (fun e => by have := (HO.out.lt b e.symm).1; omega)).trans (Below.heap_alloc _ _ _ (by omega))
            refine ⟨k + 1, by omega, by omega, by go_num, (hB.alloc hB.size _).grown hgrow (by simp; omega) (fun r e => by have := (HO.out.lt r e).1; omega), ?_, (hbk _ (by omega)).trans HM.out, ?_⟩
            · have := hgrow.size
              rw [World.size_alloc] at this; omega
            · rw [HSU.out, List.map_append]
              exact hown9
          case measure => simp [intOf]; omega
        · clear hO
          have HN1 := Lib.hid (cells_new wr [encU d] 5)
          go_wp2_with (at_builtin; refine wpList_append_lies _ rfl _ _ 23 rfl (w.heap.size + 1) 5 i0 (.int .u8 0) 1 1 Try.underlying23 HI.out.1 HI.out.2.1 HI.out.2.2.1 HI.out.2.2.2 rfl (by decide) _ k _ rfl (HO.out.alloc _) ⟨wr.heap.size, 0, none⟩ 1 1 [encU d] rfl rfl HN1.out (by simp [encU, Value.oneCell']) (by decide) (by unfold maxLen; omega) (by omega) (by simp; omega) _ rfl ?_; intro g9 cap9 w9 hown9 hgrow hat9 hlt9)
          go_roundw
          case rel =>
            have hbk : ∀ b, b < w.heap.size + 1 → w9.heap[b]? = wr.heap[b]? := fun b hb => (hgrow.block b (by rw [World.size_alloc]; omega) (fun e => by have := (HO.out.lt b e.symm).1; omega)).trans (Below.heap_alloc _ _ _ (by omega))
            refine ⟨k + 1, by omega, by omega, by go_num, (hB.alloc hB.size _).grown hgrow (by simp; omega) (fun r e => by have := (HO.out.lt r e).1; omega), ?_, (hbk _ (by omega)).trans HM.out, ?_⟩
            · have := hgrow.size
              rw [World.size_alloc] at this; omega
            · rw [HSU.out, List.map_append]
              exact hown9
          case measure => simp [intOf]; omega
      · have hfin : lowL least k = lowL least 3 := by rw [show k = 3 by omega]
        rcases HFM.out with ⟨rfl, rfl, hl0⟩ | ⟨sb, so, sp, rfl, hcap⟩
        · obtain rfl : l = [] := List.length_eq_zero_iff.1 hl0
          obtain rfl : mm = 0 := Nat.le_zero.1 HMM.out.2
          have hmm0 : min (0 : Int) (most : Int) = 0 := by omega
          have hmm1 : min (([] : List UInt8).length : Int) (most : Int) = 0 := hmm0
          clear hmm hl0
          have HMD := Lib.hid (made_at HO.out hkl hfin hn0 hn1 (HRC.out.below2 hB) hcl HNL.out)
          have HCO := Lib.hid (codes_at (mm := 0) (cap := 0) (RdBytes.take (HRS.out.below2 hB) HMM.out.2) HMM.out.1 hm)
          have HML := Lib.hid (mail_at (l := []) HNC.out hm)
          have hSM : ∀ W, Below (w.heap.size + 1) wr W → W.cell? ⟨w.heap.size, 0, none⟩ = some (.int .u8 0) ∧ W.cell? ⟨w.heap.size, 1, none⟩ = some (.int .u8 0) ∧ W.cell? ⟨w.heap.size, 2, none⟩ = some (.string ⟨#[]⟩) ∧ W.cell? ⟨w.heap.size, 3, none⟩ = some (.slice none 0 0) ∧
              W.frozen? ⟨w.heap.size, 0, none⟩ = false ∧ W.frozen? ⟨w.heap.size, 1, none⟩ = false ∧ W.frozen? ⟨w.heap.size, 2, none⟩ = false ∧ W.frozen? ⟨w.heap.size, 3, none⟩ = false := fun W hW => by
            have h0 := (hW.block w.heap.size (Nat.lt_succ_self _)).trans HM.out
            exact ⟨cell_of_row _ _ 0 _ _ _ h0, cell_of_row _ _ 1 _ _ _ h0, cell_of_row _ _ 2 _ _ _ h0, cell_of_row _ _ 3 _ _ _ h0, by simp [World.frozen?, h0], by simp [World.frozen?, h0], by simp [World.frozen?, h0], by simp [World.frozen?, h0]⟩
          have HSM := Lib.hid hSM
          clear hSM hfin hO
          go_upto_region 6 with fail
          go_region_with (first
            | (go_at_call 25; refine (HMD.out _ (by first | exact (Below.refl _ wr).drew | exact bL | exact bC)).mono ?_; rintro e wM ⟨al, cl, rfl, hbM, hoM⟩; (have bM : Below wr.heap.size wr wM := by first | exact (Below.refl _ wr).drew.trans (hbM.mono (Nat.le_refl _)) | exact bL.trans (hbM.mono bL.size) | exact bC.trans (hbM.mono bC.size)); (try obtain ⟨z0, z1, z2, z3, y0, y1, y2, y3⟩ := HSM.out wM (bM.mono hz)))
            | (go_at_call 26; refine (HCO.out _ (by first | exact (Below.refl _ wr).drew | exact bM)).mono ?_; rintro e wC ⟨u, rfl, hbC, hrC⟩; (have bC : Below wr.heap.size wr wC := by first | exact (Below.refl _ wr).drew.trans (hbC.mono (Nat.le_refl _)) | exact bM.trans (hbC.mono bM.size)))
            | (go_at_call 23; refine (HML.out _ _ (by first | exact hrC | exact hrC.below hbM)).mono ?_; rintro e wL ⟨ap, cp, rfl, hbL, hoL⟩; (have bL : Below wr.heap.size wr wL := by first | exact bC.trans (hbL.mono bC.size) | exact bM.trans (hbL.mono bM.size)); obtain ⟨z0, z1, z2, z3, y0, y1, y2, y3⟩ := HSM.out wL (bL.mono hz)))
          all_goals
            go_wp2_with fail
            (try simp only [Exit.inBlock, Exit.then])
            refine bodyPost_ret (results_tmp_cell rfl _ _ w.heap.size _ rfl (run_loadVar_row _ _ _ _ _ _ _ (set4 ((bL.mono hz).block w.heap.size (Nat.lt_succ_self _) |>.trans HM.out)) Try.underlying28 rfl (by kernel_rfl))) rfl ?_
            first
              | exact ⟨al, cl, ap, cp, rfl, made_fin hB (bL.mono hz) HM.out ((hoM.below hbC).below hbL) hoL hz (.inr (Nat.le_trans hz bM.size)) (Nat.le_trans hz bC.size) _ _ _ _⟩
              | exact ⟨al, cl, ap, cp, rfl, made_fin hB (bL.mono hz) HM.out (hoM.below hbL) hoL hz (.inr (Nat.le_trans hz bC.size)) (Nat.le_trans hz bM.size) _ _ _ _⟩
              | exact ⟨al, cl, ap, cp, rfl, made_fin hB (bL.mono hz) HM.out ((hoM.below hbC).below hbL) hoL hz (.inr hz) (Nat.le_trans hz bC.size) _ _ _ _⟩
              | exact ⟨al, cl, ap, cp, rfl, made_fin hB (bL.mono hz) HM.out (hoM.below hbL) hoL hz (.inr hz) (Nat.le_trans hz bM.size) _ _ _ _⟩
        · have hmm2 : mm ≤ l.length := HMM.out.2
          have HMD := Lib.hid (made_at HO.out hkl hfin hn0 hn1 (HRC.out.below2 hB) hcl HNL.out)
          have HCO := Lib.hid (codes_at (mm := mm) (cap := cs_) (RdBytes.take (HRS.out.below2 hB) HMM.out.2) HMM.out.1 hm)
          have HML := Lib.hid (mail_at (l := l) HNC.out hm)
          have hSM : ∀ W, Below (w.heap.size + 1) wr W → W.cell? ⟨w.heap.size, 0, none⟩ = some (.int .u8 0) ∧ W.cell? ⟨w.heap.size, 1, none⟩ = some (.int .u8 0) ∧ W.cell? ⟨w.heap.size, 2, none⟩ = some (.string ⟨#[]⟩) ∧ W.cell? ⟨w.heap.size, 3, none⟩ = some (.slice none 0 0) ∧
              W.frozen? ⟨w.heap.size, 0, none⟩ = false ∧ W.frozen? ⟨w.heap.size, 1, none⟩ = false ∧ W.frozen? ⟨w.heap.size, 2, none⟩ = false ∧ W.frozen? ⟨w.heap.size, 3, none⟩ = false := fun W hW => by
            have h0 := (hW.block w.heap.size (Nat.lt_succ_self _)).trans HM.out
            exact ⟨cell_of_row _ _ 0 _ _ _ h0, cell_of_row _ _ 1 _ _ _ h0, cell_of_row _ _ 2 _ _ _ h0, cell_of_row _ _ 3 _ _ _ h0, by simp [World.frozen?, h0], by simp [World.frozen?, h0], by simp [World.frozen?, h0], by simp [World.frozen?, h0]⟩
          have HSM := Lib.hid hSM
          clear hSM hfin hO
          go_upto_region 6 with fail
          go_region_with (first
            | (go_at_call 25; refine (HMD.out _ (by first | exact (Below.refl _ wr).drew | exact bL | exact bC)).mono ?_; rintro e wM ⟨al, cl, rfl, hbM, hoM⟩; (have bM : Below wr.heap.size wr wM := by first | exact (Below.refl _ wr).drew.trans (hbM.mono (Nat.le_refl _)) | exact bL.trans (hbM.mono bL.size) | exact bC.trans (hbM.mono bC.size)); (try obtain ⟨z0, z1, z2, z3, y0, y1, y2, y3⟩ := HSM.out wM (bM.mono hz)))
            | (go_at_call 26; refine (HCO.out _ (by first | exact (Below.refl _ wr).drew | exact bM)).mono ?_; rintro e wC ⟨u, rfl, hbC, hrC⟩; (have bC : Below wr.heap.size wr wC := by first | exact (Below.refl _ wr).drew.trans (hbC.mono (Nat.le_refl _)) | exact bM.trans (hbC.mono bM.size)))
            | (go_at_call 23; refine (HML.out _ _ (by first | exact hrC | exact hrC.below hbM)).mono ?_; rintro e wL ⟨ap, cp, rfl, hbL, hoL⟩; (have bL : Below wr.heap.size wr wL := by first | exact bC.trans (hbL.mono bC.size) | exact bM.trans (hbL.mono bM.size)); obtain ⟨z0, z1, z2, z3, y0, y1, y2, y3⟩ := HSM.out wL (bL.mono hz)))
          all_goals
            go_wp2_with fail
            (try simp only [Exit.inBlock, Exit.then])
            refine bodyPost_ret (results_tmp_cell rfl _ _ w.heap.size _ rfl (run_loadVar_row _ _ _ _ _ _ _ (set4 ((bL.mono hz).block w.heap.size (Nat.lt_succ_self _) |>.trans HM.out)) Try.underlying28 rfl (by kernel_rfl))) rfl ?_
            first
              | exact ⟨al, cl, ap, cp, rfl, made_fin hB (bL.mono hz) HM.out ((hoM.below hbC).below hbL) hoL hz (.inr (Nat.le_trans hz bM.size)) (Nat.le_trans hz bC.size) _ _ _ _⟩
              | exact ⟨al, cl, ap, cp, rfl, made_fin hB (bL.mono hz) HM.out (hoM.below hbL) hoL hz (.inr (Nat.le_trans hz bC.size)) (Nat.le_trans hz bM.size) _ _ _ _⟩
              | exact ⟨al, cl, ap, cp, rfl, made_fin hB (bL.mono hz) HM.out ((hoM.below hbC).below hbL) hoL hz (.inr hz) (Nat.le_trans hz bC.size) _ _ _ _⟩
              | exact ⟨al, cl, ap, cp, rfl, made_fin hB (bL.mono hz) HM.out (hoM.below hbL) hoL hz (.inr hz) (Nat.le_trans hz bM.size) _ _ _ _⟩
    · have hfin : lowL least k = lowL least 3 := by
        unfold lowL
        rw [List.take_of_length_le (by omega), List.take_of_length_le (by omega)]
      rcases HFM.out with ⟨rfl, rfl, hl0⟩ | ⟨sb, so, sp, rfl, hcap⟩
      · obtain rfl : l = [] := List.length_eq_zero_iff.1 hl0
        obtain rfl : mm = 0 := Nat.le_zero.1 HMM.out.2
        have hmm0 : min (0 : Int) (most : Int) = 0 := by omega
        have hmm1 : min (([] : List UInt8).length : Int) (most : Int) = 0 := hmm0
        clear hmm hl0
        have HMD := Lib.hid (made_at HO.out hkl hfin hn0 hn1 (HRC.out.below2 hB) hcl HNL.out)
        have HCO := Lib.hid (codes_at (mm := 0) (cap := 0) (RdBytes.take (HRS.out.below2 hB) HMM.out.2) HMM.out.1 hm)
        have HML := Lib.hid (mail_at (l := []) HNC.out hm)
        have hSM : ∀ W, Below (w.heap.size + 1) wr W → W.cell? ⟨w.heap.size, 0, none⟩ = some (.int .u8 0) ∧ W.cell? ⟨w.heap.size, 1, none⟩ = some (.int .u8 0) ∧ W.cell? ⟨w.heap.size, 2, none⟩ = some (.string ⟨#[]⟩) ∧ W.cell? ⟨w.heap.size, 3, none⟩ = some (.slice none 0 0) ∧
            W.frozen? ⟨w.heap.size, 0, none⟩ = false ∧ W.frozen? ⟨w.heap.size, 1, none⟩ = false ∧ W.frozen? ⟨w.heap.size, 2, none⟩ = false ∧ W.frozen? ⟨w.heap.size, 3, none⟩ = false := fun W hW => by
          have h0 := (hW.block w.heap.size (Nat.lt_succ_self _)).trans HM.out
          exact ⟨cell_of_row _ _ 0 _ _ _ h0, cell_of_row _ _ 1 _ _ _ h0, cell_of_row _ _ 2 _ _ _ h0, cell_of_row _ _ 3 _ _ _ h0, by simp [World.frozen?, h0], by simp [World.frozen?, h0], by simp [World.frozen?, h0], by simp [World.frozen?, h0]⟩
        have HSM := Lib.hid hSM
        clear hSM hfin hO
        go_upto_region 6 with fail
        go_region_with (first
          | (go_at_call 25; refine (HMD.out _ (by first | exact (Below.refl _ wr).drew | exact bL | exact bC)).mono ?_; rintro e wM ⟨al, cl, rfl, hbM, hoM⟩; (have bM : Below wr.heap.size wr wM := by first | exact (Below.refl _ wr).drew.trans (hbM.mono (Nat.le_refl _)) | exact bL.trans (hbM.mono bL.size) | exact bC.trans (hbM.mono bC.size)); (try obtain ⟨z0, z1, z2, z3, y0, y1, y2, y3⟩ := HSM.out wM (bM.mono hz)))
          | (go_at_call 26; refine (HCO.out _ (by first | exact (Below.refl _ wr).drew | exact bM)).mono ?_; rintro e wC ⟨u, rfl, hbC, hrC⟩; (have bC : Below wr.heap.size wr wC := by first | exact (Below.refl _ wr).drew.trans (hbC.mono (Nat.le_refl _)) | exact bM.trans (hbC.mono bM.size)))
          | (go_at_call 23; refine (HML.out _ _ (by first | exact hrC | exact hrC.below hbM)).mono ?_; rintro e wL ⟨ap, cp, rfl, hbL, hoL⟩; (have bL : Below wr.heap.size wr wL := by first | exact bC.trans (hbL.mono bC.size) | exact bM.trans (hbL.mono bM.size)); obtain ⟨z0, z1, z2, z3, y0, y1, y2, y3⟩ := HSM.out wL (bL.mono hz)))
        all_goals
          go_wp2_with fail
          (try simp only [Exit.inBlock, Exit.then])
          refine bodyPost_ret (results_tmp_cell rfl _ _ w.heap.size _ rfl (run_loadVar_row _ _ _ _ _ _ _ (set4 ((bL.mono hz).block w.heap.size (Nat.lt_succ_self _) |>.trans HM.out)) Try.underlying28 rfl (by kernel_rfl))) rfl ?_
          first
            | exact ⟨al, cl, ap, cp, rfl, made_fin hB (bL.mono hz) HM.out ((hoM.below hbC).below hbL) hoL hz (.inr (Nat.le_trans hz bM.size)) (Nat.le_trans hz bC.size) _ _ _ _⟩
            | exact ⟨al, cl, ap, cp, rfl, made_fin hB (bL.mono hz) HM.out (hoM.below hbL) hoL hz (.inr (Nat.le_trans hz bC.size)) (Nat.le_trans hz bM.size) _ _ _ _⟩
            | exact ⟨al, cl, ap, cp, rfl, made_fin hB (bL.mono hz) HM.out ((hoM.below hbC).below hbL) hoL hz (.inr hz) (Nat.le_trans hz bC.size) _ _ _ _⟩
            | exact ⟨al, cl, ap, cp, rfl, made_fin hB (bL.mono hz) HM.out (hoM.below hbL) hoL hz (.inr hz) (Nat.le_trans hz bM.size) _ _ _ _⟩
      · have hmm2 : mm ≤ l.length := HMM.out.2
        have HMD := Lib.hid (made_at HO.out hkl hfin hn0 hn1 (HRC.out.below2 hB) hcl HNL.out)
        have HCO := Lib.hid (codes_at (mm := mm) (cap := cs_) (RdBytes.take (HRS.out.below2 hB) HMM.out.2) HMM.out.1 hm)
        have HML := Lib.hid (mail_at (l := l) HNC.out hm)
        have hSM : ∀ W, Below (w.heap.size + 1) wr W → W.cell? ⟨w.heap.size, 0, none⟩ = some (.int .u8 0) ∧ W.cell? ⟨w.heap.size, 1, none⟩ = some (.int .u8 0) ∧ W.cell? ⟨w.heap.size, 2, none⟩ = some (.string ⟨#[]⟩) ∧ W.cell? ⟨w.heap.size, 3, none⟩ = some (.slice none 0 0) ∧
            W.frozen? ⟨w.heap.size, 0, none⟩ = false ∧ W.frozen? ⟨w.heap.size, 1, none⟩ = false ∧ W.frozen? ⟨w.heap.size, 2, none⟩ = false ∧ W.frozen? ⟨w.heap.size, 3, none⟩ = false := fun W hW => by
          have h0 := (hW.block w.heap.size (Nat.lt_succ_self _)).trans HM.out
          exact ⟨cell_of_row _ _ 0 _ _ _ h0, cell_of_row _ _ 1 _ _ _ h0, cell_of_row _ _ 2 _ _ _ h0, cell_of_row _ _ 3 _ _ _ h0, by simp [World.frozen?, h0], by simp [World.frozen?, h0], by simp [World.frozen?, h0], by simp [World.frozen?, h0]⟩
        have HSM := Lib.hid hSM
        clear hSM hfin hO
        go_upto_region 6 with fail
        go_region_with (first
          | (go_at_call 25; refine (HMD.out _ (by first | exact (Below.refl _ wr).drew | exact bL | exact bC)).mono ?_; rintro e wM ⟨al, cl, rfl, hbM, hoM⟩; (have bM : Below wr.heap.size wr wM := by first | exact (Below.refl _ wr).drew.trans (hbM.mono (Nat.le_refl _)) | exact bL.trans (hbM.mono bL.size) | exact bC.trans (hbM.mono bC.size)); (try obtain ⟨z0, z1, z2, z3, y0, y1, y2, y3⟩ := HSM.out wM (bM.mono hz)))
          | (go_at_call 26; refine (HCO.out _ (by first | exact (Below.refl _ wr).drew | exact bM)).mono ?_; rintro e wC ⟨u, rfl, hbC, hrC⟩; (have bC : Below wr.heap.size wr wC := by first | exact (Below.refl _ wr).drew.trans (hbC.mono (Nat.le_refl _)) | exact bM.trans (hbC.mono bM.size)))
          | (go_at_call 23; refine (HML.out _ _ (by first | exact hrC | exact hrC.below hbM)).mono ?_; rintro e wL ⟨ap, cp, rfl, hbL, hoL⟩; (have bL : Below wr.heap.size wr wL := by first | exact bC.trans (hbL.mono bC.size) | exact bM.trans (hbL.mono bM.size)); obtain ⟨z0, z1, z2, z3, y0, y1, y2, y3⟩ := HSM.out wL (bL.mono hz)))
        all_goals
          go_wp2_with fail
          (try simp only [Exit.inBlock, Exit.then])
          refine bodyPost_ret (results_tmp_cell rfl _ _ w.heap.size _ rfl (run_loadVar_row _ _ _ _ _ _ _ (set4 ((bL.mono hz).block w.heap.size (Nat.lt_succ_self _) |>.trans HM.out)) Try.underlying28 rfl (by kernel_rfl))) rfl ?_
          first
            | exact ⟨al, cl, ap, cp, rfl, made_fin hB (bL.mono hz) HM.out ((hoM.below hbC).below hbL) hoL hz (.inr (Nat.le_trans hz bM.size)) (Nat.le_trans hz bC.size) _ _ _ _⟩
            | exact ⟨al, cl, ap, cp, rfl, made_fin hB (bL.mono hz) HM.out (hoM.below hbL) hoL hz (.inr (Nat.le_trans hz bC.size)) (Nat.le_trans hz bM.size) _ _ _ _⟩
            | exact ⟨al, cl, ap, cp, rfl, made_fin hB (bL.mono hz) HM.out ((hoM.below hbC).below hbL) hoL hz (.inr hz) (Nat.le_trans hz bC.size) _ _ _ _⟩
            | exact ⟨al, cl, ap, cp, rfl, made_fin hB (bL.mono hz) HM.out (hoM.below hbL) hoL hz (.inr hz) (Nat.le_trans hz bM.size) _ _ _ _⟩
end Go.Proofs.Ytpieagaggjngjaa
