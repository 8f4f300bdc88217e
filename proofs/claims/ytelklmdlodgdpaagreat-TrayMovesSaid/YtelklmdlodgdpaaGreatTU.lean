/-
  letterbaglaw24.Mail.
-/
import Derived.Test.YtelklmdlodgdpaaGreatWT
import Derived.Test.YtelklmdlodgdpaaGreatGX
import Derived.Test.YtelklmdlodgdpaaGreatTB
import Derived.Deep.AppendLies
import Derived.Deep.RegionLaw
namespace Go.Proofs.YtelklmdlodgdpaaGreat
open Go.RowKit Go.Sort
set_option linter.unusedVariables false
set_option maxRecDepth 100000
/-- A slice reads as numbers of 16 bits. -/
def RdU16 (w : World) (v : Value) (l : List UInt16) : Prop :=
  ∃ a cap, v = .slice a l.length cap ∧ (0 < l.length → ∃ g off, a = some ⟨g, off, none⟩ ∧ g < w.heap.size ∧ ∀ i (h : i < l.length), w.cell? ⟨g, off + i, none⟩ = some (.int .u16 (l[i].toNat : Int)))
theorem RdU16.below {w w' : World} {v : Value} {zs : List UInt16} (h : RdU16 w v zs) (hb : Below w.heap.size w w') : RdU16 w' v zs := by
  obtain ⟨a, cap, hv, hc⟩ := h
  exact ⟨a, cap, hv, fun h0 => by
    obtain ⟨g, off, ha, hg, hcc⟩ := hc h0
    exact ⟨g, off, ha, Nat.lt_of_lt_of_le hg hb.size, fun i h => (hb.cell (p := ⟨g, off + i, none⟩) hg).trans (hcc i h)⟩⟩
def RdU16C (w : World) (v : Value) (l : List UInt16) : Prop := RdU16 w v l ∧ (v = .slice none 0 0 ∨ ∃ b off spot cap, v = .slice (some ⟨b, off, spot⟩) l.length cap ∧ l.length ≤ cap)
theorem RdU16.take {w : World} {a : Option Addr} {n cap : Nat} {bs : List UInt16} (h : RdU16 w (.slice a n cap) bs) {k cap' : Nat} (hk : k ≤ bs.length) : RdU16 w (.slice a k cap') (bs.take k) := by
  obtain ⟨a', c', hv, hc⟩ := h
  injection hv with h1 h2 h3
  subst h1
  refine ⟨a, cap', by rw [List.length_take, Nat.min_eq_left hk], fun h0 => ?_⟩
  rw [List.length_take] at h0
  obtain ⟨g, off, ha, hg, hcc⟩ := hc (by omega)
  exact ⟨g, off, ha, hg, fun i hi => by rw [List.length_take] at hi; rw [hcc i (by omega), List.getElem_take]⟩
theorem and_one_i64 (a : Nat) (ha : a < 65536) : bits .and .i64 (a : Int) 1 = ((a % 2 : Nat) : Int) := by
  have h1 : (BitVec.ofInt 64 (a : Int)).toNat = a := by
    rw [BitVec.ofInt_natCast, BitVec.toNat_ofNat]; exact Nat.mod_eq_of_lt (by omega)
  have h2 : (BitVec.ofInt 64 (1 : Int)).toNat = 1 := by decide
  show IntKind.i64.wrap ((BitVec.ofInt 64 (a : Int) &&& BitVec.ofInt 64 1).toNat : Int) = _
  rw [BitVec.toNat_and, h1, h2, Nat.and_one_is_mod]
  have := Nat.mod_lt a (show 0 < 2 by decide)
  simp [IntKind.wrap, IntKind.bits, IntKind.signed]; omega
theorem codes_one (x : UInt8) {wr : World} (W : World) (hb : Below wr.heap.size wr W) (hc : W.heap[wr.heap.size]? = some (.cells #[.int .u8 (x.toNat : Int)] 5 (0, 0))) :
    Calls Tryz.prog 47 #[.slice (some ⟨wr.heap.size, 0, none⟩) 1 1] W fun e w' => ∃ g cap, e = .returned (.slice (some ⟨g, 0, none⟩) 1 cap) ∧ Below wr.heap.size wr w' ∧ w'.cell? ⟨g, 0, none⟩ = some (.string (code5 x)) := by
  have hz := (Array.getElem?_eq_some_iff.1 hc).1
  refine (codes_any [x] _ _ ⟨some ⟨wr.heap.size, 0, none⟩, 1, rfl, fun _ => ⟨_, 0, rfl, by omega, fun i hi => ?_⟩⟩ (by simp [maxLen])).mono ?_
  · obtain rfl : i = 0 := by simp at hi; exact hi
    exact cell_of_row _ _ 0 _ _ _ hc
  · rintro e w' ⟨v, rfl, hb2, ho⟩
    have ho' : w'.ownsRow _ 9 1 v 1 [.string (code5 x)] := ho
    rcases Joins.ownsRow_forms ho' with ⟨rfl, hp⟩ | ⟨g, cap, rfl⟩
    · exact absurd hp (by decide)
    · exact ⟨g, cap, rfl, hb.trans (hb2.mono hb.size), by rw [ho'.cellAt 0 (by decide)]; rfl⟩
set_option maxHeartbeats 16000000 in
theorem mail24_any (l : List UInt16) (vl : Value) (w : World) (hr : RdU16 w vl l) (hl : l.length ≤ 2000) :
    Calls Tryz.prog 20 #[.int .u8 0, vl] w fun e w' => ∃ ap cp, e = .returned (maiV (mail24 l) (.slice ap l.length cp)) ∧ Below w.heap.size w w' ∧ OwnsP w' w.heap.size (.slice ap l.length cp) (mail24 l).ps := by
  obtain ⟨a, cap, rfl, hcc⟩ := hr
  have HCC := Lib.hid hcc
  obtain ⟨i0, hi⟩ := info_parts Tryz.infoPc
  have HI := Lib.hid hi
  clear hcc hi
  go_enter Tryz.func20, Tryz.ntmps20
  go_wp2_with fail
  go_loopw [6, 7] (fun z i wr => ∃ (k : Nat) (v : Value), k ≤ l.length ∧ z = .int .i64 (id24 (l.take k)) ∧ i = .int .i64 k ∧ Below w.heap.size w wr ∧ w.heap.size + 2 ≤ wr.heap.size ∧ wr.heap[w.heap.size]? = some (.cells #[.int .u8 0, .int .u8 0, .string ⟨#[]⟩, .slice none 0 0] 29 (0, 0)) ∧
    wr.heap[w.heap.size + 1]? = some (.cells #[.int .u8 1, .int .u8 1, .string ⟨#[49, 48, 48, 50, 51]⟩, v] 29 (0, 0)) ∧ wr.ownsRow (w.heap.size + 2) 45 5 v k ((ps24 l k).flatMap pceC)) (fun _ i _ => l.length - (intOf i).toNat)
  case atStart =>
    have hz : (w.alloc (.cells #[.int .u8 0, .int .u8 0, .string ⟨#[]⟩, .slice none 0 0] 29)).heap.size = w.heap.size + 1 := World.size_alloc _ _
    refine ⟨0, .slice none 0 0, Nat.zero_le _, rfl, rfl, ((Below.refl _ w).alloc (Nat.le_refl _) _).alloc (by simp) _, by simp, (Below.heap_alloc _ _ _ (by omega)).trans (alloc_new w _), ?_, World.ownsRow_nil _ _ _ _⟩
    have := alloc_new (w.alloc (.cells #[.int .u8 0, .int .u8 0, .string ⟨#[]⟩, .slice none 0 0] 29)) (.cells #[.int .u8 1, .int .u8 1, .string ⟨#[49, 48, 48, 50, 51]⟩, .slice none 0 0] 29)
    rw [hz] at this
    exact this
  case round =>
    obtain ⟨k, v, hk, rfl, rfl, hB, hz, h0, h1, hO⟩ := hrel
    have H0 := Lib.hid h0
    have H1 := Lib.hid h1
    by_cases hlt : k < l.length
    · obtain ⟨g, off, rfl, hg, hat⟩ := HCC.out (by omega)
      have e1 : wr.cell? ⟨g, off + k, none⟩ = some (.int .u16 (l[k].toNat : Int)) := (hB.cell (p := ⟨g, off + k, none⟩) hg).trans (hat k hlt)
      have hsu := ps24_succ l hlt
      have hid : id24 (l.take (k + 1)) = id24 (l.take k) + (1 + ((l[k].toNat % 3 : Nat) : Int)) := by rw [List.take_succ_eq_append_getElem hlt, id24_snoc]
      have hbd := id24_bound (l.take k)
      rw [List.length_take, Nat.min_eq_left hk] at hbd
      obtain ⟨x, hx⟩ : ∃ x, x = l[k] := ⟨_, rfl⟩
      rw [← hx] at e1 hsu hid
      have hxb : x.toNat < 65536 := x.toNat_lt
      have h3 : ((x.toNat : Int)).tmod 3 = ((x.toNat % 3 : Nat) : Int) := by rw [Int.tmod_eq_emod_of_nonneg (Int.natCast_nonneg _)]; rfl
      have h3b : x.toNat % 3 < 3 := Nat.mod_lt _ (by decide)
      have h8 : (x.toNat : Int) / 256 = ((UInt8.ofNat (x.toNat / 256)).toNat : Int) := by rw [UInt8.toNat_ofNat']; omega
      have h8b : (UInt8.ofNat (x.toNat / 256)).toNat < 256 := UInt8.toNat_lt _
      have h20 : ((x.toNat : Int) / 4).tmod 20 = ((x.toNat / 4 % 20 : Nat) : Int) := by rw [Int.tmod_eq_emod_of_nonneg (by omega)]; rfl
      have h20b : x.toNat / 4 % 20 < 20 := Nat.mod_lt _ (by decide)
      have hand := and_one_i64 x.toNat hxb
      have hdec : (0 < x.toNat % 2) ↔ x.toNat % 2 = 1 := by omega
      obtain ⟨P, hP⟩ : ∃ P, P = p24 (id24 (l.take k) + (1 + ((x.toNat % 3 : Nat) : Int))) x := ⟨_, rfl⟩
      rw [← hP] at hsu
      have hcds := fun W => codes_one (UInt8.ofNat (x.toNat / 256)) (wr := wr) W
      obtain ⟨cc, hcc⟩ : ∃ c, c = code5 (UInt8.ofNat (x.toNat / 256)) := ⟨_, rfl⟩
      rw [← hcc] at hcds
      have hPe : pceC P = [.int .i64 (id24 (l.take k) + (1 + ((x.toNat % 3 : Nat) : Int))), .int .i64 0, .string cc, .int .i64 (1 + ((x.toNat / 4 % 20 : Nat) : Int)), .bool (decide (x.toNat % 2 = 1))] := by rw [hP, hcc]; rfl
      obtain ⟨m3, hm3⟩ : ∃ z, z = x.toNat % 3 := ⟨_, rfl⟩
      obtain ⟨m8, hm8⟩ : ∃ z, z = (UInt8.ofNat (x.toNat / 256)).toNat := ⟨_, rfl⟩
      obtain ⟨m20, hm20⟩ : ∃ z, z = x.toNat / 4 % 20 := ⟨_, rfl⟩
      obtain ⟨m2, hm2⟩ : ∃ z, z = x.toNat % 2 := ⟨_, rfl⟩
      rw [← hm3] at hid h3 h3b hPe
      rw [← hm8] at h8 h8b hcds
      rw [← hm20] at h20 h20b hPe
      rw [← hm2] at hand hdec hPe
      have hm2b : m2 < 2 := by omega
      have hw8 : IntKind.u8.wrap (m8 : Int) = (m8 : Int) := by simp [IntKind.wrap, IntKind.bits, IntKind.signed]; omega
      have hdb : decide (0 < m2) = decide (m2 = 1) := by
        by_cases h : m2 = 1
        · rw [h]; rfl
        · rw [show m2 = 0 by omega]; rfl
      have hw20 : IntKind.i64.wrap (1 + (m20 : Int)) = 1 + (m20 : Int) := by simp [IntKind.wrap, IntKind.bits, IntKind.signed]; omega
      obtain ⟨bb, hbb⟩ : ∃ b, b = decide (m2 = 1) := ⟨_, rfl⟩
      rw [← hbb] at hdb hPe
      obtain ⟨X, hX⟩ : ∃ X, X = x.toNat := ⟨_, rfl⟩
      rw [← hX] at h3 h8 h20 hand e1 hxb
      have HCO := Lib.hid hcds
      have HSU := Lib.hid hsu
      have HID := Lib.hid hid
      have HO := Lib.hid hO
      have HPE := Lib.hid hPe
      clear hat hsu hid hO hm3 hm8 hm20 hm2 hbb hcc hP hdec hX hx hcds h0 h1 hPe
      have hbv : ∀ W, Below wr.heap.size wr W → W.cell? ⟨w.heap.size + 1, 3, none⟩ = some v ∧ W.frozen? ⟨w.heap.size + 1, 3, none⟩ = false := fun W hW => by
        have h1 := (hW.block (w.heap.size + 1) (by omega)).trans H1.out
        exact ⟨cell_of_row _ _ 3 _ _ _ h1, by simp [World.frozen?, h1]⟩
      have HBV := Lib.hid hbv
      obtain ⟨b3, f3⟩ := hbv wr (Below.refl _ _)
      obtain ⟨va, vc, rfl⟩ := own_form HO.out
      have HLO : Hid (∀ b, (Value.slice va k vc).ownBlock = some b → w.heap.size + 2 ≤ b) := fun b hb => (HO.out.lt b hb).1
      have HST : Hid (∀ w9 : World, (∀ b, b < w.heap.size + 2 → w9.heap[b]? = wr.heap[b]?) → w9.cell? ⟨w.heap.size + 1, 3, none⟩ = some (.slice va k vc) ∧ w9.frozen? ⟨w.heap.size + 1, 3, none⟩ = false) := fun w9 h9 => by
        have h1 := (h9 (w.heap.size + 1) (by omega)).trans H1.out
        exact ⟨cell_of_row _ _ 3 _ _ _ h1, by simp [World.frozen?, h1]⟩
      have hX3 : (wr.alloc (.cells #[.int .u8 (m8 : Int)] 5)).cell? ⟨w.heap.size + 1, 3, none⟩ = some (.slice va k vc) := (HBV.out _ ((Below.refl _ wr).alloc (Nat.le_refl _) _)).1
      clear hbv
      go_wp2_with fail
      go_region_law (first | (refine step_append_lies _ (by rfl) _ _ _ (by rfl) (w.heap.size + 2) 45 i0 (.agg #[.int .i64 0, .int .i64 0, .string ⟨#[]⟩, .int .i64 0, .bool false]) 5 48 Tryz.underlying27 HI.out.1 HI.out.2.1 HI.out.2.2.1 HI.out.2.2.2 rfl (by decide) (.slice va k vc) k _ (by rfl) (by first | exact ((row_belowT HO.out hbC).alloc _).drew | exact (row_belowT HO.out hbC).drew.alloc _) ⟨wC.heap.size, 0, none⟩ 1 1 (pceC P) (by rfl) (by rfl) (by rw [HPE.out]; exact cells_new wC _ _) (by rw [HPE.out]; simp [Value.oneCell']) (by omega) (by unfold maxLen; omega) (by omega) (by have := hbC.size; show _ ≤ (wC.alloc _).heap.size; rw [World.size_alloc]; omega) _ rfl ?_; intro g9 cap9 w9 hown9 hgrow hat9 hlt9; have HB9 : Hid (∀ b, b < w.heap.size + 2 → w9.heap[b]? = wr.heap[b]?) := (fun b hb => (hgrow.block b (by have := hbC.size; show b < (wC.alloc _).heap.size; rw [World.size_alloc]; omega) (fun e => by have := HLO.out b e.symm; omega)).trans ((show (wC.alloc _).heap[b]? = _ from Below.heap_alloc _ _ _ (by have := hbC.size; omega)).trans (hbC.block b (by omega)))); obtain ⟨e9, f9⟩ := HST.out w9 HB9.out) | (go_simp; go_at_call 47; refine (HCO.out _ (by first | exact ((Below.refl _ wr).alloc (Nat.le_refl _) _).drew | exact (Below.refl _ wr).drew.alloc (Nat.le_refl _) _) (by exact alloc_new wr _)).mono ?_; rintro e wC ⟨gC, cC, rfl, hbC, hcC⟩; obtain ⟨bC3, fC3⟩ := HBV.out wC hbC; have hXC : (wC.alloc (.cells #[.int .i64 (id24 (l.take k) + (1 + (m3 : Int))), .int .i64 0, .string cc, .int .i64 (1 + (m20 : Int)), .bool bb] 45)).cell? ⟨w.heap.size + 1, 3, none⟩ = some (.slice va k vc) := (HBV.out _ (hbC.alloc hbC.size _)).1))
      all_goals
        go_wp2_with fail
        go_roundw
        case rel =>
          have h9 : w9.heap[w.heap.size + 1]? = _ := (HB9.out _ (by omega)).trans H1.out
          refine ⟨k + 1, .slice (some ⟨g9, 0, none⟩) (k + 1) cap9, by omega, by rw [HID.out], by go_num, ?_, ?_, ?_, ?_, ?_⟩
          · have hbz : Below w.heap.size w (wC.alloc (.cells #[.int .i64 (id24 (l.take k) + (1 + (m3 : Int))), .int .i64 0, .string cc, .int .i64 (1 + (m20 : Int)), .bool bb] 45)) := (hB.trans (hbC.mono hB.size)).alloc (Nat.le_trans hB.size hbC.size) _
            exact (hbz.grown hgrow hbz.size (fun r e => by have := HLO.out r e; omega)).setCell (p := ⟨w.heap.size + 1, 3, none⟩) (Nat.le_succ _) _
          · have h1 := hgrow.size
            have h2 := hbC.size
            rw [World.size_alloc] at h1
            simp [World.setCell]; omega
          · exact (Below.heap_setCell _ _ _ _ (by show w.heap.size ≠ w.heap.size + 1; omega)).trans ((HB9.out _ (by omega)).trans H0.out)
          · show (w9.heap.modify (w.heap.size + 1) _)[w.heap.size + 1]? = _
            rw [Array.getElem?_modify, if_pos rfl, h9]
            rfl
          · rw [HSU.out, List.flatMap_append, List.flatMap_cons, List.flatMap_nil, List.append_nil]
            exact hown9.kept (gb_setCell _ _ _) (.inr (by show some g9 ≠ some (w.heap.size + 1); have := (hown9.lt g9 rfl).1; intro e; injection e; omega))
        case measure => simp [intOf]; omega
    · obtain rfl : k = l.length := by omega
      have z0 := cell_of_row wr w.heap.size 0 _ _ _ h0
      have z1 := cell_of_row wr w.heap.size 1 _ _ _ h0
      have z2 := cell_of_row wr w.heap.size 2 _ _ _ h0
      have z3 := cell_of_row wr w.heap.size 3 _ _ _ h0
      have b0 := cell_of_row wr (w.heap.size + 1) 0 _ _ _ h1
      have b1 := cell_of_row wr (w.heap.size + 1) 1 _ _ _ h1
      have b2 := cell_of_row wr (w.heap.size + 1) 2 _ _ _ h1
      have b3 := cell_of_row wr (w.heap.size + 1) 3 _ _ _ h1
      simp only [List.getElem?_toArray, List.getElem?_cons_zero, List.getElem?_cons_succ] at z0 z1 z2 z3 b0 b1 b2 b3
      have y : ∀ j, wr.frozen? ⟨w.heap.size, j, none⟩ = false := fun j => by simp [World.frozen?, h0]
      have y0 := y 0
      have y1 := y 1
      have y2 := y 2
      have y3 := y 3
      have HO := Lib.hid hO
      have HH0 := Lib.hid h0
      obtain ⟨va, vc, rfl⟩ := own_form HO.out
      clear y h0 h1 hO
      go_wp2_with fail
      refine bodyPost_ret (results_cell_row rfl _ _ w.heap.size 29 _ (0, 0) _ rfl (set4 HH0.out) Tryz.underlying29 rfl (by kernel_rfl)) rfl ?_
      refine ⟨va, vc, rfl, (((hB.setCell (p := ⟨w.heap.size, 0, none⟩) (Nat.le_refl _) _).setCell (p := ⟨w.heap.size, 1, none⟩) (Nat.le_refl _) _).setCell (p := ⟨w.heap.size, 2, none⟩) (Nat.le_refl _) _).setCell (p := ⟨w.heap.size, 3, none⟩) (Nat.le_refl _) _, ?_⟩
      have ho : OwnsP wr (w.heap.size + 2) (.slice va l.length vc) (mail24 l).ps := by
        unfold OwnsP mail24
        dsimp only
        rw [ps24_len]
        exact HO.out
      exact OwnsP.mono (own_set4 ho (by omega) _ _ _ _) (Nat.le_add_right _ _)
end Go.Proofs.YtelklmdlodgdpaaGreat
