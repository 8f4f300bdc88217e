/-
  What letterbaglaw26.Made wants (printed by TV.py).
-/
import Derived.Test.YtelklmdlodgdpaaGreatTU
import Derived.Test.YtelklmdlodgdpaaGreatTS
import Derived.Test.YtelklmdlodgdpaaGreatT11
import Derived.BigRegion
import Derived.Deep.RegionWith
import Derived.Deep.DeepCutAuto
namespace Go.Proofs.YtelklmdlodgdpaaGreat
open Go.RowKit Go.Sort
set_option linter.unusedVariables false
set_option maxRecDepth 100000
theorem Tryz.infoU8 : (Tryz.prog.info? 5).map (fun i => (i.zero, i.size, i.bytes)) = some (some (.int .u8 0), 1, 1) := by kernel_rfl
def lowL (least : List UInt8) (k : Nat) : List UInt8 := (least.take k).map (· % 8)
theorem lowL_succ {least : List UInt8} {k : Nat} (h : k < least.length) : lowL least (k + 1) = lowL least k ++ [least[k] % 8] := by
  unfold lowL; rw [List.take_succ_eq_append_getElem h, List.map_append]; rfl
def encU (c : UInt8) : Value := .int .u8 (c.toNat : Int)
theorem lowL_len (least : List UInt8) (k : Nat) : (lowL least k).length ≤ k := by unfold lowL; rw [List.length_map, List.length_take]; omega
theorem RdBytes.of_row {w : World} {base : Nat} {v : Value} {bs : List UInt8} (h : w.ownsRow base 5 1 v bs.length (bs.map encU)) : RdBytes w v bs := by
  rcases Joins.ownsRow_forms h with ⟨rfl, hp⟩ | ⟨g, cap, rfl⟩
  · obtain rfl : bs = [] := List.length_eq_zero_iff.1 hp
    exact ⟨none, 0, rfl, fun h => absurd h (by simp)⟩
  · exact ⟨_, cap, rfl, fun _ => ⟨g, 0, rfl, (h.lt g rfl).2, fun i hi => by rw [Nat.zero_add, h.cellAt i (by omega), List.getElem?_map, List.getElem?_eq_getElem hi]; rfl⟩⟩
theorem RdBytes.below2 {w w' : World} {v : Value} {zs : List UInt8} (h : RdBytes w v zs) (hb : Below w.heap.size w w') : RdBytes w' v zs := h.below hb
theorem row_mono {w : World} {base base' : Nat} {e : TypeId} {size : Nat} {v : Value} {n : Nat} {xs : List Value} (h : w.ownsRow base e size v n xs) (hb : base' ≤ base) : w.ownsRow base' e size v n xs := by
  obtain ⟨h1, h2 | ⟨g, cap, cur, hv, h3, h4⟩⟩ := h
  · exact ⟨h1, .inl h2⟩
  · exact ⟨h1, .inr ⟨g, cap, cur, hv, Nat.le_trans hb h3, h4⟩⟩
theorem OwnsLv.mono {w : World} {base base' : Nat} {v : Value} {ls : List Lev} (h : OwnsLv w base v ls) (hb : base' ≤ base) : OwnsLv w base' v ls := by
  obtain ⟨L, hL, hLr, hLo⟩ := h
  exact ⟨L, hL, fun p hp => row_mono (hLr p hp) hb, row_mono hLo hb⟩
theorem made_at {n : Int} {v vc : Value} {least cents : List UInt8} {wr : World} {k base : Nat} (ho : wr.ownsRow base 5 1 v k ((lowL least k).map encU)) (hk : k ≤ least.length) (hfin : lowL least k = lowL least 3) (hn0 : 0 ≤ n) (hn1 : n < 4294967296) (hrc : RdBytes wr vc cents) (hcl : cents.length ≤ maxLen)
    {nl : Nat} (hnl : nl = (madeR (bitsOf n) (lowL least 3) cents).length) : ∀ W, Below wr.heap.size wr W → Calls Tryz.prog 19 #[.int .u32 n, v, vc] W fun e w' => ∃ al cl, e = .returned (.slice al nl cl) ∧ Below W.heap.size W w' ∧ Below wr.heap.size wr w' ∧ OwnsLv w' wr.heap.size (.slice al nl cl) (madeR (bitsOf n) (lowL least 3) cents) := fun W hW => by
  have hlk : (lowL least k).length = k := by unfold lowL; rw [List.length_map, List.length_take]; omega
  have hbt : RdBytes wr v (lowL least 3) := by
    rw [← hfin]
    refine RdBytes.of_row (base := base) ?_
    rw [hlk]
    exact ho
  refine (made_any n v vc (lowL least 3) cents W hn0 hn1 (hbt.below hW) (hrc.below hW) (by have := lowL_len least 3; unfold maxLen; omega) hcl).mono ?_
  rintro e w' ⟨v', rfl, hb, ho⟩
  obtain ⟨al, cl, rfl⟩ := ho.form
  rw [hnl]
  exact ⟨al, cl, rfl, hb, hW.trans (hb.mono hW.size), ho.mono hW.size⟩
theorem mail24_at {a : Option Addr} {mm cap most : Nat} {l : List UInt16} {wr : World} (h : RdU16 wr (.slice a mm cap) (l.take mm)) (he : l.take mm = l.take most) (hm : most ≤ 2000) {np : Nat} (hnp : np = (l.take most).length) :
    ∀ W, Below wr.heap.size wr W → Calls Tryz.prog 20 #[.int .u8 0, .slice a mm cap] W fun e w' => ∃ ap cp, e = .returned (.agg #[.int .u8 1, .int .u8 1, .string ⟨#[49, 48, 48, 50, 51]⟩, .slice ap np cp]) ∧ Below W.heap.size W w' ∧ Below wr.heap.size wr w' ∧ OwnsP w' wr.heap.size (.slice ap np cp) (mail24 (l.take most)).ps := fun W hW => by
  rw [he] at h
  refine (mail24_any (l.take most) _ W (h.below hW) (by rw [List.length_take]; omega)).mono ?_
  rintro e w' ⟨ap, cp, rfl, hb, ho⟩
  rw [← hnp] at ho ⊢
  exact ⟨ap, cp, rfl, hb, hW.trans (hb.mono hW.size), OwnsP.mono ho hW.size⟩
theorem and_mask (a m j : Nat) (ha : a < 4294967296) (hm : m = 2 ^ j - 1) (hj : j ≤ 32) : bits .and .u32 (a : Int) (m : Int) = ((a % 2 ^ j : Nat) : Int) := by
  have hm2 : m < 4294967296 := by
    have : 2 ^ j ≤ 2 ^ 32 := Nat.pow_le_pow_right (by decide) hj
    have h0 : 0 < 2 ^ j := Nat.pow_pos (by decide)
    omega
  have h1 : (BitVec.ofInt 32 (a : Int)).toNat = a := by
    rw [BitVec.ofInt_natCast, BitVec.toNat_ofNat]; exact Nat.mod_eq_of_lt (by omega)
  have h2 : (BitVec.ofInt 32 (m : Int)).toNat = m := by
    rw [BitVec.ofInt_natCast, BitVec.toNat_ofNat]; exact Nat.mod_eq_of_lt (by omega)
  have hw : ∀ n : Int, IntKind.u32.wrap n = n % 4294967296 := fun n => by simp [IntKind.wrap, IntKind.bits, IntKind.signed]
  show IntKind.u32.wrap ((BitVec.ofInt 32 (a : Int) &&& BitVec.ofInt 32 (m : Int)).toNat : Int) = _
  rw [BitVec.toNat_and, h1, h2, hw, hm, Nat.and_two_pow_sub_one_eq_mod]
  have : a % 2 ^ j ≤ a := Nat.mod_le _ _
  omega
def pckBy (b : Nat) : Pck := ⟨1 + ((b % 16 : Nat) : Int), 20 + ((b / 16 % 128 : Nat) : Int), 1 + ((b / 2048 % 4 : Nat) : Int), 1 + ((b / 8192 % 4 : Nat) : Int)⟩
theorem pckBy_ok (b : Nat) : pckB (pckBy b) = true := by
  unfold pckB pckBy
  rw [Bool.and_eq_true, decide_eq_true_eq, decide_eq_true_eq]
  dsimp only
  omega
theorem pckBy_grams (b : Nat) (l : List UInt16) : ∀ p ∈ (mail24 l).ps, p.grams ≤ (pckBy b).grams := by
  intro p hp
  unfold mail24 ps24 at hp
  obtain ⟨i, _, rfl⟩ := List.mem_map.1 hp
  unfold p24 pckBy
  dsimp only
  omega
theorem results_made {P : Program} {fn : Func} {u p v q : Tmp} {t1 t2 : TypeId} (h : fn.results = #[.tmp u, .cell p t1, .tmp v, .cell q t2]) (tmps : Array Value) (w : World) (g1 g2 : Nat) (x y : Value)
    (hp : tmps.getD p undef = .pointer (some ⟨g1, 0, none⟩)) (hq : tmps.getD q undef = .pointer (some ⟨g2, 0, none⟩)) (hL : (loadVar t1 ⟨g1, 0, none⟩).run P w = .ok x w) (hL2 : (loadVar t2 ⟨g2, 0, none⟩).run P w = .ok y w) :
    (results fn tmps).run P w = .ok (.tuple #[tmps.getD u undef, x, tmps.getD v undef, y]) w := by
  have hp' : tmps[p]?.getD undef = .pointer (some ⟨g1, 0, none⟩) := by simpa using hp
  have hq' : tmps[q]?.getD undef = .pointer (some ⟨g2, 0, none⟩) := by simpa using hq
  simp [results, h, hp', hq', asAddr, hL, hL2, Result.andThen]
abbrev sets4 (w : World) (g : Nat) (a b c d : Value) : World := (((w.setCell ⟨g, 0, none⟩ a).setCell ⟨g, 1, none⟩ b).setCell ⟨g, 2, none⟩ c).setCell ⟨g, 3, none⟩ d
theorem sets4_grown (w : World) (g : Nat) (a b c d : Value) : w.grownBy (sets4 w g a b c d) (some g) :=
  ⟨rfl, rfl, rfl, by simp [World.setCell], fun k hk hne => by
    have hk' : k ≠ g := fun e => hne (by rw [e])
    have hs : ∀ (W : World) (p : Addr) (u : Value), p.block = g → (W.setCell p u).heap[k]? = W.heap[k]? := fun W p u hp => Below.heap_setCell _ _ _ _ (fun e => hk' (by rw [e, hp]))
    show ((((w.setCell ⟨g, 0, none⟩ a).setCell ⟨g, 1, none⟩ b).setCell ⟨g, 2, none⟩ c).setCell ⟨g, 3, none⟩ d).heap[k]? = _
    rw [hs _ _ _ rfl, hs _ _ _ rfl, hs _ _ _ rfl, hs _ _ _ rfl]⟩
theorem sets4_below {B : Nat} {w0 w : World} (h : Below B w0 w) {g : Nat} (hg : B ≤ g) (a b c d : Value) : Below B w0 (sets4 w g a b c d) :=
  (((h.setCell (p := ⟨g, 0, none⟩) hg _).setCell (p := ⟨g, 1, none⟩) hg _).setCell (p := ⟨g, 2, none⟩) hg _).setCell (p := ⟨g, 3, none⟩) hg _
/-- What the call has made stays while a block ahead of it is filled. -/
theorem keep4 {w : World} {B g gz : Nat} {v1 v2 : Value} {ls : List Lev} {ps : List Pce} {zs : List Int} (hg : g < B) (hl : OwnsLv w B v1 ls) (hp : OwnsP w B v2 ps) (hz : IntsAt w gz zs) (hgz : B ≤ gz) {x : Array Value} {t : TypeId} (h0 : w.heap[g]? = some (.cells x t (0, 0)))
    (ht : t ≠ 110 ∧ t ≠ 102) (a b c d : Value) : OwnsLv (sets4 w g a b c d) B v1 ls ∧ OwnsP (sets4 w g a b c d) B v2 ps ∧ IntsAt (sets4 w g a b c d) gz zs := by
  have hgb := sets4_grown w g a b c d
  have hn : ∀ T : TypeId, t ≠ T → ∀ q, some g = some q → ∀ cur fr, w.heap[q]? ≠ some (.cells cur T fr) := fun T hT q e cur fr e2 => by
    injection e with e
    rw [← e, h0] at e2
    injection e2 with e2
    injection e2 with e3 e4 e5
    exact hT e4
  refine ⟨hl.grown hgb (hn _ ht.1) (hn _ ht.2), own_set4 hp hg _ _ _ _, ?_⟩
  refine (hgb.block gz (Array.getElem?_eq_some_iff.1 hz).1 (fun e => ?_)).trans hz
  injection e with e
  omega
def MadeS (w wr : World) (nl np : Nat) (ls : List Lev) (ps : List Pce) (x p : Value) (wx : World) : Prop :=
  ∃ al cl g ap cp, x = .slice al nl cl ∧ p = .pointer (some ⟨g, 0, none⟩) ∧ wr.heap.size ≤ g ∧ Below wr.heap.size wr wx ∧ wx.heap[g]? = some (.cells #[.int .u8 1, .int .u8 1, .string ⟨#[49, 48, 48, 50, 51]⟩, .slice ap np cp] 29 (0, 0)) ∧ OwnsLv wx wr.heap.size (.slice al nl cl) ls ∧ OwnsP wx wr.heap.size (.slice ap np cp) ps
theorem made_alloc {w wr wX : World} {nl np : Nat} {ls : List Lev} {ps : List Pce} {al ap : Option Addr} {cl cp : Nat} (hX : Below wr.heap.size wr wX) (hl : OwnsLv wX wr.heap.size (.slice al nl cl) ls) (hp : OwnsP wX wr.heap.size (.slice ap np cp) ps) :
    MadeS w wr nl np ls ps (.slice al nl cl) (.pointer (some ⟨wX.heap.size, 0, none⟩)) (wX.alloc (.cells #[.int .u8 1, .int .u8 1, .string ⟨#[49, 48, 48, 50, 51]⟩, .slice ap np cp] 29)) := by
  have hb : Below wX.heap.size wX (wX.alloc (.cells #[.int .u8 1, .int .u8 1, .string ⟨#[49, 48, 48, 50, 51]⟩, .slice ap np cp] 29)) := (Below.refl _ _).alloc (Nat.le_refl _) _
  exact ⟨al, cl, _, ap, cp, rfl, rfl, hX.size, hX.trans (hb.mono hX.size), alloc_new wX _, hl.below hb, row_belowT hp hb⟩
theorem own_past {w : World} {base n g j : Nat} {v : Value} {T : TypeId} {k : Nat} {xs : List Value} (h : w.ownsRow base T k v n xs) (hT : ∀ cur fr, w.heap[g]? ≠ some (.cells cur T fr)) (u : Value) : (w.setCell ⟨g, j, none⟩ u).ownsRow base T k v n xs :=
  kept_typed h (gb_setCell _ _ _) (fun q e => by injection e with e; rw [← e]; exact hT)
theorem made_sets {w wr wX : World} {nl np : Nat} {ls : List Lev} {ps : List Pce} {al ap : Option Addr} {cl cp g : Nat} {x : Array Value} (hX : Below wr.heap.size wr wX) (hg : wr.heap.size ≤ g) (h0 : wX.heap[g]? = some (.cells #[.int .u8 0, .int .u8 0, .string ⟨#[]⟩, .slice none 0 0] 29 (0, 0))) (hl : OwnsLv wX wr.heap.size (.slice al nl cl) ls) (hp : OwnsP wX wr.heap.size (.slice ap np cp) ps) :
    MadeS w wr nl np ls ps (.slice al nl cl) (.pointer (some ⟨g, 0, none⟩)) ((((wX.setCell ⟨g, 0, none⟩ (.int .u8 1)).setCell ⟨g, 1, none⟩ (.int .u8 1)).setCell ⟨g, 2, none⟩ (.string ⟨#[49, 48, 48, 50, 51]⟩)).setCell ⟨g, 3, none⟩ (.slice ap np cp)) := by
  have hgb := sets4_grown wX g (.int .u8 1) (.int .u8 1) (.string ⟨#[49, 48, 48, 50, 51]⟩) (.slice ap np cp)
  have hn : ∀ T : TypeId, 29 ≠ T → ∀ q, some g = some q → ∀ cur fr, wX.heap[q]? ≠ some (.cells cur T fr) := fun T hT q e cur fr e2 => by
    injection e with e
    rw [← e, h0] at e2
    injection e2 with e2
    injection e2 with e3 e4 e5
    exact hT e4
  exact ⟨al, cl, g, ap, cp, rfl, rfl, hg, sets4_below hX hg _ _ _ _, set4 h0, hl.grown hgb (hn _ (by decide)) (hn _ (by decide)), kept_typed hp hgb (hn _ (by decide))⟩
/-- The results are filled, block after block. -/
theorem made_end {w w3 : World} {B g1 g2 gz : Nat} {v1 v2 : Value} {ls : List Lev} {ps : List Pce} {zs : List Int} (hb : Below w.heap.size w w3) (h1 : w.heap.size ≤ g1 ∧ g1 < B) (h2 : w.heap.size ≤ g2 ∧ g2 < B) (hne : g1 ≠ g2) {x0 x1 x2 x3 y0 y1 y2 y3 : Value} {t1 t2 : TypeId}
    (ht1 : t1 ≠ 110 ∧ t1 ≠ 102) (ht2 : t2 ≠ 110 ∧ t2 ≠ 102) (hx : w3.heap[g1]? = some (.cells #[x0, x1, x2, x3] t1 (0, 0))) (hy : w3.heap[g2]? = some (.cells #[y0, y1, y2, y3] t2 (0, 0)))
    (hl : OwnsLv w3 B v1 ls) (hp : OwnsP w3 B v2 ps) (hz : IntsAt w3 gz zs) (hgz : B ≤ gz) (a b c d a' b' c' d' : Value) :
    (sets4 (sets4 w3 g1 a b c d) g2 a' b' c' d').heap[g1]? = some (.cells #[a, b, c, d] t1 (0, 0)) ∧ (sets4 (sets4 w3 g1 a b c d) g2 a' b' c' d').heap[g2]? = some (.cells #[a', b', c', d'] t2 (0, 0)) ∧ Below w.heap.size w (sets4 (sets4 w3 g1 a b c d) g2 a' b' c' d') ∧
    OwnsLv (sets4 (sets4 w3 g1 a b c d) g2 a' b' c' d') w.heap.size v1 ls ∧ OwnsP (sets4 (sets4 w3 g1 a b c d) g2 a' b' c' d') w.heap.size v2 ps ∧ IntsAt (sets4 (sets4 w3 g1 a b c d) g2 a' b' c' d') gz zs := by
  obtain ⟨w4, hw4⟩ : ∃ w4, w4 = sets4 w3 g1 a b c d := ⟨_, rfl⟩
  obtain ⟨l4, p4, z4⟩ := keep4 h1.2 hl hp hz hgz hx ht1 a b c d
  have x4 : (sets4 w3 g1 a b c d).heap[g1]? = some (.cells #[a, b, c, d] t1 (0, 0)) := set4 hx
  have hg4 := sets4_grown w3 g1 a b c d
  have b4 := sets4_below hb h1.1 a b c d
  have y4 : (sets4 w3 g1 a b c d).heap[g2]? = _ := (hg4.block g2 (Array.getElem?_eq_some_iff.1 hy).1 (fun e => hne (Option.some.inj e).symm)).trans hy
  rw [← hw4] at l4 p4 z4 x4 b4 y4 ⊢
  obtain ⟨l5, p5, z5⟩ := keep4 h2.2 l4 p4 z4 hgz y4 ht2 a' b' c' d'
  have hg5 := sets4_grown w4 g2 a' b' c' d'
  exact ⟨(hg5.block g1 (Array.getElem?_eq_some_iff.1 x4).1 (fun e => hne (Option.some.inj e))).trans x4, set4 y4, sets4_below b4 h2.1 _ _ _ _, l5.mono (by omega), OwnsP.mono p5 (by omega), z5⟩
theorem made_endD {w W : World} {g1 g2 gz : Nat} {v1 v2 : Value} {ls : List Lev} {ps : List Pce} {zs : List Int} {c1 c2 : Array Value} {t1 t2 : TypeId} (h : W.heap[g1]? = some (.cells c1 t1 (0, 0)) ∧ W.heap[g2]? = some (.cells c2 t2 (0, 0)) ∧ Below w.heap.size w W ∧ OwnsLv W w.heap.size v1 ls ∧ OwnsP W w.heap.size v2 ps ∧ IntsAt W gz zs) :
    W.drew.heap[g1]? = some (.cells c1 t1 (0, 0)) ∧ W.drew.heap[g2]? = some (.cells c2 t2 (0, 0)) ∧ Below w.heap.size w W.drew ∧ OwnsLv W.drew w.heap.size v1 ls ∧ OwnsP W.drew w.heap.size v2 ps ∧ IntsAt W.drew gz zs := by
  obtain ⟨e1, e2, e3, e4, e5, e6⟩ := h
  exact ⟨e1, e2, e3.drew, e4.below (Below.refl _ W).drew, row_belowT e5 (Below.refl _ W).drew, e6⟩
theorem bthen {wr W W' : World} (h : Below wr.heap.size wr W) (h2 : Below W.heap.size W W') : Below wr.heap.size wr W' := h.trans (h2.mono h.size)
end Go.Proofs.YtelklmdlodgdpaaGreat
