/-
  TrayWrong: the walk.
-/
import Derived.Test.YtelklmdlodgdpaaGreatGR
import Derived.BigQuiet
import Derived.BigRegion
import Derived.Deep.DeepCutAuto
import Derived.Deep.CutBlock
namespace Go.Proofs.YtelklmdlodgdpaaGreat
open Go.RowKit Go.Sort
set_option linter.unusedVariables false
set_option maxRecDepth 100000
/-- What Made has brought, as it lies behind region 3. -/
def TA (w : World) (ls : List Lev) (ps : List Pce) (n : Nat) (zs : List Int) (k : Pck) (x m z q : Value) (wx : World) : Prop :=
  ∃ g cl a cp gz X B, x = .slice (some ⟨g, 0, none⟩) ls.length cl ∧ m = .pointer (some ⟨X, 0, none⟩) ∧ z = .slice (some ⟨gz, 0, none⟩) n n ∧ q = .pointer (some ⟨X + 1, 0, none⟩) ∧
    wx.heap[X]? = some (.cells #[.int .u8 1, .int .u8 1, .string ⟨#[49, 48, 48, 50, 51]⟩, .slice (some ⟨a, 0, none⟩) n cp] 29 (0, 0)) ∧
    wx.heap[X + 1]? = some (.cells #[.int .i64 k.pieces, .int .i64 k.grams, .int .i64 k.bundles, .int .i64 k.trays] 32 (0, 0)) ∧
    OwnsLv wx B (.slice (some ⟨g, 0, none⟩) ls.length cl) ls ∧ OwnsP wx B (.slice (some ⟨a, 0, none⟩) n cp) ps ∧ IntsAt wx gz zs ∧ (w.heap.size ≤ B ∧ B ≤ gz ∧ gz < X ∧ a < X ∧ B ≤ X) ∧ Below w.heap.size w wx
theorem RdLevs.takeT {w : World} {a : Option Addr} {n cap : Nat} {ls : List Lev} (h : RdLevs w (.slice a n cap) ls) {k cap' : Nat} (hk : k ≤ ls.length) : RdLevs w (.slice a k cap') (ls.take k) := by
  obtain ⟨a', c', hv, hc⟩ := h
  injection hv with h1 h2 h3
  subst h1
  have hl : (ls.take k).length = k := by rw [List.length_take]; omega
  refine ⟨a, cap', by rw [hl], fun h0 => ?_⟩
  obtain ⟨g, off, ha, hg, hcc⟩ := hc (by omega)
  refine ⟨g, off, ha, hg, fun i hi => ?_⟩
  obtain ⟨sv, h1, h2⟩ := hcc i (by omega)
  rw [List.getElem_take]
  exact ⟨sv, h1, h2⟩
theorem set1c {w : World} {g : Nat} {cs : Array Value} {t : TypeId} {fr : Nat × Nat} (h : w.heap[g]? = some (.cells cs t fr)) (j : Nat) (u : Value) : (w.setCell ⟨g, j, none⟩ u).heap[g]? = some (.cells (cs.setIfInBounds j u) t fr) := by
  simp [World.setCell, Array.getElem?_modify, h]
theorem lv_keptT {w : World} {B X : Nat} {v : Value} {ls : List Lev} {cs : Array Value} {t : TypeId} {fr : Nat × Nat} (hl : OwnsLv w B v ls) (hX : w.heap[X]? = some (.cells cs t fr)) (ht : t ≠ 110 ∧ t ≠ 102) (j : Nat) (u : Value) : RdLevs (w.setCell ⟨X, j, none⟩ u) v ls := by
  have hn : ∀ T : TypeId, t ≠ T → ∀ q, some X = some q → ∀ cur fr, w.heap[q]? ≠ some (.cells cur T fr) := fun T hT q e cur fr e2 => by
    injection e with e
    rw [← e, hX] at e2
    injection e2 with e2
    injection e2 with e3 e4 e5
    exact hT e4
  exact (hl.grown (gb_setCell w ⟨X, j, none⟩ u) (hn _ ht.1) (hn _ ht.2)).reads
theorem lv_keptP {w : World} {B B' a n c : Nat} {v : Value} {ls : List Lev} {ps : List Pce} (hl : OwnsLv w B v ls) (hp : OwnsP w B' (.slice (some ⟨a, 0, none⟩) n c) ps) (j : Nat) (u : Value) : RdLevs (w.setCell ⟨a, j, none⟩ u) v ls :=
  (hl.grown (row := some a) (gb_setCell w ⟨a, j, none⟩ u) (fun g e => own_not hp (T := 110) (by decide) g e) (fun g e => own_not hp (T := 102) (by decide) g e)).reads
theorem ints_keptP {w : World} {B' a n c gz : Nat} {zs : List Int} {ps : List Pce} (hz : IntsAt w gz zs) (hp : OwnsP w B' (.slice (some ⟨a, 0, none⟩) n c) ps) (j : Nat) (u : Value) : IntsAt (w.setCell ⟨a, j, none⟩ u) gz zs :=
  hz.setOther (fun e => own_not hp (T := 3) (by decide) a rfl _ _ (by have e' : gz = a := e; subst e'; exact hz)) u
theorem own_pastT {w : World} {B X : Nat} {v : Value} {ps : List Pce} {cs : Array Value} {t : TypeId} {fr : Nat × Nat} (hp : OwnsP w B v ps) (hX : w.heap[X]? = some (.cells cs t fr)) (ht : t ≠ 45) (j : Nat) (u : Value) : OwnsP (w.setCell ⟨X, j, none⟩ u) B v ps :=
  kept_typed hp (gb_setCell w ⟨X, j, none⟩ u) (fun q e cur fr e2 => by
    injection e with e
    rw [← e, hX] at e2
    injection e2 with e2
    injection e2 with e3 e4 e5
    exact ht e4)
theorem ints_drop1 {w : World} {gz n c : Nat} {zs : List Int} (h : IntsAt w gz zs) (hl : zs.length = n) : RdInts w (.slice (some ⟨gz, 1, none⟩) (n - 1) c) (zs.drop 1) := by
  refine ⟨_, c, by rw [List.length_drop, hl], fun _ => ⟨gz, 1, rfl, h.lt, fun i hi => ?_⟩⟩
  rw [List.length_drop] at hi
  rw [h.cell (by omega), List.getElem_drop, List.getD_eq_getElem?_getD, List.getElem?_eq_getElem (by omega)]
  rfl
theorem ints_drop0 {w : World} {a : Option Addr} {c : Nat} {zs : List Int} (hl : zs.length = 1) : RdInts w (.slice a 0 c) (zs.drop 1) :=
  ⟨a, c, by rw [List.length_drop, hl], fun h0 => by rw [List.length_drop, hl] at h0; omega⟩
theorem own_two9 (w : World) (A : Obj) : ((w.alloc A).alloc (.cells #[.int .u16 9] 60)).ownsRow (w.heap.size + 1) 60 1 (.slice (some ⟨w.heap.size + 1, 0, none⟩) 1 1) 1 ([(9 : UInt16)].map encU16) := by
  have := own_one9 (w.alloc A)
  rw [World.size_alloc] at this
  exact this
theorem rd_one1 {w W : World} (h : W.heap[w.heap.size]? = some (.cells #[.int .u8 1] 5 (0, 0))) : RdBytes W (.slice (some ⟨w.heap.size, 0, none⟩) 1 1) [1] :=
  ⟨_, 1, rfl, fun _ => ⟨w.heap.size, 0, rfl, (Array.getElem?_eq_some_iff.1 h).1, fun i hi => by
    obtain rfl : i = 0 := by simp at hi; exact hi
    exact cell_of_row _ _ 0 _ _ _ h⟩⟩
theorem made_minT {B : Bits} (h : B.f5 = true) : ∃ l0 r, madeR B (lowL [1] 3) [] = l0 :: r ∧ l0.min = 2 ∧ 1 ≤ r.length := by
  have e : lowL [1] 3 = [1] := by decide
  rw [e]
  unfold madeR mk3 mk2 mk1 addL lev5
  rw [h]
  cases B.f3 <;> cases B.f1 <;> exact ⟨_, _, rfl, rfl, by simp⟩
theorem ownsLv_atT {w : World} {base : Nat} {v : Value} {ls : List Lev} (h : OwnsLv w base v ls) (h0 : 0 < ls.length) : ∃ g cap, v = .slice (some ⟨g, 0, none⟩) ls.length cap ∧ base ≤ g ∧ g < w.heap.size := by
  obtain ⟨L, rfl, hLr, ho⟩ := h
  rw [List.length_map] at h0 ⊢
  rcases Joins.ownsRow_forms ho with ⟨_, hp⟩ | ⟨g, cap, hv⟩
  · omega
  · subst hv
    exact ⟨g, cap, rfl, ho.lt g rfl⟩
theorem ta_new {w W wM w' : World} {ls : List Lev} {ps : List Pce} {n : Nat} {zs : List Int} {k : Pck} {al ap : Option Addr} {cl cp gz : Nat} (hB : Below w.heap.size w wM) (hW : w.heap.size ≤ W.heap.size) (hl : OwnsLv wM W.heap.size (.slice al ls.length cl) ls) (hp : OwnsP wM W.heap.size (.slice ap n cp) ps) (hz : IntsAt wM gz zs) (hgz : W.heap.size ≤ gz) (h1 : 0 < ls.length) (h2 : 0 < n) (hpn : ps.length = n)
    (hw : w' = (wM.alloc (.cells #[.int .u8 1, .int .u8 1, .string ⟨#[49, 48, 48, 50, 51]⟩, .slice ap n cp] 29)).alloc (.cells #[.int .i64 k.pieces, .int .i64 k.grams, .int .i64 k.bundles, .int .i64 k.trays] 32)) :
    TA w ls ps n zs k (.slice al ls.length cl) (.pointer (some ⟨wM.heap.size, 0, none⟩)) (.slice (some ⟨gz, 0, none⟩) n n) (.pointer (some ⟨wM.heap.size + 1, 0, none⟩)) w' := by
  obtain ⟨g, c', hv, _, _⟩ := ownsLv_atT hl h1
  injection hv with hv1 _ hv3
  subst hv1
  subst hv3
  obtain ⟨a, c2, hv, ha1, ha2⟩ := own_some hp hpn h2
  injection hv with hv1 _ hv3
  subst hv1
  subst hv3
  obtain ⟨k1, k2, k3, k4⟩ := boxes2 hw
  have hgl : gz < wM.heap.size := (Array.getElem?_eq_some_iff.1 hz).1
  exact ⟨g, cl, a, cp, gz, wM.heap.size, W.heap.size, rfl, rfl, rfl, rfl, k1, k2, hl.below k4, row_belowT hp k4, (k4.block gz hgl).trans hz, ⟨hW, hgz, hgl, ha2, by omega⟩, hB.trans (k4.mono hB.size)⟩
set_option maxHeartbeats 32000000 in
theorem wrong_walk (n : Int) (c : UInt8) (vs : Value) (l : List UInt16) (w : World) (hn0 : 0 ≤ n) (hn1 : n < 4294967296) (hrs : RdU16C w vs l) (hll : l.length ≤ 70368744175616) :
    Calls Tryz.prog 6 #[.int .u32 n, vs, .int .u8 (c.toNat : Int)] w fun e w' => e = .returned (.bool true) ∧ Below w.heap.size w w' := by
  have HAW := Lib.hid (fun W => awake26_any W)
  obtain ⟨o0, o1, o2⟩ := or_oneT hn0 hn1
  obtain ⟨n', hn'⟩ : ∃ n', bits .or .u32 n 1 = n' := ⟨_, rfl⟩
  rw [hn'] at o0 o1 o2
  obtain ⟨l', hl'⟩ : ∃ l', l' = (9 :: l).take 40 := ⟨_, rfl⟩
  have hl1 : 1 ≤ l'.length ∧ l'.length ≤ 40 := by rw [hl', List.length_take, List.length_cons]; omega
  have hP : HasPlan (madeR (bitsOf n') (lowL [] 3) []) (mail24 l') := by rw [hl']; exact made_hp n' [] [] (9 :: l) 40 (by decide)
  have hP2 : HasPlan (madeR (bitsOf n') (lowL [1] 3) []) (mail24 l') := by rw [hl']; exact made_hp n' [1] [] (9 :: l) 40 (by decide)
  have hmd : ∀ W v, Below w.heap.size w W → RdU16C W v (9 :: l) → MadeB #[.int .u32 n', .slice none 0 0, .slice none 0 0, v, .int .i64 40, .int .u32 0] (madeR (bitsOf n') (lowL [] 3) []) l' (planM (madeR (bitsOf n') (lowL [] 3) []) (mail24 l')) (pckBy 0) W := fun W v hW hv => by
    have hnn : RdBytes W (.slice none 0 0) [] := ⟨none, 0, rfl, fun h => absurd h (by simp)⟩
    rw [hl']
    exact made_b (b := 0) (most := 40) o0 o1 (by decide) hnn hnn hv (Nat.zero_le _) (Nat.zero_le _) (by rw [List.length_cons]; unfold maxLen; omega) (by decide)
  have hmd2 : ∀ W vb v, RdBytes W vb [1] → RdU16C W v (9 :: l) → MadeB #[.int .u32 n', vb, .slice none 0 0, v, .int .i64 40, .int .u32 0] (madeR (bitsOf n') (lowL [1] 3) []) l' (planM (madeR (bitsOf n') (lowL [1] 3) []) (mail24 l')) (pckBy 0) W := fun W vb v hvb hv => by
    have hnn : RdBytes W (.slice none 0 0) [] := ⟨none, 0, rfl, fun h => absurd h (by simp)⟩
    rw [hl']
    exact made_b (b := 0) (most := 40) o0 o1 (by decide) hvb hnn hv (by unfold maxLen; decide) (Nat.zero_le _) (by rw [List.length_cons]; unfold maxLen; omega) (by decide)
  obtain ⟨l20, r2, hmf2, hmin2, hr2⟩ := made_minT o2
  obtain ⟨ls2, hls2⟩ : ∃ ls2, ls2 = madeR (bitsOf n') (lowL [1] 3) [] := ⟨_, rfl⟩
  rw [← hls2] at hmd2 hP2 hmf2
  have hl22 : 2 ≤ ls2.length := by rw [hmf2]; simp; omega
  have hmin : 2 ≤ (ls2[0]'(by omega)).min := by simp only [hmf2, List.getElem_cons_zero]; omega
  have HMIN := Lib.hid hmin
  obtain ⟨l0, r, hmf, hpre5, hr1⟩ := made_firstT (lowL [] 3) o2
  obtain ⟨ls, hls⟩ : ∃ ls, ls = madeR (bitsOf n') (lowL [] 3) [] := ⟨_, rfl⟩
  rw [← hls] at hmd hP hmf
  have hl2 : 2 ≤ ls.length := by rw [hmf]; simp; omega
  have h5 : ∀ l ∈ ls.take 1, l.pre = 5 := fun x hx => by
    rw [hmf] at hx
    simp at hx
    rw [hx]; exact hpre5
  have hpn : (mail24 l').ps.length = l'.length := ps24_len _ _
  have hd8 : c.toNat % 8 < 8 := Nat.mod_lt _ (by decide)
  have hmod : (c.toNat : Int).tmod 8 = ((c.toNat % 8 : Nat) : Int) := by rw [Int.tmod_eq_emod_of_nonneg (Int.natCast_nonneg _)]; rfl
  obtain ⟨d, hd⟩ : ∃ d, d = c.toNat % 8 := ⟨_, rfl⟩
  rw [← hd] at hmod hd8
  obtain ⟨as_, cs_, rfl, _⟩ := hrs.1
  have hfm2 : (as_ = none ∧ cs_ = 0 ∧ l.length = 0) ∨ (∃ sb so sp, as_ = some ⟨sb, so, sp⟩ ∧ l.length ≤ cs_) := by
    rcases hrs.2 with h | ⟨b, off, spot, cap, h, hc⟩
    · injection h with h1 h2 h3
      exact .inl ⟨h1, h3, h2⟩
    · injection h with h1 h2 h3
      exact .inr ⟨b, off, spot, h1, by omega⟩
  have HFM := Lib.hid hfm2
  have HRS := Lib.hid hrs
  obtain ⟨i0, hi⟩ := info_parts Tryz.infoU16
  have HI := Lib.hid hi
  have HP := Lib.hid hP
  have HP2 := Lib.hid hP2
  have HH5 := Lib.hid h5
  have HPN := Lib.hid hpn
  obtain ⟨zs, hzs⟩ : ∃ z, z = planM ls (mail24 l') := ⟨_, rfl⟩
  rw [← hzs] at hmd
  unfold MadeB at hmd hmd2
  have HMD := Lib.hid hmd
  have HMD2 := Lib.hid hmd2
  have HZS := Lib.hid hzs
  clear hmd2 hls2 hmf2 hmin2 hr2 hmin hd hi hrs hfm2 hls hl' hmf hpre5 hr1 h5 hmd o0 o1 o2 hP hP2 hpn hzs
  go_enter Tryz.func6, Tryz.ntmps6
  go_upto_region 3 with (go_at_call 9; refine (HAW.out _).mono ?_; rintro e w1 ⟨rfl, hb1⟩)
  have HB1 : Hid (Below w.heap.size w w1) := hb1
  clear hb1 HAW
  go_cut [7, 8, 9, 10] from 28 to 38 (fun x m z q wx => TA w ls (mail24 l').ps l'.length zs (pckBy 0) x m z q wx)
  case first =>
    rcases HFM.out with ⟨rfl, rfl, hl0⟩ | ⟨sb, so, sp, rfl, hcap⟩
    · obtain rfl : l = [] := List.length_eq_zero_iff.1 hl0
      go_wp2_with (go_at_call 10; (have hrb : RdU16C (w1.alloc (.cells #[.int .u16 9] 60)) (.slice (some ⟨w1.heap.size, 0, none⟩) 1 1) [9] := u16C_of_own (own_one9 w1) rfl); (have BX : Below w.heap.size w (w1.alloc (.cells #[.int .u16 9] 60)) := HB1.out.alloc HB1.out.size _); refine (HMD.out _ _ BX hrb _ (Below.refl _ _)).mono ?_; rintro e wM ⟨al, cl, ap, cp, gz, rfl, hbM, hlM, hpM, hzM, hgM⟩; (have hBM : Below w.heap.size w wM := BX.trans (hbM.mono BX.size)); (have hBz := BX.size))
      go_meet
      exact ta_new hBM hBz hlM hpM hzM hgM (by omega) (by omega) HPN.out rfl
    · have HNW : Hid (∀ W, Below w.heap.size w W → ∀ j u, (l.map encU16)[j]? = some u → W.cell? ((⟨sb, so, sp⟩ : Addr).add j) = some u) := fun W hW => u16_news (n := l.length) (cap := cs_) (RdU16.below HRS.out.1 hW)
      have HLEN : Hid ((l.map encU16).length = l.length * 1) := by
        show (l.map encU16).length = l.length * 1
        rw [List.length_map, Nat.mul_one]
      have HONE : Hid (∀ u ∈ l.map encU16, u.oneCell' = true) := fun u hu => by
        obtain ⟨z, _, rfl⟩ := List.mem_map.1 hu
        rfl
      go_wp2_with (first | (at_builtin; refine wpList_append_own _ rfl _ _ 24 rfl w1.heap.size 60 i0 (.int .u16 0) 1 2 Tryz.underlying24 HI.out.1 HI.out.2.1 HI.out.2.2.1 HI.out.2.2.2 rfl (by decide) _ _ _ rfl (own_one9 w1) ⟨sb, so, sp⟩ l.length cs_ (l.map encU16) rfl HLEN.out (HNW.out _ (HB1.out.alloc HB1.out.size _)) HONE.out (by unfold maxLen; omega) (by omega) (by simp) ?_; intro v5 w5 hown5 hgrow5 _; (have BX : Below w.heap.size w w5 := (HB1.out.alloc HB1.out.size _).grown hgrow5 (by have := HB1.out.size; simp; omega) (fun r e => by have := HB1.out.size; have := ((own_one9 w1).lt r e).1; omega)); (have hrb : RdU16C w5 v5 (9 :: l) := u16C_of_own (by rw [List.map_cons]; exact hown5) (by simp; omega))) | (go_at_call 10; refine (HMD.out _ _ BX hrb _ (Below.refl _ _)).mono ?_; rintro e wM ⟨al, cl, ap, cp, gz, rfl, hbM, hlM, hpM, hzM, hgM⟩; (have hBM : Below w.heap.size w wM := BX.trans (hbM.mono BX.size)); (have hBz := BX.size)))
      go_meet
      exact ta_new hBM hBz hlM hpM hzM hgM (by omega) (by omega) HPN.out rfl
  case rest =>
    obtain ⟨wx, hwx⟩ : ∃ x, x = wc := ⟨_, rfl⟩
    subst hwx
    obtain ⟨g, cl, a, cp, gz, X, B, rfl, rfl, rfl, rfl, hX, hQ0, hOl, hOp, hIz, ⟨hwB, hBg, hgX, haX, hBX⟩, hB⟩ := hcut
    have hQ : wx.heap[X + 1]? = some (.cells #[.int .i64 1, .int .i64 20, .int .i64 1, .int .i64 1] 32 (0, 0)) := hQ0
    have hX1 : X + 1 < wx.heap.size := (Array.getElem?_eq_some_iff.1 hQ).1
    have hay : B ≤ a := ((hOp : wx.ownsRow B 45 5 _ _ _).lt a rfl).1
    have hzlen : zs.length = l'.length := by rw [HZS.out, planM_len]; exact HPN.out
    have HXX := Lib.hid hX
    have HQQ := Lib.hid hQ
    have HOL := Lib.hid hOl
    have HOP := Lib.hid hOp
    have HIZ := Lib.hid hIz
    have HBB := Lib.hid hB
    have HZL := Lib.hid hzlen
    clear hX hQ0 hQ hOl hOp hIz hB hzlen
    go_upto_block 0 with fail
    go_cut [7, 9, 11, 12] from 41 to 79 (fun x z want chk wz => ∃ al cl' az nz cz, x = .slice al (twL d ls).length cl' ∧ z = .slice az nz cz ∧ want = .int .i64 (wantP d) ∧ chk = .int .i64 (wantC d) ∧ RdLevs wz (.slice al (twL d ls).length cl') (twL d ls) ∧ RdInts wz (.slice az nz cz) (twZ d ls.length zs) ∧
      wz.heap[X]? = some (.cells #[.int .u8 1, .int .u8 1, .string (twM d (mail24 l')).origin, .slice (some ⟨a, 0, none⟩) l'.length cp] 29 (0, 0)) ∧ RdPces wz (.slice (some ⟨a, 0, none⟩) l'.length cp) (twM d (mail24 l')).ps ∧
      wz.heap[X + 1]? = some (.cells #[.int .i64 (twK d ⟨1, 20, 1, 1⟩).pieces, .int .i64 (twK d ⟨1, 20, 1, 1⟩).grams, .int .i64 (twK d ⟨1, 20, 1, 1⟩).bundles, .int .i64 (twK d ⟨1, 20, 1, 1⟩).trays] 32 (0, 0)) ∧ Below w.heap.size w wz)
    case first =>
      have hdc : d = 0 ∨ d = 1 ∨ d = 2 ∨ d = 3 ∨ d = 4 ∨ d = 5 ∨ d = 6 ∨ d = 7 := by omega
      have hcl : ls.length ≤ cl := by
        obtain ⟨L, hL, _, _, ⟨e, _⟩ | ⟨g', cap', cur, e, _, _, hle, _⟩⟩ := HOL.out
        · cases e
        · injection e with e1 e2 e3
          have := congrArg List.length hL
          rw [List.length_map] at this
          omega
      obtain ⟨p0, pr, hps⟩ : ∃ p r, (mail24 l').ps = p :: r := by
        cases hm : (mail24 l').ps with
        | nil => have := HPN.out; rw [hm] at this; simp at this; omega
        | cons p r => exact ⟨p, r, rfl⟩
      have hp0 : 0 < (mail24 l').ps.length := by rw [HPN.out]; omega
      obtain ⟨c2', f2, _, _⟩ := OwnsP.at HOP.out 0 2 hp0 (by decide)
      obtain ⟨c3', f3, _, _⟩ := OwnsP.at HOP.out 0 3 hp0 (by decide)
      have c2 : wx.cell? ⟨a, 2, none⟩ = some (.string ((mail24 l').ps[0]'hp0).code) := c2'
      have c3 : wx.cell? ⟨a, 3, none⟩ = some (.int .i64 ((mail24 l').ps[0]'hp0).grams) := c3'
      rw [Nat.zero_mul, Nat.zero_add] at f2 f3
      obtain ⟨m0, m1, m2, m3, y0, y1, y2, y3⟩ := cells4e HXX.out
      obtain ⟨k0, k1, k2, k3, j0, j1, j2, j3⟩ := cells4e HQQ.out
      have z0 : wx.cell? ⟨gz, 0, none⟩ = some (.int .i64 (zs.getD 0 (-1))) := HIZ.out.cell (by rw [HZL.out]; omega)
      have z0f := HIZ.out.free 0
      have hrz : RdInts wx (.slice (some ⟨gz, 0, none⟩) l'.length l'.length) zs := rd_plan HIZ.out HZL.out
      have HRZ := Lib.hid hrz
      clear c2' c3' hrz
      rcases hdc with rfl | rfl | rfl | rfl | rfl | rfl | rfl | rfl
      · have hm0 : (c.toNat : Int).tmod 8 = 0 := hmod
        clear hmod
        have hlen6 := (right_len HP.out.right).2
        have hL0 : (twL 0 ls).length = ls.length - 1 := by
          show (ls.take (ls.length - 1)).length = _
          rw [List.length_take]; omega
        have HL0 := Lib.hid hL0
        have HTK : Hid (∀ cap, RdLevs wx (.slice (some ⟨g, 0, none⟩) (ls.length - 1) cap) (twL 0 ls)) := fun cap => RdLevs.takeT HOL.out.reads (by omega)
        obtain ⟨N, hN⟩ : ∃ N, ls.length = N + 1 := ⟨ls.length - 1, by omega⟩
        have HN := Lib.hid hN
        rw [hN] at hcl hlen6 ⊢
        clear hL0 hN hl2
        go_wp2_with fail
        go_meet
        have e : ls.length - 1 = N := by rw [HN.out]; rfl
        have hL := HL0.out
        rw [e] at hL
        have ht := HTK.out
        rw [e] at ht
        refine ⟨some ⟨g, 0, none⟩, _, _, _, _, by rw [hL], rfl, rfl, rfl, ?_, HRZ.out, HXX.out, RdPces.of_owns HOP.out, HQQ.out, HBB.out⟩
        rw [hL]
        exact ht _
      · have hm0 : (c.toNat : Int).tmod 8 = 1 := hmod
        clear hmod
        go_wp2_with fail
        go_meet
        refine ⟨some ⟨g, 0, none⟩, _, _, _, _, rfl, rfl, rfl, rfl, ?_, ?_, set1c HXX.out 2 _, ?_, (Below.heap_setCell _ _ _ _ (by show X + 1 ≠ X; omega)).trans HQQ.out, HBB.out.setCell (by show w.heap.size ≤ X; omega) _⟩
        · exact (lv_keptT HOL.out HXX.out (by decide) 2 _)
        · exact rd_plan (HIZ.out.setOther (by show gz ≠ X; omega) _) HZL.out
        · exact RdPces.of_owns (own_pastT HOP.out HXX.out (by decide) 2 _)
      · have hm0 : (c.toNat : Int).tmod 8 = 2 := hmod
        clear hmod
        have HD1 := Lib.hid (fun (h : l'.length = 1) c => ints_drop0 (a := some ⟨gz, 0, none⟩) (w := wx) (c := c) (zs := zs) (by rw [HZL.out]; exact h))
        have HD2 := Lib.hid (fun c => ints_drop1 HIZ.out HZL.out (c := c))
        go_wp2_with fail
        all_goals
          go_meet
          first
            | exact ⟨some ⟨g, 0, none⟩, _, _, _, _, rfl, rfl, rfl, rfl, HOL.out.reads, HD2.out _, HXX.out, RdPces.of_owns HOP.out, HQQ.out, HBB.out⟩
            | exact ⟨some ⟨g, 0, none⟩, _, _, _, _, rfl, rfl, rfl, rfl, HOL.out.reads, HD1.out (by assumption) _, HXX.out, RdPces.of_owns HOP.out, HQQ.out, HBB.out⟩
      · have hm0 : (c.toNat : Int).tmod 8 = 3 := hmod
        clear hmod
        go_wp2_with fail
        go_meet
        refine ⟨some ⟨g, 0, none⟩, _, _, _, _, rfl, rfl, rfl, rfl, ?_, ?_, (Below.heap_setCell _ _ _ _ (by show X ≠ gz; omega)).trans HXX.out, ?_, (Below.heap_setCell _ _ _ _ (by show X + 1 ≠ gz; omega)).trans HQQ.out, HBB.out.setCell (by show w.heap.size ≤ gz; omega) _⟩
        · exact lv_keptT HOL.out HIZ.out (by decide) 0 _
        · exact rd_plan (HIZ.out.set 0 _) (by rw [show (twZ 3 ls.length zs) = zs.set 0 (ls.length : Int) from rfl, List.length_set]; exact HZL.out)
        · exact RdPces.of_owns (own_pastT HOP.out HIZ.out (by decide) 0 _)
      · have hm0 : (c.toNat : Int).tmod 8 = 4 := hmod
        clear hmod
        go_wp2_with fail
        go_meet
        refine ⟨some ⟨g, 0, none⟩, _, _, _, _, rfl, rfl, rfl, rfl, ?_, ?_, (Below.heap_setCell _ _ _ _ (by show X ≠ X + 1; omega)).trans HXX.out, ?_, set1c HQQ.out 0 _, HBB.out.setCell (by show w.heap.size ≤ X + 1; omega) _⟩
        · exact lv_keptT HOL.out HQQ.out (by decide) 0 _
        · exact rd_plan (HIZ.out.setOther (by show gz ≠ X + 1; omega) _) HZL.out
        · exact RdPces.of_owns (own_pastT HOP.out HQQ.out (by decide) 0 _)
      · have hm0 : (c.toNat : Int).tmod 8 = 5 := hmod
        clear hmod
        go_wp2_with fail
        go_meet
        refine ⟨some ⟨g, 0, none⟩, _, _, _, _, rfl, rfl, rfl, rfl, ?_, ?_, (Below.heap_setCell _ _ _ _ (by show X ≠ X + 1; omega)).trans HXX.out, ?_, set1c HQQ.out 3 _, HBB.out.setCell (by show w.heap.size ≤ X + 1; omega) _⟩
        · exact lv_keptT HOL.out HQQ.out (by decide) 3 _
        · exact rd_plan (HIZ.out.setOther (by show gz ≠ X + 1; omega) _) HZL.out
        · exact RdPces.of_owns (own_pastT HOP.out HQQ.out (by decide) 3 _)
      · have hm0 : (c.toNat : Int).tmod 8 = 6 := hmod
        clear hmod
        go_wp2_with fail
        go_meet
        have hpp := OwnsP.put HOP.out 0 2 hp0 (by decide) { (mail24 l').ps[0]'hp0 with code := ⟨#[49]⟩ } (.string ⟨#[49]⟩) rfl
        have hset : (mail24 l').ps.set 0 { (mail24 l').ps[0]'hp0 with code := ⟨#[49]⟩ } = (twM 6 (mail24 l')).ps := by
          unfold twM
          simp only [hps]
          rfl
        rw [hset, Nat.zero_mul, Nat.zero_add] at hpp
        refine ⟨some ⟨g, 0, none⟩, _, _, _, _, rfl, rfl, rfl, rfl, lv_keptP HOL.out HOP.out 2 _, ?_, (Below.heap_setCell _ _ _ _ (by show X ≠ a; omega)).trans HXX.out, RdPces.of_owns hpp, (Below.heap_setCell _ _ _ _ (by show X + 1 ≠ a; omega)).trans HQQ.out, HBB.out.setCell (by show w.heap.size ≤ a; omega) _⟩
        exact rd_plan (ints_keptP HIZ.out HOP.out 2 _) HZL.out
      · have hm0 : (c.toNat : Int).tmod 8 = 7 := hmod
        clear hmod
        go_wp2_with fail
        go_meet
        have hpp := OwnsP.put HOP.out 0 3 hp0 (by decide) { (mail24 l').ps[0]'hp0 with grams := 21 } (.int .i64 21) rfl
        have hset : (mail24 l').ps.set 0 { (mail24 l').ps[0]'hp0 with grams := 21 } = (twM 7 (mail24 l')).ps := by
          unfold twM
          simp only [hps]
          rfl
        rw [hset, Nat.zero_mul, Nat.zero_add] at hpp
        refine ⟨some ⟨g, 0, none⟩, _, _, _, _, rfl, rfl, rfl, rfl, lv_keptP HOL.out HOP.out 3 _, ?_, (Below.heap_setCell _ _ _ _ (by show X ≠ a; omega)).trans HXX.out, RdPces.of_owns hpp, (Below.heap_setCell _ _ _ _ (by show X + 1 ≠ a; omega)).trans HQQ.out, HBB.out.setCell (by show w.heap.size ≤ a; omega) _⟩
        exact rd_plan (ints_keptP HIZ.out HOP.out 3 _) HZL.out
    case rest =>
      obtain ⟨wy, hwy⟩ : ∃ x, x = wc := ⟨_, rfl⟩
      subst hwy
      obtain ⟨al, cl', az, nz, cz, rfl, rfl, rfl, rfl, hrl, hrz, hX, hrp, hQ, hB⟩ := hcut
      have hd8' := hd8
      have hm1 : 1 ≤ (mail24 l').ps.length := by rw [HPN.out]; exact hl1.1
      have hval : validR ls (mail24 l') zs = (true, 0) := by rw [HZS.out]; exact HP.out.valid
      have hzl : zs.length = (mail24 l').ps.length := by rw [HZL.out, HPN.out]
      have hnum : numsB ls.length zs = true := by rw [HZS.out]; exact HP.out.nums
      have hk : pckB ⟨1, 20, 1, 1⟩ = true := by kernel_rfl
      obtain ⟨e1, e2, _⟩ := twM_parts d HP.out.mail
      have hmv : ∀ vp, maiV (twM d (mail24 l')) vp = .agg #[.int .u8 1, .int .u8 1, .string (twM d (mail24 l')).origin, vp] := fun vp => by unfold maiV; rw [e1, e2]; rfl
      have hpv : pckV (twK d ⟨1, 20, 1, 1⟩) = .agg #[.int .i64 (twK d ⟨1, 20, 1, 1⟩).pieces, .int .i64 (twK d ⟨1, 20, 1, 1⟩).grams, .int .i64 (twK d ⟨1, 20, 1, 1⟩).bundles, .int .i64 (twK d ⟨1, 20, 1, 1⟩).trays] := rfl
      have HPA := Lib.hid (fun W v vp vz hr hrp hz => tw_pack (v := v) (vp := vp) (vz := vz) (w := W) hd8 HP.out hl2 HH5.out hm1 hval hzl hnum hk (by decide) rfl hr hrp hz)
      have HCA := Lib.hid (fun W v vp vz hr hrp hz => tw_check (v := v) (vp := vp) (vz := vz) (w := W) hd8 HP.out hl2 HH5.out hm1 hval hzl hnum hk (by decide) rfl hr hrp hz)
      simp only [hmv, hpv] at HPA HCA
      unfold noLod at HPA HCA
      obtain ⟨O, hO⟩ : ∃ O, O = (twM d (mail24 l')).origin := ⟨_, rfl⟩
      obtain ⟨K, hK⟩ : ∃ K, K = twK d ⟨1, 20, 1, 1⟩ := ⟨_, rfl⟩
      rw [← hO] at HPA HCA hX
      rw [← hK] at HPA HCA hQ
      obtain ⟨kp, kg, kb, kt⟩ := K
      dsimp only at HPA HCA hQ
      obtain ⟨m0, m1, m2, m3⟩ := cells4 hX
      obtain ⟨q0, q1, q2, q3⟩ := cells4 hQ
      have HRL := Lib.hid hrl
      have HRP := Lib.hid hrp
      have HRZ := Lib.hid hrz
      have HBY := Lib.hid hB
      have HKP : Hid (∀ W, Below wy.heap.size wy W → (W.cell? ⟨X, 0, none⟩ = some (.int .u8 1) ∧ W.cell? ⟨X, 1, none⟩ = some (.int .u8 1) ∧ W.cell? ⟨X, 2, none⟩ = some (.string O) ∧ W.cell? ⟨X, 3, none⟩ = some (.slice (some ⟨a, 0, none⟩) l'.length cp)) ∧ (W.cell? ⟨X + 1, 0, none⟩ = some (.int .i64 kp) ∧ W.cell? ⟨X + 1, 1, none⟩ = some (.int .i64 kg) ∧ W.cell? ⟨X + 1, 2, none⟩ = some (.int .i64 kb) ∧ W.cell? ⟨X + 1, 3, none⟩ = some (.int .i64 kt)) ∧ X < W.heap.size ∧ X + 1 < W.heap.size) := fun W hW => by
        have h1 := (Array.getElem?_eq_some_iff.1 hX).1
        have h2 := (Array.getElem?_eq_some_iff.1 hQ).1
        have h3 := hW.size
        exact ⟨cells4 ((hW.block _ h1).trans hX), cells4 ((hW.block _ h2).trans hQ), by omega, by omega⟩
      clear hrl hrz hX hrp hQ hB hval hzl hnum hk e1 e2 hmv hpv hO hK hm1 HXX HQQ HOL HOP HIZ HBB
      go_upto_region 24 with (go_at_call 11; refine (HPA.out _ _ _ _ HRL.out HRP.out HRZ.out).mono ?_; rintro e w7 ⟨rfl, hb7⟩)
      obtain ⟨w8, hw8⟩ : ∃ w8, w8 = w7.alloc (.cells #[.slice none 0 0, .slice none 0 0, .slice none 0 0] 39) := ⟨_, rfl⟩
      rw [← hw8]
      have hb78 : Below w7.heap.size w7 w8 := by rw [hw8]; exact (Below.refl _ _).alloc (Nat.le_refl _) _
      have h8 : w8.heap[w7.heap.size]? = some (.cells #[.slice none 0 0, .slice none 0 0, .slice none 0 0] 39 (0, 0)) := by rw [hw8]; exact alloc_new w7 _
      have hb8 : Below wy.heap.size wy w8 := hb7.trans (hb78.mono hb7.size)
      obtain ⟨T1, hT1⟩ : ∃ T, T = w7.heap.size := ⟨_, rfl⟩
      rw [← hT1] at h8 ⊢
      have HH8 := Lib.hid h8
      have HB8 := Lib.hid hb8
      clear m0 m1 m2 m3 q0 q1 q2 q3 hw8 hb78 hb7 hT1
      obtain ⟨⟨m0, m1, m2, m3⟩, ⟨q0, q1, q2, q3⟩, _⟩ := HKP.out w8 hb8
      obtain ⟨t0, t1, t2⟩ := cells3 h8
      clear h8 hb8
      go_upto_region 25 with (go_at_call 13; refine (HCA.out _ _ _ _ (HRL.out.below HB8.out) (HRP.out.below HB8.out) (HRZ.out.below HB8.out)).mono ?_; rintro e w9 ⟨rfl, hb9⟩)
      have hb9w : Below w.heap.size w w9 := (HBY.out.trans (HB8.out.mono HBY.out.size)).trans (hb9.mono (Nat.le_trans HBY.out.size HB8.out.size))
      have HB9W := Lib.hid hb9w
      have HH9 := Lib.hid ((hb9.block _ (Array.getElem?_eq_some_iff.1 HH8.out).1).trans HH8.out)
      clear m0 m1 m2 m3 q0 q1 q2 q3 t0 t1 t2 hb9 hb9w HPA HCA HRL HRP HRZ HKP HH8 HB8 HBY
      go_cut [17, 18, 19, 20] from 98 to 108 (fun x m z q wx => TA w9 ls2 (mail24 l').ps l'.length (planM ls2 (mail24 l')) (pckBy 0) x m z q wx)
      case first =>
        rcases HFM.out with ⟨rfl, rfl, hl0⟩ | ⟨sb, so, sp, rfl, hcap⟩
        · obtain rfl : l = [] := List.length_eq_zero_iff.1 hl0
          obtain ⟨wa, hwa⟩ : ∃ wa, wa = (w9.alloc (.cells #[.int .u8 1] 5)).alloc (.cells #[.int .u16 9] 60) := ⟨_, rfl⟩
          obtain ⟨k1, k2, k3, k4⟩ := boxes2 hwa
          have hrb : RdU16C wa (.slice (some ⟨w9.heap.size + 1, 0, none⟩) 1 1) [9] := u16C_of_own (by rw [hwa]; exact own_two9 w9 _) rfl
          have hr1 := rd_one1 k1
          have HWA := Lib.hid hwa
          clear hwa k1 k2
          go_wp2_with (go_at_call 10; rw [← HWA.out]; refine (HMD2.out _ _ _ hr1 hrb _ (Below.refl _ _)).mono ?_; rintro e wM ⟨al, cl, ap, cp, gz, rfl, hbM, hlM, hpM, hzM, hgM⟩; (have hBM : Below w9.heap.size w9 wM := k4.trans (hbM.mono k4.size)); (have hBz := k4.size))
          go_meet
          exact ta_new hBM hBz hlM hpM hzM hgM (by omega) (by omega) HPN.out rfl
        · obtain ⟨wa, hwa⟩ : ∃ wa, wa = (w9.alloc (.cells #[.int .u8 1] 5)).alloc (.cells #[.int .u16 9] 60) := ⟨_, rfl⟩
          obtain ⟨k1, k2, k3, k4⟩ := boxes2 hwa
          have HOW : Hid (wa.ownsRow (w9.heap.size + 1) 60 1 (.slice (some ⟨w9.heap.size + 1, 0, none⟩) 1 1) 1 ([(9 : UInt16)].map encU16)) := by
            show wa.ownsRow _ _ _ _ _ _
            rw [hwa]; exact own_two9 w9 _
          have HNW : Hid (∀ j u, (l.map encU16)[j]? = some u → wa.cell? ((⟨sb, so, sp⟩ : Addr).add j) = some u) := u16_news (n := l.length) (cap := cs_) (RdU16.below HRS.out.1 (HB9W.out.trans (k4.mono HB9W.out.size)))
          have HLEN : Hid ((l.map encU16).length = l.length * 1) := by
            show (l.map encU16).length = l.length * 1
            rw [List.length_map, Nat.mul_one]
          have HONE : Hid (∀ u ∈ l.map encU16, u.oneCell' = true) := fun u hu => by
            obtain ⟨z, _, rfl⟩ := List.mem_map.1 hu
            rfl
          have HWA := Lib.hid hwa
          have HK1 := Lib.hid k1
          have HK3 := Lib.hid k3
          have HK4 := Lib.hid k4
          clear hwa k1 k2 k3 k4
          go_wp2_with (first | (at_builtin; rw [← HWA.out]; refine wpList_append_own _ rfl _ _ 24 rfl (w9.heap.size + 1) 60 i0 (.int .u16 0) 1 2 Tryz.underlying24 HI.out.1 HI.out.2.1 HI.out.2.2.1 HI.out.2.2.2 rfl (by decide) _ _ _ rfl HOW.out ⟨sb, so, sp⟩ l.length cs_ (l.map encU16) rfl HLEN.out HNW.out HONE.out (by unfold maxLen; omega) (by omega) (by have := HK3.out; omega) ?_; intro v5 w5 hown5 hgrow5 _; (have BX : Below w9.heap.size w9 w5 := HK4.out.grown hgrow5 HK4.out.size (fun r e => by have := (HOW.out.lt r e).1; omega)); (have hrb : RdU16C w5 v5 (9 :: l) := u16C_of_own (by rw [List.map_cons]; exact hown5) (by simp; omega)); (have hr1 : RdBytes w5 (.slice (some ⟨w9.heap.size, 0, none⟩) 1 1) [1] := rd_one1 ((hgrow5.block _ (by have := HK3.out; omega) (fun e => by have := (HOW.out.lt _ e.symm).1; omega)).trans HK1.out))) | (go_at_call 10; refine (HMD2.out _ _ _ hr1 hrb _ (Below.refl _ _)).mono ?_; rintro e wM ⟨al, cl, ap, cp, gz, rfl, hbM, hlM, hpM, hzM, hgM⟩; (have hBM : Below w9.heap.size w9 wM := BX.trans (hbM.mono BX.size)); (have hBz := BX.size)))
          go_meet
          exact ta_new hBM hBz hlM hpM hzM hgM (by omega) (by omega) HPN.out rfl
      case rest =>
        obtain ⟨wu, hwu⟩ : ∃ x, x = wc := ⟨_, rfl⟩
        subst hwu
        obtain ⟨g2, cl2, a2, cp2, gz2, X2, B2, rfl, rfl, rfl, rfl, hX, hQ0, hOl, hOp, hIz, ⟨hwB2, hBg2, hgX2, haX2, hBX2⟩, hB⟩ := hcut
        have hQ : wu.heap[X2 + 1]? = some (.cells #[.int .i64 1, .int .i64 20, .int .i64 1, .int .i64 1] 32 (0, 0)) := hQ0
        have hzl2 : (planM ls2 (mail24 l')).length = l'.length := by rw [planM_len]; exact HPN.out
        have hl26 := (right_len HP2.out.right).2
        have HX := Lib.hid hX
        have HQ := Lib.hid hQ
        have HOL := Lib.hid hOl
        have HOP := Lib.hid hOp
        have HIZ := Lib.hid hIz
        have HBU := Lib.hid hB
        have HZ2 := Lib.hid hzl2
        clear hX hQ0 hQ hOl hOp hIz hB hzl2
        go_wp2_with fail
        go_loopw [111] (fun i wr => ∃ (j : Nat) (zz : List Int), j ≤ l'.length ∧ i = .int .i64 j ∧ Below w9.heap.size w9 wr ∧ wr.heap[X2]? = some (.cells #[.int .u8 1, .int .u8 1, .string ⟨#[49, 48, 48, 50, 51]⟩, .slice (some ⟨a2, 0, none⟩) l'.length cp2] 29 (0, 0)) ∧ wr.heap[X2 + 1]? = some (.cells #[.int .i64 1, .int .i64 20, .int .i64 1, .int .i64 1] 32 (0, 0)) ∧ OwnsLv wr B2 (.slice (some ⟨g2, 0, none⟩) ls2.length cl2) ls2 ∧ OwnsP wr B2 (.slice (some ⟨a2, 0, none⟩) l'.length cp2) (mail24 l').ps ∧ IntsAt wr gz2 zz ∧ zz.length = l'.length ∧ ∀ i, i < j → zz.getD i (-1) = (ls2.length : Int) - 1) (fun i _ => l'.length - (intOf i).toNat)
        case atStart => exact ⟨0, planM ls2 (mail24 l'), Nat.zero_le _, rfl, HBU.out, HX.out, HQ.out, HOL.out, HOP.out, HIZ.out, HZ2.out, fun i hi => absurd hi (Nat.not_lt_zero _)⟩
        case round =>
          obtain ⟨j, zz, hj, rfl, hB, hX, hQ, hOl, hOp, hIz, hzz, hzv⟩ := hrel
          by_cases hlt : j < l'.length
          · have z0 := hIz.cell (i := j) (by omega)
            have z0f := hIz.free j
            have HN : Hid (IntsAt (wr.setCell ⟨gz2, j, none⟩ (.int .i64 ((ls2.length : Int) - 1))) gz2 (zz.set j ((ls2.length : Int) - 1))) := hIz.set j _
            have HV : Hid (∀ i, i < j + 1 → (zz.set j ((ls2.length : Int) - 1)).getD i (-1) = (ls2.length : Int) - 1) := by
              intro i hi
              rw [List.getD_eq_getElem?_getD]
              by_cases e : i = j
              · subst e
                rw [List.getElem?_set_self (by omega)]; rfl
              · rw [List.getElem?_set_ne (by omega), ← List.getD_eq_getElem?_getD]
                exact hzv i (by omega)
            have HKL : Hid (OwnsLv (wr.setCell ⟨gz2, j, none⟩ (.int .i64 ((ls2.length : Int) - 1))) B2 (.slice (some ⟨g2, 0, none⟩) ls2.length cl2) ls2) := hOl.grown (gb_setCell wr ⟨gz2, j, none⟩ _) (fun q e cur fr e2 => by injection e with e; rw [← e, hIz] at e2; injection e2 with e2; injection e2 with e3 e4 e5; exact absurd e4 (by decide)) (fun q e cur fr e2 => by injection e with e; rw [← e, hIz] at e2; injection e2 with e2; injection e2 with e3 e4 e5; exact absurd e4 (by decide))
            have HKP := Lib.hid (own_pastT hOp hIz (by decide) j (.int .i64 ((ls2.length : Int) - 1)))
            have HB := Lib.hid hB
            have HX := Lib.hid hX
            have HQ := Lib.hid hQ
            have HZZ : Hid ((zz.set j ((ls2.length : Int) - 1)).length = l'.length) := by
              show _ = _
              rw [List.length_set]; exact hzz
            clear hB hX hQ hOl hOp hIz hzz hzv
            go_wp2_with fail
            go_roundw
            case rel =>
              exact ⟨j + 1, _, by omega, by go_num, HB.out.setCell (by show w9.heap.size ≤ gz2; omega) _, (Below.heap_setCell _ _ _ _ (by show X2 ≠ gz2; omega)).trans HX.out, (Below.heap_setCell _ _ _ _ (by show X2 + 1 ≠ gz2; omega)).trans HQ.out, HKL.out, HKP.out, HN.out, HZZ.out, HV.out⟩
            case measure => simp [intOf]; omega
          · obtain rfl : j = l'.length := by omega
            have hzr : zz = List.replicate l'.length ((ls2.length : Int) - 1) := by
              refine List.ext_getElem (by rw [hzz, List.length_replicate]) (fun i h1 h2 => ?_)
              have := hzv i (by omega)
              rw [List.getD_eq_getElem?_getD, List.getElem?_eq_getElem h1] at this
              rw [List.getElem_replicate]
              exact this
            subst hzr
            have z0 := hIz.cell (i := 0) (by rw [List.length_replicate]; omega)
            have z0f := hIz.free 0
            have hN : IntsAt (wr.setCell ⟨gz2, 0, none⟩ (.int .i64 0)) gz2 (zsT l'.length ls2.length) := hIz.set 0 0
            have hKL : OwnsLv (wr.setCell ⟨gz2, 0, none⟩ (.int .i64 0)) B2 (.slice (some ⟨g2, 0, none⟩) ls2.length cl2) ls2 := hOl.grown (gb_setCell wr ⟨gz2, 0, none⟩ _) (fun q e cur fr e2 => by injection e with e; rw [← e, hIz] at e2; injection e2 with e2; injection e2 with e3 e4 e5; exact absurd e4 (by decide)) (fun q e cur fr e2 => by injection e with e; rw [← e, hIz] at e2; injection e2 with e2; injection e2 with e3 e4 e5; exact absurd e4 (by decide))
            have hKP := own_pastT hOp hIz (by decide) 0 (.int .i64 0)
            have hBs : Below w9.heap.size w9 (wr.setCell ⟨gz2, 0, none⟩ (.int .i64 0)) := hB.setCell (by show w9.heap.size ≤ gz2; omega) _
            have hXs : (wr.setCell ⟨gz2, 0, none⟩ (.int .i64 0)).heap[X2]? = _ := (Below.heap_setCell _ _ _ _ (by show X2 ≠ gz2; omega)).trans hX
            have hQs : (wr.setCell ⟨gz2, 0, none⟩ (.int .i64 0)).heap[X2 + 1]? = _ := (Below.heap_setCell _ _ _ _ (by show X2 + 1 ≠ gz2; omega)).trans hQ
            have hN2 : RdInts (wr.setCell ⟨gz2, 0, none⟩ (.int .i64 0)) (.slice (some ⟨gz2, 0, none⟩) l'.length l'.length) (zsT l'.length ls2.length) := rd_plan hN (zsT_len _ _)
            obtain ⟨wv, hwv⟩ : ∃ wv, wv = wr.setCell ⟨gz2, 0, none⟩ (.int .i64 0) := ⟨_, rfl⟩
            rw [← hwv] at hKL hKP hBs hXs hQs hN2
            have HWV := Lib.hid hwv
            have HXS := Lib.hid hXs
            have HQS := Lib.hid hQs
            have HLV := Lib.hid hKL.reads
            have HPV := Lib.hid (RdPces.of_owns hKP)
            have HZV := Lib.hid hN2
            have HBS := Lib.hid hBs
            have hall : allR ls2 (mail24 l') (zsT l'.length ls2.length) ⟨1, 20, 1, 1⟩ = 2 := by
              have := tw_two_all (k := ⟨1, 20, 1, 1⟩) HP2.out hl22 (by rw [HPN.out]; exact hl1.1) HMIN.out
              rw [HPN.out] at this
              exact this
            have hfew := HP2.out.few
            have HPA : Hid (∀ W v vp vz, RdLevs W v ls2 → RdPces W vp (mail24 l').ps → RdInts W vz (zsT l'.length ls2.length) → Calls Tryz.prog 11 #[v, .agg #[.int .u8 1, .int .u8 1, .string ⟨#[49, 48, 48, 50, 51]⟩, vp], vz, .agg #[.int .i64 1, .int .i64 20, .int .i64 1, .int .i64 1]] W fun e w' => e = .returned (.tuple #[.agg #[.slice none 0 0, .slice none 0 0, .slice none 0 0], .int .i64 2]) ∧ Below W.heap.size W w') := by
              intro W v vp vz h1 h2 h3
              have := pack_no ls2 v vp vz (mail24 l') (zsT l'.length ls2.length) ⟨1, 20, 1, 1⟩ W h1 (right_fits HP2.out.right) (by omega) h2 HP2.out.rng HP2.out.org (by omega) (fun p hp => by have := codeB_size ((mail_parts HP2.out.mail).2 p hp); unfold maxLen; omega) h3 (by rw [zsT_len]; omega) (by rw [hall]; decide)
              rw [hall] at this
              exact this
            have HCA : Hid (∀ W v vp vz, RdLevs W v ls2 → RdPces W vp (mail24 l').ps → RdInts W vz (zsT l'.length ls2.length) → Calls Tryz.prog 13 #[v, .agg #[.int .u8 1, .int .u8 1, .string ⟨#[49, 48, 48, 50, 51]⟩, vp], vz, .agg #[.int .i64 1, .int .i64 20, .int .i64 1, .int .i64 1], .agg #[.slice none 0 0, .slice none 0 0, .slice none 0 0]] W fun e w' => e = .returned (.tuple #[.bool false, .int .i64 2]) ∧ Below W.heap.size W w') := by
              intro W v vp vz h1 h2 h3
              have := check_no ls2 v vp vz noLod (mail24 l') (zsT l'.length ls2.length) ⟨1, 20, 1, 1⟩ W h1 (right_fits HP2.out.right) (by omega) h2 HP2.out.rng HP2.out.org (by omega) (fun p hp => by have := codeB_size ((mail_parts HP2.out.mail).2 p hp); unfold maxLen; omega) h3 (by rw [zsT_len]; omega) ⟨_, _, _, rfl⟩ (by rw [hall]; decide)
              rw [hall] at this
              exact this
            clear hwv hKL hKP hBs hXs hQs hN2 hN hall hfew hB hX hQ hOl hOp hIz hzz hzv hlt hj
            go_upto_region 32 with fail
            rw [← HWV.out]
            clear z0 z0f
            obtain ⟨m0, m1, m2, m3⟩ := cells4 HXS.out
            obtain ⟨q0, q1, q2, q3⟩ := cells4 HQS.out
            go_upto_region 33 with (go_at_call 11; refine (HPA.out _ _ _ _ HLV.out HPV.out HZV.out).mono ?_; rintro e w12 ⟨rfl, hb12⟩)
            obtain ⟨w13, hw13⟩ : ∃ w13, w13 = w12.alloc (.cells #[.slice none 0 0, .slice none 0 0, .slice none 0 0] 39) := ⟨_, rfl⟩
            rw [← hw13]
            have hb123 : Below w12.heap.size w12 w13 := by rw [hw13]; exact (Below.refl _ _).alloc (Nat.le_refl _) _
            have h13 : w13.heap[w12.heap.size]? = some (.cells #[.slice none 0 0, .slice none 0 0, .slice none 0 0] 39 (0, 0)) := by rw [hw13]; exact alloc_new w12 _
            have hb13 : Below wv.heap.size wv w13 := hb12.trans (hb123.mono hb12.size)
            have h13l := (Array.getElem?_eq_some_iff.1 h13).1
            have hx13 := (hb13.block _ (Array.getElem?_eq_some_iff.1 HXS.out).1).trans HXS.out
            have hq13 := (hb13.block _ (Array.getElem?_eq_some_iff.1 HQS.out).1).trans HQS.out
            obtain ⟨T2, hT2⟩ : ∃ T, T = w12.heap.size := ⟨_, rfl⟩
            rw [← hT2] at h13 h13l ⊢
            clear m0 m1 m2 m3 q0 q1 q2 q3 hw13 hb12 hb123 hT2
            obtain ⟨m0, m1, m2, m3⟩ := cells4 hx13
            obtain ⟨q0, q1, q2, q3⟩ := cells4 hq13
            obtain ⟨t0, t1, t2⟩ := cells3 h13
            have HH13 := Lib.hid h13
            have HB13 := Lib.hid hb13
            clear hx13 hq13 h13 hb13
            go_upto_region 34 with (go_at_call 13; refine (HCA.out _ _ _ _ (HLV.out.below HB13.out) (HPV.out.below HB13.out) (HZV.out.below HB13.out)).mono ?_; rintro e w14 ⟨rfl, hb14⟩)
            have hb914 : Below w9.heap.size w9 w14 := (HBS.out.trans (HB13.out.mono HBS.out.size)).trans (hb14.mono (Nat.le_trans HBS.out.size HB13.out.size))
            clear m0 m1 m2 m3 q0 q1 q2 q3 t0 t1 t2
            obtain ⟨t0, t1, t2⟩ := cells3 ((hb14.block _ h13l).trans HH13.out)
            obtain ⟨s0, s1, s2⟩ := cells3 ((hb914.block _ (Array.getElem?_eq_some_iff.1 HH9.out).1).trans HH9.out)
            have HBF := Lib.hid (HB9W.out.trans (hb914.mono HB9W.out.size))
            obtain ⟨p1, hp1⟩ : ∃ p, p = wantP d := ⟨_, rfl⟩
            obtain ⟨p2, hp2⟩ : ∃ p, p = wantC d := ⟨_, rfl⟩
            rw [← hp1, ← hp2]
            clear hp1 hp2 hb14 hb914 h13l
            go_wp2_with fail
            go_ret
            exact ⟨rfl, HBF.out⟩
end Go.Proofs.YtelklmdlodgdpaaGreat
