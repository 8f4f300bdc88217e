/-
  Contract of the closure of Made.
-/
import Derived.Test.YtdahgfopighhlaaSM
namespace Go.Proofs.Ytdahgfopighhlaa
open Go.RowKit
set_option linter.unusedVariables false
set_option maxRecDepth 100000
theorem cells_newN (W : World) (n : Nat) (hn : n = W.heap.size) (cs : List Value) (T : TypeId) : ∀ j u, cs[j]? = some u → (W.alloc (.cells cs.toArray T)).cell? ((⟨n, 0, none⟩ : Addr).add j) = some u := by subst hn; exact cells_new W cs T
theorem getD_lt {l : List UInt8} {k : Nat} (h : k < l.length) : l.getD k 0 = l[k] := by rw [List.getD_eq_getElem?_getD, List.getElem?_eq_getElem h]; rfl
theorem getD_ge {l : List UInt8} {k : Nat} (h : ¬ k < l.length) : l.getD k 0 = 0 := by rw [List.getD_eq_getElem?_getD, List.getElem?_eq_none (by omega)]; rfl
theorem byte_of {w W : World} {v : Value} {a : Option Addr} {n cap : Nat} {bs : List UInt8} (h : RdBytes w v bs) (hv : v = .slice a n cap) (hb : Below w.heap.size w W) {k : Nat} (hk : k < bs.length) : ∃ g off, a = some ⟨g, off, none⟩ ∧ g < W.heap.size ∧ W.cell? ⟨g, off + k, none⟩ = some (.int .u8 (bs[k].toNat : Int)) := by
  obtain ⟨a', cap', rfl, hc⟩ := h
  injection hv with h1 h2 h3
  subst h1
  obtain ⟨g, off, ha, hg, hcc⟩ := hc (by omega)
  exact ⟨g, off, ha, Nat.lt_of_lt_of_le hg hb.size, (hb.cell (p := ⟨g, off + k, none⟩) hg).trans (hcc k hk)⟩
theorem blk2 {W : World} {b : Nat} {o x y : Obj} (h : W.heap[b]? = some o) : ((W.alloc x).alloc y).heap[b]? = some o := by
  have hb : Below W.heap.size W ((W.alloc x).alloc y) := ((Below.refl _ W).alloc (Nat.le_refl _) _).alloc (by simp) _
  exact (hb.block b (Array.getElem?_eq_some_iff.1 h).1).trans h
set_option maxHeartbeats 8000000 in
theorem made1_any (l : Lev) (sv vl vc : Value) (least cents : List UInt8) (out : List Lev) (w wx : World) (hrl : RdBytes w vl least) (hrc : RdBytes w vc cents) (hll : least.length ≤ maxLen) (hcl : cents.length ≤ maxLen) (hM : MR w vl vc out wx) (hsv : OwnsLab wx (w.heap.size + 3) sv l.labs) (hc0 : l.cents = 0) (ho3 : out.length ≤ 10) (hx : w.heap.size + 3 ≤ wx.heap.size) :
    Calls Try.prog 23 #[lvA l sv, .pointer (some ⟨w.heap.size + 2, 0, none⟩), .pointer (some ⟨w.heap.size, 0, none⟩), .pointer (some ⟨w.heap.size + 1, 0, none⟩)] wx fun e w' => e = .returned (.tuple #[]) ∧ MR w vl vc (addL least cents out l) w' ∧ wx.heap.size ≤ w'.heap.size := by
  unfold maxLen at hll hcl
  obtain ⟨h1, h2, h3, v, h4, L, hL, hLr, hLo⟩ := hM
  have hLl : L.length = out.length := by rw [← hL, List.length_map]
  rw [hLl] at hLo
  obtain ⟨a, cap, rfl⟩ : ∃ a cap, v = .slice a out.length cap := by
    rcases Joins.ownsRow_forms hLo with ⟨rfl, hp⟩ | ⟨g, cap, rfl⟩
    · exact ⟨none, 0, by rw [hp]⟩
    · exact ⟨_, cap, rfl⟩
  obtain ⟨sa, sc, rfl⟩ := OwnsLab.form hsv
  have HRL := Lib.hid hrl
  have HRC := Lib.hid hrc
  obtain ⟨la, lc, rfl, _⟩ := hrl
  obtain ⟨ca, cc, rfl, _⟩ := hrc
  have x0 := cell_of_one h2
  have x1 := cell_of_one h3
  have x2 := cell_of_one h4
  obtain ⟨i0, hi⟩ := info_parts Try.infoL
  have HI := Lib.hid hi
  have H1 := Lib.hid h1
  have H2 := Lib.hid h2
  have H3 := Lib.hid h3
  have H4 := Lib.hid h4
  have HL := Lib.hid hL
  have HLL := Lib.hid hLl
  have HLR := Lib.hid hLr
  have HSV := Lib.hid hsv
  have HFIN : Hid (∀ m c : Int, m = 1 + ((least.getD out.length 0).toNat : Int) → c = ((cents.getD out.length 0).toNat : Int) → ∀ W, MR w (.slice la least.length lc) (.slice ca cents.length cc) (out ++ [{ l with min := m, cents := c }]) W → MR w (.slice la least.length lc) (.slice ca cents.length cc) (addL least cents out l) W) := fun m c hm hc W h => by subst hm hc; exact h
  clear hi h1 h2 h3 h4 hL hLr hsv hLl
  have hx2 : w.heap.size + 2 < wx.heap.size := by omega
  have hx1 : w.heap.size + 1 < wx.heap.size := by omega
  have hx0 : w.heap.size < wx.heap.size := by omega
  unfold lvA
  rw [hc0]
  by_cases k1 : out.length < least.length <;> by_cases k2 : out.length < cents.length
  · obtain ⟨g1, o1, rfl, gg1, c1⟩ := byte_of HRL.out rfl H1.out k1
    obtain ⟨g2, o2, rfl, gg2, c2⟩ := byte_of HRC.out rfl H1.out k2
    have e1 := Lib.hid (getD_lt k1)
    have bb1 : (least[out.length].toNat : Int) ≤ 255 := by have := least[out.length].toNat_lt; omega
    have bb2 : 0 ≤ (least[out.length].toNat : Int) := by omega
    have e2 := Lib.hid (getD_lt k2)
    have bb3 : (cents[out.length].toNat : Int) ≤ 255 := by have := cents[out.length].toNat_lt; omega
    have bb4 : 0 ≤ (cents[out.length].toNat : Int) := by omega
    go_enter Try.func23, Try.ntmps23
    go_wp2_with (at_builtin; refine wpList_append_own _ rfl _ _ 25 rfl (w.heap.size + 3) 45 i0 (.agg #[.string ⟨#[]⟩, .int .i64 0, .slice none 0 0, .int .i64 0, .int .i64 0]) 5 64 Try.underlying25 HI.out.1 HI.out.2.1 HI.out.2.2.1 HI.out.2.2.2 rfl (by decide) _ _ _ rfl ((hLo.alloc _).alloc _) ⟨wx.heap.size + 1, 0, none⟩ 1 1 (lCell ({ l with min := 1 + (least[out.length].toNat : Int), cents := (cents[out.length].toNat : Int) }, .slice sa l.labs.length sc)) rfl rfl (cells_newN _ _ (by simp) _ _) (by simp [Value.oneCell', lCell]) (by unfold maxLen; omega) (by omega) (by simp; omega) ?_; intro v' w2 hown' hgrow _; obtain ⟨gv, cv, rfl⟩ := Joins.ownsRow_form hown' (by omega); obtain ⟨hMR, hc, hfz⟩ := MR_add (L := L) (l := { l with min := 1 + (least[out.length].toNat : Int), cents := (cents[out.length].toNat : Int) }) (h1 := by exact (H1.out.alloc H1.out.size _).alloc (by simp; omega) _) (h2 := by exact blk2 H2.out) (h3 := by exact blk2 H3.out) (h4 := by exact blk2 H4.out) (hL := HL.out) (hLr := by exact fun p hp => ((HLR.out p hp).alloc _).alloc _) (hLo := by rw [HLL.out]; exact (hLo.alloc _).alloc _) (hsv := by exact (HSV.out.alloc _).alloc _) (hg := hgrow) (ho := by rw [HLL.out]; exact hown'); have HMR := Lib.hid hMR; have hgs := hgrow.size; clear hMR)
    go_end0
    exact ⟨rfl, HFIN.out _ _ (by rw [e1.out]) (by rw [e2.out]) _ HMR.out, by simp at hgs ⊢; omega⟩
  · obtain ⟨g1, o1, rfl, gg1, c1⟩ := byte_of HRL.out rfl H1.out k1
    have e1 := Lib.hid (getD_lt k1)
    have bb1 : (least[out.length].toNat : Int) ≤ 255 := by have := least[out.length].toNat_lt; omega
    have bb2 : 0 ≤ (least[out.length].toNat : Int) := by omega
    have e2 := Lib.hid (getD_ge k2)
    go_enter Try.func23, Try.ntmps23
    go_wp2_with (at_builtin; refine wpList_append_own _ rfl _ _ 25 rfl (w.heap.size + 3) 45 i0 (.agg #[.string ⟨#[]⟩, .int .i64 0, .slice none 0 0, .int .i64 0, .int .i64 0]) 5 64 Try.underlying25 HI.out.1 HI.out.2.1 HI.out.2.2.1 HI.out.2.2.2 rfl (by decide) _ _ _ rfl ((hLo.alloc _).alloc _) ⟨wx.heap.size + 1, 0, none⟩ 1 1 (lCell ({ l with min := 1 + (least[out.length].toNat : Int), cents := 0 }, .slice sa l.labs.length sc)) rfl rfl (cells_newN _ _ (by simp) _ _) (by simp [Value.oneCell', lCell]) (by unfold maxLen; omega) (by omega) (by simp; omega) ?_; intro v' w2 hown' hgrow _; obtain ⟨gv, cv, rfl⟩ := Joins.ownsRow_form hown' (by omega); obtain ⟨hMR, hc, hfz⟩ := MR_add (L := L) (l := { l with min := 1 + (least[out.length].toNat : Int), cents := 0 }) (h1 := by exact (H1.out.alloc H1.out.size _).alloc (by simp; omega) _) (h2 := by exact blk2 H2.out) (h3 := by exact blk2 H3.out) (h4 := by exact blk2 H4.out) (hL := HL.out) (hLr := by exact fun p hp => ((HLR.out p hp).alloc _).alloc _) (hLo := by rw [HLL.out]; exact (hLo.alloc _).alloc _) (hsv := by exact (HSV.out.alloc _).alloc _) (hg := hgrow) (ho := by rw [HLL.out]; exact hown'); have HMR := Lib.hid hMR; have hgs := hgrow.size; clear hMR)
    go_end0
    exact ⟨rfl, HFIN.out _ _ (by rw [e1.out]) (by rw [e2.out]; rfl) _ HMR.out, by simp at hgs ⊢; omega⟩
  · obtain ⟨g2, o2, rfl, gg2, c2⟩ := byte_of HRC.out rfl H1.out k2
    have e1 := Lib.hid (getD_ge k1)
    have e2 := Lib.hid (getD_lt k2)
    have bb3 : (cents[out.length].toNat : Int) ≤ 255 := by have := cents[out.length].toNat_lt; omega
    have bb4 : 0 ≤ (cents[out.length].toNat : Int) := by omega
    go_enter Try.func23, Try.ntmps23
    go_wp2_with (at_builtin; refine wpList_append_own _ rfl _ _ 25 rfl (w.heap.size + 3) 45 i0 (.agg #[.string ⟨#[]⟩, .int .i64 0, .slice none 0 0, .int .i64 0, .int .i64 0]) 5 64 Try.underlying25 HI.out.1 HI.out.2.1 HI.out.2.2.1 HI.out.2.2.2 rfl (by decide) _ _ _ rfl ((hLo.alloc _).alloc _) ⟨wx.heap.size + 1, 0, none⟩ 1 1 (lCell ({ l with min := 1, cents := (cents[out.length].toNat : Int) }, .slice sa l.labs.length sc)) rfl rfl (cells_newN _ _ (by simp) _ _) (by simp [Value.oneCell', lCell]) (by unfold maxLen; omega) (by omega) (by simp; omega) ?_; intro v' w2 hown' hgrow _; obtain ⟨gv, cv, rfl⟩ := Joins.ownsRow_form hown' (by omega); obtain ⟨hMR, hc, hfz⟩ := MR_add (L := L) (l := { l with min := 1, cents := (cents[out.length].toNat : Int) }) (h1 := by exact (H1.out.alloc H1.out.size _).alloc (by simp; omega) _) (h2 := by exact blk2 H2.out) (h3 := by exact blk2 H3.out) (h4 := by exact blk2 H4.out) (hL := HL.out) (hLr := by exact fun p hp => ((HLR.out p hp).alloc _).alloc _) (hLo := by rw [HLL.out]; exact (hLo.alloc _).alloc _) (hsv := by exact (HSV.out.alloc _).alloc _) (hg := hgrow) (ho := by rw [HLL.out]; exact hown'); have HMR := Lib.hid hMR; have hgs := hgrow.size; clear hMR)
    go_end0
    exact ⟨rfl, HFIN.out _ _ (by rw [e1.out]; rfl) (by rw [e2.out]) _ HMR.out, by simp at hgs ⊢; omega⟩
  · have e1 := Lib.hid (getD_ge k1)
    have e2 := Lib.hid (getD_ge k2)
    go_enter Try.func23, Try.ntmps23
    go_wp2_with (at_builtin; refine wpList_append_own _ rfl _ _ 25 rfl (w.heap.size + 3) 45 i0 (.agg #[.string ⟨#[]⟩, .int .i64 0, .slice none 0 0, .int .i64 0, .int .i64 0]) 5 64 Try.underlying25 HI.out.1 HI.out.2.1 HI.out.2.2.1 HI.out.2.2.2 rfl (by decide) _ _ _ rfl ((hLo.alloc _).alloc _) ⟨wx.heap.size + 1, 0, none⟩ 1 1 (lCell ({ l with min := 1, cents := 0 }, .slice sa l.labs.length sc)) rfl rfl (cells_newN _ _ (by simp) _ _) (by simp [Value.oneCell', lCell]) (by unfold maxLen; omega) (by omega) (by simp; omega) ?_; intro v' w2 hown' hgrow _; obtain ⟨gv, cv, rfl⟩ := Joins.ownsRow_form hown' (by omega); obtain ⟨hMR, hc, hfz⟩ := MR_add (L := L) (l := { l with min := 1, cents := 0 }) (h1 := by exact (H1.out.alloc H1.out.size _).alloc (by simp; omega) _) (h2 := by exact blk2 H2.out) (h3 := by exact blk2 H3.out) (h4 := by exact blk2 H4.out) (hL := HL.out) (hLr := by exact fun p hp => ((HLR.out p hp).alloc _).alloc _) (hLo := by rw [HLL.out]; exact (hLo.alloc _).alloc _) (hsv := by exact (HSV.out.alloc _).alloc _) (hg := hgrow) (ho := by rw [HLL.out]; exact hown'); have HMR := Lib.hid hMR; have hgs := hgrow.size; clear hMR)
    go_end0
    exact ⟨rfl, HFIN.out _ _ (by rw [e1.out]; rfl) (by rw [e2.out]; rfl) _ HMR.out, by simp at hgs ⊢; omega⟩
end Go.Proofs.Ytdahgfopighhlaa
