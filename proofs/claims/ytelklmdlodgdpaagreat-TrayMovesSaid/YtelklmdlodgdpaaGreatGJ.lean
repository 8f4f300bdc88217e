import Derived.Test.YtelklmdlodgdpaaGreatW9
import Derived.Test.YtelklmdlodgdpaaGreatGD
import Derived.Sort.OwnSortedInts
import Derived.Laws.AppendOwnNone
import Derived.Deep.DeepCutAuto
import Derived.Test.YtelklmdlodgdpaaGreatGE
/-! WQ -/
namespace Go.Proofs.YtelklmdlodgdpaaGreat
open Go.RowKit Go.Sort Go.Shelf
set_option linter.unusedVariables false
set_option maxRecDepth 100000
/-! ### Sorting -/
theorem insI_sorted (x : Int) : ∀ l : List Int, l.Pairwise (· ≤ ·) → (insI x l).Pairwise (· ≤ ·)
  | [], _ => by simp [insI]
  | y :: r, h => by
    unfold insI
    obtain ⟨h1, h2⟩ := List.pairwise_cons.1 h
    by_cases e : x ≤ y
    · rw [if_pos e]
      exact List.pairwise_cons.2 ⟨fun z hz => by
        rcases List.mem_cons.1 hz with rfl | hz
        · exact e
        · have := h1 z hz; omega, h⟩
    · rw [if_neg e]
      refine List.pairwise_cons.2 ⟨fun z hz => ?_, insI_sorted x r h2⟩
      rcases List.mem_cons.1 ((insI_perm x r).mem_iff.1 hz) with rfl | hz
      · omega
      · exact h1 z hz
theorem sortI_sorted : ∀ l : List Int, (sortI l).Pairwise (· ≤ ·)
  | [] => List.Pairwise.nil
  | x :: r => insI_sorted x _ (sortI_sorted r)
theorem sorted_unique : ∀ a b : List Int, a.Perm b → a.Pairwise (· ≤ ·) → b.Pairwise (· ≤ ·) → a = b
  | [], b, h, _, _ => (List.nil_perm.1 h).symm ▸ rfl
  | x :: r, b, h, h1, h2 => by
    cases b with
    | nil => exact absurd h.symm (by intro h; have := h.length_eq; simp at this)
    | cons y s =>
      obtain ⟨p1, p2⟩ := List.pairwise_cons.1 h1
      obtain ⟨q1, q2⟩ := List.pairwise_cons.1 h2
      have hx : x ∈ y :: s := h.mem_iff.1 List.mem_cons_self
      have hy : y ∈ x :: r := h.mem_iff.2 List.mem_cons_self
      have e : x = y := by
        rcases List.mem_cons.1 hx with e | hx
        · exact e
        · rcases List.mem_cons.1 hy with e | hy
          · exact e.symm
          · have := q1 x hx
            have := p1 y hy
            omega
      subst e
      rw [sorted_unique r s (List.Perm.cons_inv h) p2 q2]
theorem merge_sortI (l : List Int) : (l.mergeSort fun x y => decide (x ≤ y)) = sortI l := by
  refine sorted_unique _ _ ((List.mergeSort_perm l _).trans (sortI_perm l).symm) ?_ (sortI_sorted l)
  have := List.pairwise_mergeSort (le := fun x y : Int => decide (x ≤ y)) (fun a b c h1 h2 => by simp at h1 h2 ⊢; omega) (fun a b => by simp; omega) l
  exact this.imp (fun h => by simpa using h)
/-- A row that was appended to, sorted. -/
theorem sort_any (g cap base : Nat) (zs : List Int) (w : World) (ho : w.ownsRow base 3 1 (.slice (some ⟨g, 0, none⟩) zs.length cap) zs.length (zs.map (Value.int .i64))) (hl : zs.length ≤ 100000) :
    Calls Tryz.prog 82 #[.slice (some ⟨g, 0, none⟩) zs.length cap] w fun e w' => e = .returned (.tuple #[]) ∧ w.grownBy w' (some g) ∧ RowJ w' base (.slice (some ⟨g, 0, none⟩) (sortI zs).length cap) (sortI zs) := by
  rcases ho.2 with ⟨h0, _⟩ | ⟨g', cap', cur, hv, hg, hn, h1, h2, h3, h4⟩
  · cases h0
  cases hv
  rw [Nat.mul_one] at h4
  have hlt : g < w.heap.size := (Array.getElem?_eq_some_iff.1 hn).1
  refine (Tryz.slices_Sort_int g 0 cap zs w (holds_of_blockI hn h4) hlt (by omega)).mono ?_
  rintro e w' ⟨rfl, n, os, rfl⟩
  rw [merge_sortI]
  have hsl : (sortI zs).length = zs.length := (sortI_perm zs).length_eq
  refine ⟨rfl, grownBy_sortedI _, ?_⟩
  have hw := heap_sortedI (n := n) (os := os) (sortI zs).toArray hn
  refine ⟨_, cap, rfl, fun _ => ⟨g, 0, _, rfl, hg, hw, fun i hi => ?_⟩⟩
  have ht := take_putCellsI cur (sortI zs) (by omega)
  have : ((putCells (Value.int .i64) 0 (sortI zs).toArray cur).toList.take (sortI zs).length)[i]? = ((sortI zs).map (Value.int .i64))[i]? := by rw [ht]
  rw [List.getElem?_take_of_lt hi, List.getElem?_map, List.getElem?_eq_getElem hi, Array.getElem?_toList] at this
  rw [Nat.zero_add]
  exact this
/-! ### The walk -/
/-- A row of numbers that is nil, or lies somewhere. -/
def PassV (w : World) (base : Nat) (v : Value) (zs : List Int) : Prop := RowJ w base v zs ∧ (v = .slice none 0 0 ∨ ∃ b off c, v = .slice (some ⟨b, off, none⟩) zs.length c)
theorem PassV.kept {w w' : World} {base : Nat} {v : Value} {zs : List Int} {row : Option Nat} (h : PassV w base v zs) (hg : w.grownBy w' row) (hne : ∀ g, row = some g → g < base ∨ ∀ cur fr, w.heap[g]? ≠ some (.cells cur 3 fr)) : PassV w' base v zs := ⟨h.1.kept hg hne, h.2⟩
theorem PassV.below {w w' : World} {base : Nat} {v : Value} {zs : List Int} (h : PassV w base v zs) (hb : Below w.heap.size w w') : PassV w' base v zs := ⟨h.1.below hb, h.2⟩
theorem PassV.nil (w : World) (base : Nat) : PassV w base (.slice none 0 0) [] := ⟨RowJ.nil _ _ _ _, .inl rfl⟩
theorem PassV.zero {w : World} {base : Nat} {zs : List Int} (h : PassV w base (.slice none 0 0) zs) : zs = [] := by
  obtain ⟨a, cap, hv, _⟩ := h.1
  injection hv with _ e _
  exact List.length_eq_zero_iff.1 e.symm
theorem RowJ.news {w : World} {base b off n c : Nat} {zs : List Int} (h : RowJ w base (.slice (some ⟨b, off, none⟩) n c) zs) : ∀ j u, (zs.map (Value.int .i64))[j]? = some u → w.cell? ((⟨b, off, none⟩ : Addr).add j) = some u := by
  intro j u hj
  obtain ⟨hjl, hju⟩ := List.getElem?_eq_some_iff.1 hj
  rw [List.length_map] at hjl
  obtain ⟨a, cap, hv, hc⟩ := h
  obtain ⟨g, o, cur, ha, _, hh, hcc⟩ := hc (by omega)
  injection hv with e1 _ _
  rw [← e1] at ha
  injection ha with ha
  injection ha with e2 e3
  subst e2; subst e3
  have ea : (⟨b, off, none⟩ : Addr).add j = ⟨b, off + j, none⟩ := by unfold Addr.add; split <;> simp_all
  rw [ea, cell_of_row w b (off + j) _ _ _ hh, hcc j hjl, ← hju, List.getElem_map]
theorem RdInts.news {w : World} {b off n c : Nat} {zs : List Int} (h : RdInts w (.slice (some ⟨b, off, none⟩) n c) zs) : ∀ j u, (zs.map (Value.int .i64))[j]? = some u → w.cell? ((⟨b, off, none⟩ : Addr).add j) = some u := by
  intro j u hj
  obtain ⟨hjl, hju⟩ := List.getElem?_eq_some_iff.1 hj
  rw [List.length_map] at hjl
  obtain ⟨a, cap, hv, hc⟩ := h
  obtain ⟨g, o, ha, hh, hcc⟩ := hc (by omega)
  injection hv with e1 _ _
  rw [← e1] at ha
  injection ha with ha
  injection ha with e2 e3
  subst e2; subst e3
  have ea : (⟨b, off, none⟩ : Addr).add j = ⟨b, off + j, none⟩ := by unfold Addr.add; split <;> simp_all
  rw [ea, hcc j hjl, ← hju, List.getElem_map]
theorem ints_one (zs : List Int) : ∀ u ∈ zs.map (Value.int .i64), u.oneCell' = true := by
  intro u hu
  obtain ⟨b, _, rfl⟩ := List.mem_map.1 hu
  rfl
theorem fold_len (x : Int) : ∀ (l : List Int) (q : List Int), (l.foldl (fun q i => q.set i.toNat x) q).length = q.length
  | [], q => rfl
  | i :: r, q => by rw [List.foldl_cons, fold_len x r]; simp
theorem planTo_len (gs : List PGrp) (f : Nat → Int) (p : List Int) : ∀ k, (planTo gs f k p).1.length = p.length
  | 0 => rfl
  | k + 1 => by rw [planTo_succ]; dsimp only; rw [fold_len, planTo_len gs f p k]
set_option maxHeartbeats 16000000 in
theorem plan_any (T BB TB PB base : Nat) (v vg : Value) (Gs : List Grp) (tabs : Nat → List Int) (f : Nat → Int) (np : Nat) (pls : List (Int × Int)) (w : World)
    (h : TreeW w T BB TB PB base v vg Gs tabs Gs.length (rowF f Gs.length)) (hF : Forest pls (pOfs Gs)) (hn : Gs.length ≤ 100000) (hnp : np ≤ 100000)
    (hf : ∀ g, g < Gs.length → 0 ≤ f g ∧ f g ≤ ((comeL (pOfs Gs) f g).length : Int)) (hcl : ∀ g, g < Gs.length → (comeL (pOfs Gs) f g).length ≤ 100000)
    (hir : ∀ g, g < Gs.length → ∀ i ∈ comeL (pOfs Gs) f g, 0 ≤ i ∧ i < (np : Int)) :
    Calls Tryz.prog 53 #[.pointer (some ⟨T, 0, none⟩), .int .i64 np] w fun e w' => e = .returned (.slice (some ⟨w.heap.size, 0, none⟩) np np) ∧ Below w.heap.size w w' ∧
      IntsAt w' w.heap.size (planTo (pOfs Gs) f Gs.length (List.replicate np 0)).1 := by
  obtain ⟨l1, l2, l3, l4, l5⟩ := h.lt
  obtain ⟨c0, c1, c2, c3, c4⟩ := h.tr.c
  have hpv := h.pv
  obtain ⟨fB, f1, f2⟩ := h.bl
  have hgr := h.gr
  obtain ⟨ag, cg, rfl, hgr⟩ := hgr
  have HGR := Lib.hid hgr
  have HF2 := Lib.hid f2
  have HF1 := Lib.hid f1
  have HPV := Lib.hid hpv
  have HF := Lib.hid hF
  have HFF := Lib.hid hf
  have HCL := Lib.hid hcl
  have HIR := Lib.hid hir
  obtain ⟨j0, hj⟩ := info_parts Tryz.infoI
  have HJ := Lib.hid hj
  have hmk1 := fun W => run_make_row' (P := Tryz.prog) 30 3 (.int .i64 0) 8 Tryz.underlying30 Tryz.infoI rfl .i64 .i64 np (by omega) (by omega) W
  have hmk2 := fun W => run_make_row' (P := Tryz.prog) 83 30 (.slice none 0 0) 24 Tryz.underlying83 Tryz.infoSl rfl .i64 .i64 Gs.length (by omega) (by omega) W
  clear h hgr f2 f1 hpv hF hf hcl hir hj
  go_enter Tryz.func53, Tryz.ntmps53
  have hTl : T < w.heap.size := by omega
  have hw1 : Below w.heap.size w (w.alloc (.cells (madeCells #[Value.int .i64 0] np) 3)) := (Below.refl _ w).alloc (Nat.le_refl _) _
  have hw2 : Below w.heap.size w ((w.alloc (.cells (madeCells #[Value.int .i64 0] np) 3)).alloc (.cells (madeCells #[Value.slice none 0 0] Gs.length) 30)) := hw1.alloc (by simp) _
  have d1 := (hw1.cell (p := ⟨T, 1, none⟩) hTl).trans c1
  have d2 := (hw2.cell (p := ⟨T, 1, none⟩) hTl).trans c1
  have HM1 : IntsAt ((w.alloc (.cells (madeCells #[Value.int .i64 0] np) 3)).alloc (.cells (madeCells #[Value.slice none 0 0] Gs.length) 30)) w.heap.size (List.replicate np 0) :=
    (Below.heap_alloc _ _ _ (by simp)).trans (made_ints w np)
  have HM2 : ((w.alloc (.cells (madeCells #[Value.int .i64 0] np) 3)).alloc (.cells (madeCells #[Value.slice none 0 0] Gs.length) 30)).rowIs (w.heap.size + 1) 30 Gs.length (fun _ => .slice none 0 0) := by
    have := World.rowIs_made (w.alloc (.cells (madeCells #[Value.int .i64 0] np) 3)) (.slice none 0 0) Gs.length 30
    rw [World.size_alloc] at this
    exact this
  have HM3 := Lib.hid (And.intro HM1 HM2)
  clear HM1 HM2
  go_wp2_with fail
  clear d1 d2 hmk1 hmk2
  go_loopw [28] (fun i wr => ∃ k : Nat, k ≤ Gs.length ∧ i = .int .i64 k ∧ Below w.heap.size w wr ∧ w.heap.size + 2 ≤ wr.heap.size ∧ IntsAt wr w.heap.size (planTo (pOfs Gs) f k (List.replicate np 0)).1 ∧
    ∃ F : Nat → Value, wr.rowIs (w.heap.size + 1) 30 Gs.length F ∧ ∀ j, j < k → PassV wr (w.heap.size + 2) (F j) (passedL (pOfs Gs) f j)) (fun i _ => Gs.length - (intOf i).toNat)
  case atStart =>
    refine ⟨0, Nat.zero_le _, rfl, hw2, by simp, HM3.out.1, _, HM3.out.2, fun j hj => absurd hj (Nat.not_lt_zero _)⟩
  case round =>
    clear hw1 hw2 HM3
    obtain ⟨k, hk, rfl, hB, hz, hI, F, hF1, hF2⟩ := hrel
    obtain ⟨wo, hwo⟩ : ∃ x, x = wr := ⟨_, rfl⟩
    subst hwo
    by_cases hlt : k < Gs.length
    · obtain ⟨gg, og, rfl, hgg, hcg⟩ := HGR.out (by omega)
      obtain ⟨sv, hsv, g0, g1, g2, g3⟩ := hcg k hlt
      have hgp : k < (pOfs Gs).length := by rw [pOfs_len]; exact hlt
      have hga := gsAt_get hlt
      have hps := plan_step HF.out f (List.replicate np 0) hgp
      have hpe := passed_eq HF.out f hgp
      have hsome := HF.out.some_ k hgp
      have hbel := HF.out.below k hgp
      have hff := HFF.out k hlt
      have hcll := HCL.out k hlt
      have hirr := HIR.out k hlt
      have hcd : comeL (pOfs Gs) f k = sortI ((if (gsAt (pOfs Gs) k).lvl = 0 then (gsAt (pOfs Gs) k).items else []) ++ (belowR (pOfs Gs) k).flatMap (passedL (pOfs Gs) f)) := rfl
      have htk : tookL (pOfs Gs) f k = (comeL (pOfs Gs) f k).take ((comeL (pOfs Gs) f k).length - (f k).toNat) := rfl
      rw [htk] at hps
      rw [hga] at hps hsome hcd
      have hsn : ∀ x ∈ belowR (pOfs Gs) k, x < Gs.length := fun x hx => by have := hbel x hx; omega
      obtain ⟨x, hx⟩ : ∃ x, x = Gs[k] := ⟨_, rfl⟩
      rw [← hx] at hsv g0 g1 g2 hps hsome hcd
      obtain ⟨lvl, nm, up, items⟩ := x
      dsimp only [pOf] at hsv g0 g1 g2 g3 hps hsome hcd
      obtain ⟨L, hL⟩ : ∃ L, L = (if lvl = 0 then items else []) ++ (belowR (pOfs Gs) k).flatMap (passedL (pOfs Gs) f) := ⟨_, rfl⟩
      replace hcd : comeL (pOfs Gs) f k = sortI L := by rw [hL]; exact hcd
      rw [hcd] at hps hpe hff hcll hirr
      have hrow := HF2.out k hlt
      have cb := HF1.out.cell hlt
      have hsl : (belowR (pOfs Gs) k).length ≤ 100000 := by
        unfold belowR
        refine Nat.le_trans (List.length_filter_le _ _) ?_
        rw [List.length_range, pOfs_len]; exact hn
      obtain ⟨subs, hS⟩ : ∃ s, s = belowR (pOfs Gs) k := ⟨_, rfl⟩
      rw [← hS] at hrow hL hbel hsn hsl
      obtain ⟨aB, capB, hfb⟩ := hrow.len
      rw [hfb] at cb
      rw [List.length_map] at cb hfb
      obtain ⟨p, hp⟩ : ∃ p : Nat, f k = (p : Int) := ⟨_, (Int.toNat_of_nonneg hff.1).symm⟩
      rw [hp] at hps hpe hff
      rw [Int.toNat_natCast] at hps hpe
      have c5 := HPV.out.cell (i := k) (by rw [rowF_len]; exact hlt)
      rw [rowF_get hlt, hp] at c5
      have e1 : wo.cell? ⟨gg, og + k * 4, none⟩ = some (.int .i64 lvl) := (hB.cell (p := ⟨gg, og + k * 4, none⟩) hgg).trans g0
      have e2 : wo.cell? ⟨gg, og + k * 4 + 1, none⟩ = some (.string nm) := (hB.cell (p := ⟨gg, og + k * 4 + 1, none⟩) hgg).trans g1
      have e3 : wo.cell? ⟨gg, og + k * 4 + 2, none⟩ = some (.int .i64 up) := (hB.cell (p := ⟨gg, og + k * 4 + 2, none⟩) hgg).trans g2
      obtain ⟨ai, ci, rfl, hci⟩ := hsv
      have e4 : wo.cell? ⟨gg, og + k * 4 + 3, none⟩ = some (.slice ai items.length ci) := (hB.cell (p := ⟨gg, og + k * 4 + 3, none⟩) hgg).trans g3
      obtain ⟨X, hX⟩ : ∃ X, X = if lvl = 0 then items else [] := ⟨_, rfl⟩
      rw [← hX] at hL
      have hLl : L.length ≤ 100000 := by have := hcll; rwa [(sortI_perm L).length_eq] at this
      have hLX : L.length = X.length + (subs.flatMap (passedL (pOfs Gs) f)).length := by rw [hL, List.length_append]
      obtain ⟨CG, hCG⟩ : ∃ c, c = Obj.cells #[.int .i64 lvl, .string nm, .int .i64 up, .slice ai items.length ci] 81 (0, 0) := ⟨_, rfl⟩
      have HCGb : Below wo.heap.size wo (wo.alloc CG) := (Below.refl _ wo).alloc (Nat.le_refl _) _
      have HB1 : Below w.heap.size w (wo.alloc CG) := hB.alloc hB.size _
      have hz1 : (wo.alloc CG).heap.size = wo.heap.size + 1 := World.size_alloc _ _
      have q0 : (wo.alloc CG).cell? ⟨wo.heap.size, 0, none⟩ = some (.int .i64 lvl) := by rw [hCG]; exact cell_of_row _ _ 0 _ _ _ (alloc_new wo _)
      have q3 : (wo.alloc CG).cell? ⟨wo.heap.size, 3, none⟩ = some (.slice ai items.length ci) := by rw [hCG]; exact cell_of_row _ _ 3 _ _ _ (alloc_new wo _)
      have hit : RdInts (wo.alloc CG) (.slice ai items.length ci) items := RdInts.below (w := w) ⟨ai, ci, rfl, hci⟩ HB1
      have HX := Lib.hid hX
      have HL := Lib.hid hL
      have HPS := Lib.hid hps
      have HPE := Lib.hid hpe
      have HLX := Lib.hid hLX
      have HIR2 := Lib.hid hirr
      have HROW := Lib.hid hrow
      have HFB := Lib.hid hfb
      have HI := Lib.hid hI
      have HF1' := Lib.hid hF1
      have HF2' := Lib.hid hF2
      have HQ0 := Lib.hid q0
      have HZ1 := Lib.hid hz1
      have HP := Lib.hid hp
      have HSN := Lib.hid hsn
      have HBEL := Lib.hid hbel
      clear hX hL hps hpe hLX hirr hrow hfb hI hF1 hF2 q0 hz1 hp hsn hbel hcd hcll hci hcg g0 g1 g2 g3 hga hS hx htk hgp
      go_upto_if 35 with fail
      rw [← hCG]
      have HCGE := Lib.hid hCG
      clear hCG
      go_cut [9] from 35 to 39 (fun t wx => Below (wo.alloc CG).heap.size (wo.alloc CG) wx ∧ wx.ownsRow (wo.alloc CG).heap.size 3 1 t X.length (X.map (Value.int .i64)))
      case first =>
        by_cases h0 : lvl = 0
        · have hXi : X = items := by rw [HX.out, if_pos h0]
          have hql : (lvl == 0) = true := by simp [h0]
          obtain ⟨ai', ci', hv, hc⟩ := hit
          have hlen0 : 0 < items.length := List.length_pos_iff.2 hsome
          obtain ⟨gi, oi, rfl, hgi, hci⟩ := hc hlen0
          injection hv with q1 q2 q4
          subst q1
          have hnw : ∀ j u, (items.map (Value.int .i64))[j]? = some u → (wo.alloc CG).cell? ((⟨gi, oi, none⟩ : Addr).add j) = some u := RdInts.news (n := items.length) (c := ci) ⟨_, ci, rfl, fun _ => ⟨gi, oi, rfl, hgi, hci⟩⟩
          have HNW := Lib.hid hnw
          have HXI := Lib.hid hXi
          have hli : items.length ≤ 100000 := by have := HLX.out; rw [hXi] at this; omega
          clear hnw hXi hci hc q2 q4 h0
          go_wp2_with (at_builtin; refine wpList_append_own _ rfl _ _ 30 rfl (wo.alloc CG).heap.size 3 j0 (.int .i64 0) 1 8 Tryz.underlying30 HJ.out.1 HJ.out.2.1 HJ.out.2.2.1 HJ.out.2.2.2 rfl (by decide) _ _ _ rfl (World.ownsRow_nil _ _ _ _) ⟨gi, oi, none⟩ items.length ci (items.map (Value.int .i64)) rfl (by simp) HNW.out (ints_one items) (by unfold maxLen; omega) (by omega) (Nat.le_refl _) ?_; intro v' w5 hown' hgrow _)
          all_goals go_meet
          case rel =>
            rw [Nat.zero_add, List.nil_append] at hown'
            rw [HXI.out]
            exact ⟨(Below.refl _ _).grown hgrow (Nat.le_refl _) (fun r e => by cases e), hown'⟩
        · have hXi : X = [] := by rw [HX.out, if_neg h0]
          have hql : (lvl == 0) = false := by simp [h0]
          have HXI := Lib.hid hXi
          clear hXi
          go_wp2_with fail
          all_goals go_meet
          case rel =>
            rw [HXI.out]
            exact ⟨Below.refl _ _, World.ownsRow_nil _ _ _ _⟩
      case rest =>
        obtain ⟨hbc, hown⟩ := hcut
        have hBc : Below w.heap.size w wc := below_c HB1 HB1.size hbc
        have b2 := (hBc.cell (p := ⟨T, 2, none⟩) hTl).trans c2
        have bb := (hBc.cell (p := ⟨BB, k, none⟩) (by show BB < _; omega)).trans cb
        have hAl : ∀ j, j ≤ subs.length → X.length + ((subs.take j).flatMap (passedL (pOfs Gs) f)).length ≤ L.length := fun j hj => by
          rw [HLX.out]
          conv => rhs; rw [← List.take_append_drop j subs, List.flatMap_append, List.length_append]
          omega
        have HAL := Lib.hid hAl
        clear hAl hit q3
        go_wp2_with fail
        go_loopw [9, 48] (fun v i wq => ∃ j : Nat, j ≤ subs.length ∧ i = .int .i64 j ∧ Below (wo.alloc CG).heap.size (wo.alloc CG) wq ∧
          wq.ownsRow (wo.alloc CG).heap.size 3 1 v (X ++ (subs.take j).flatMap (passedL (pOfs Gs) f)).length ((X ++ (subs.take j).flatMap (passedL (pOfs Gs) f)).map (Value.int .i64))) (fun _ i _ => subs.length - (intOf i).toNat)
        case atStart => exact ⟨0, Nat.zero_le _, rfl, hbc, by simpa using hown⟩
        case round =>
          clear hbc hown hBc b2 bb
          obtain ⟨j, hj, rfl, hBq, hO⟩ := hrel
          have hBw : Below w.heap.size w wr := below_c HB1 HB1.size hBq
          have hz1 := HZ1.out
          by_cases hltj : j < subs.length
          · have hsk := HBEL.out _ (List.getElem_mem hltj)
            have hsn := HSN.out _ (List.getElem_mem hltj)
            have hal := HAL.out (j + 1) hltj
            have hxt : X ++ (subs.take (j + 1)).flatMap (passedL (pOfs Gs) f) = (X ++ (subs.take j).flatMap (passedL (pOfs Gs) f)) ++ passedL (pOfs Gs) f subs[j] := by
              rw [List.take_succ_eq_append_getElem hltj, List.flatMap_append, List.append_assoc]; simp
            have hlen : (X ++ (subs.take (j + 1)).flatMap (passedL (pOfs Gs) f)).length = X.length + ((subs.take (j + 1)).flatMap (passedL (pOfs Gs) f)).length := List.length_append
            obtain ⟨s, hs⟩ : ∃ s, s = subs[j] := ⟨_, rfl⟩
            have hrw := HROW.out.below hBw
            rw [HFB.out] at hrw
            obtain ⟨aB', capB', hvB, hcB⟩ := hrw
            injection hvB with q1 q2 q3
            subst q1
            clear q2 q3
            obtain ⟨gb, ob, curb, rfl, hbb, hhb, hcb2⟩ := hcB (by rw [List.length_map]; omega)
            have e1 : wr.cell? ⟨gb, ob + j, none⟩ = some (.int .i64 (subs[j] : Int)) := by
              rw [cell_of_row wr gb (ob + j) _ _ _ hhb, hcb2 j (by rw [List.length_map]; exact hltj), List.getElem_map]; rfl
            rw [← hs] at hsk hsn hxt e1
            have e2 : wr.cell? ⟨w.heap.size + 1, s, none⟩ = some (F s) := (hBq.cell (p := ⟨w.heap.size + 1, s, none⟩) (by show w.heap.size + 1 < _; omega)).trans ((HCGb.cell (p := ⟨w.heap.size + 1, s, none⟩) (by show w.heap.size + 1 < _; omega)).trans (HF1'.out.cell hsn))
            have hpv := ((HF2'.out s hsk).below HCGb).below hBq
            rw [hxt, List.length_append] at hlen
            obtain ⟨A, hA⟩ : ∃ A, A = X ++ (subs.take j).flatMap (passedL (pOfs Gs) f) := ⟨_, rfl⟩
            obtain ⟨zs, hzs⟩ : ∃ z, z = passedL (pOfs Gs) f s := ⟨_, rfl⟩
            rw [← hA] at hxt hO hlen
            rw [← hzs] at hxt hpv hlen
            have HXT := Lib.hid hxt
            have HO := Lib.hid hO
            have hszq := hBq.size
            have hbz : A.length + zs.length ≤ 100000 := by omega
            clear hxt hO hA hzs hs hcb2 hhb hcB hlen hal
            rcases hpv with ⟨hrj, hsh | ⟨bs, os, cs, hsh⟩⟩
            · rw [hsh] at e2 hrj
              have hz0 : zs = [] := PassV.zero (base := w.heap.size + 2) ⟨hrj, .inl rfl⟩
              have HZ0 := Lib.hid hz0
              clear hz0 hsh hrj
              go_wp2_with (at_builtin; refine wpList_append_own_none rfl _ _ 30 rfl (wo.alloc CG).heap.size 3 j0 1 Tryz.underlying30 HJ.out.1 _ _ _ rfl HO.out rfl ?_)
              go_roundw
              case rel =>
                refine ⟨j + 1, by omega, by go_num, hBq, ?_⟩
                rw [HXT.out, HZ0.out, List.append_nil]
                exact HO.out
              case measure => simp [intOf]; omega
            · rw [hsh] at e2 hrj
              have hnw := RowJ.news hrj
              have HNW := Lib.hid hnw
              clear hsh hrj hnw
              go_wp2_with (at_builtin; refine wpList_append_own _ rfl _ _ 30 rfl (wo.alloc CG).heap.size 3 j0 (.int .i64 0) 1 8 Tryz.underlying30 HJ.out.1 HJ.out.2.1 HJ.out.2.2.1 HJ.out.2.2.2 rfl (by decide) _ _ _ rfl HO.out ⟨bs, os, none⟩ zs.length cs (zs.map (Value.int .i64)) rfl (by simp) HNW.out (ints_one zs) (by unfold maxLen; omega) (by omega) hszq ?_; intro v' w5 hown' hgrow _)
              go_roundw
              case rel =>
                refine ⟨j + 1, by omega, by go_num, hBq.grown hgrow hszq (fun r e => (HO.out.lt r e).1), ?_⟩
                rw [HXT.out, List.length_append, List.map_append]
                exact hown'
              case measure => simp [intOf]; omega
          · obtain rfl : j = subs.length := by omega
            rw [List.take_length, ← HL.out] at hO
            have b4 := (hBw.cell (p := ⟨T, 4, none⟩) hTl).trans c4
            have b5 := (hBw.cell (p := ⟨PB, k, none⟩) (by show PB < _; omega)).trans c5
            have hszq := hBq.size
            have r0 := (hBq.cell (p := ⟨wo.heap.size, 0, none⟩) (by show wo.heap.size < _; omega)).trans HQ0.out
            have hpl : p ≤ L.length := by have := hff.2; rw [(sortI_perm L).length_eq] at this; omega
            have hIq : IntsAt wr w.heap.size (planTo (pOfs Gs) f k (List.replicate np 0)).1 := (HI.out.below HCGb (by omega)).below hBq (by omega)
            have hF1q : wr.rowIs (w.heap.size + 1) 30 Gs.length F := rowIs_below (rowIs_below HF1'.out HCGb (by omega)) hBq (by omega)
            have hF2q : ∀ j, j < k → PassV wr (w.heap.size + 2) (F j) (passedL (pOfs Gs) f j) := fun j hj => ((HF2'.out j hj).below HCGb).below hBq
            have HIQ := Lib.hid hIq
            have HF1Q := Lib.hid hF1q
            have HF2Q := Lib.hid hF2q
            clear hIq hF1q hF2q
            rcases Joins.ownsRow_forms hO with ⟨rfl, hpn⟩ | ⟨g2, cap2, rfl⟩
            · have hL0 : L = [] := List.length_eq_zero_iff.1 hpn
              obtain rfl : p = 0 := by omega
              have HL0 := Lib.hid hL0
              have HPN := Lib.hid hpn
              have HHO := Lib.hid hO
              rw [hL0] at hpl
              clear hpn hL0 hpl hO
              go_wp2_with (go_at_call 82; refine (Tryz.slices_Sort_int_none none 0 wr).mono ?_; rintro e w5 ⟨rfl, h5⟩; obtain rfl : wr = w5 := h5.symm)
              go_loopw [75] (fun i wq => ∃ j : Nat, j ≤ 0 ∧ i = .int .i64 j ∧ wr = wq) (fun i _ => 0)
              case atStart => exact ⟨0, Nat.le_refl _, rfl, by first | rfl | trivial⟩
              case round =>
                obtain ⟨j, hj, rfl, hW⟩ := hrel
                subst hW
                obtain rfl : j = 0 := by omega
                have hF1q := HF1Q.out
                have e1 := hF1q.cell hlt
                have e2 := hF1q.frozen k
                clear hF1q
                go_wp2_with fail
                go_roundw
                case rel =>
                  have hs0 : sortI L = [] := by rw [HL0.out]; rfl
                  refine ⟨k + 1, by omega, by go_num, hBw.setCell (p := ⟨w.heap.size + 1, k, none⟩) (Nat.le_succ _) _, by simp [World.setCell]; omega, ?_, _, HF1Q.out.set k _, fun j hj => ?_⟩
                  · rw [HPS.out, hs0]
                    exact HIQ.out.setOther (by show w.heap.size ≠ w.heap.size + 1; omega) _
                  · by_cases e : j = k
                    · subst e
                      rw [if_pos rfl, HPE.out, hs0]
                      exact PassV.nil _ _
                    · rw [if_neg e]
                      exact (HF2Q.out j (by omega)).kept (gb_setCell _ _ _) (fun g e => .inl (by cases e; exact Nat.lt_succ_self _))
                case measure => simp [intOf]; omega
            · have hcap : L.length ≤ cap2 := by
                rcases hO.2 with ⟨h0, _⟩ | ⟨g', cap', cur, hv, _, _, h1, _, _, _⟩
                · cases h0
                · cases hv; exact h1
              have hg2 := (hO.lt g2 rfl).1
              have hg2' := (hO.lt g2 rfl).2
              obtain ⟨tk, htk⟩ : ∃ tk : Nat, (L.length : Int) - (p : Int) = (tk : Int) := ⟨L.length - p, by omega⟩
              have htl : tk ≤ L.length := by omega
              have htk2 : L.length - p = tk := by omega
              have HTK := Lib.hid htk2
              have HO := Lib.hid hO
              have hkk : ∀ w5, wr.grownBy w5 (some g2) → w5.cell? ⟨T, 4, none⟩ = some (.slice (some ⟨PB, 0, none⟩) Gs.length Gs.length) ∧ w5.cell? ⟨PB, k, none⟩ = some (.int .i64 p) ∧ w5.cell? ⟨wo.heap.size, 0, none⟩ = some (.int .i64 lvl) := fun w5 hg =>
                ⟨hg.cell b4 (by show some T ≠ some g2; intro e; injection e; omega), hg.cell b5 (by show some PB ≠ some g2; intro e; injection e; omega), hg.cell r0 (by show some wo.heap.size ≠ some g2; intro e; injection e; omega)⟩
              have HKK := Lib.hid hkk
              clear hO hkk b4 b5 r0 htk2
              go_wp2_with (go_at_call 82; refine (sort_any g2 cap2 _ L wr HO.out hLl).mono ?_; rintro e w5 ⟨rfl, hg5, hr5⟩; obtain ⟨b4, b5, r0⟩ := HKK.out w5 hg5)
              have hIw : IntsAt w5 w.heap.size (planTo (pOfs Gs) f k (List.replicate np 0)).1 := (hg5.block w.heap.size (by omega) (by intro e; injection e; omega)).trans HIQ.out
              have hF1w : w5.rowIs (w.heap.size + 1) 30 Gs.length F := HF1Q.out.of_block (hg5.block _ (by omega) (by intro e; injection e; omega))
              have hF2w : ∀ j, j < k → PassV w5 (w.heap.size + 2) (F j) (passedL (pOfs Gs) f j) := fun j hj => by
                have h1 := HF2'.out j hj
                have hg : (wo.alloc CG).grownBy w5 none := ⟨hg5.os.trans hBq.os, hg5.tape.trans hBq.tape, hg5.output.trans hBq.output, Nat.le_trans hBq.size hg5.size, fun i hi _ => (hg5.block i (by omega) (by intro e; injection e; omega)).trans (hBq.block i hi)⟩
                exact (h1.below HCGb).kept hg (fun g e => by cases e)
              have hB5 : Below w.heap.size w w5 := hBw.grown hg5 hBw.size (fun r e => by cases e; omega)
              have hslen : (sortI L).length = L.length := (sortI_perm L).length_eq
              have hplen : (planTo (pOfs Gs) f k (List.replicate np 0)).1.length = np := by rw [planTo_len]; simp
              have h5z := hg5.size
              have HF1W := Lib.hid hF1w
              have HF2W := Lib.hid hF2w
              have HR5 := Lib.hid hr5
              have HB5 := Lib.hid hB5
              have HIW := Lib.hid hIw
              have HSL := Lib.hid hslen
              have HR0 := Lib.hid r0
              obtain ⟨st, hst⟩ : ∃ z, z = (planTo (pOfs Gs) f k (List.replicate np 0)).1 := ⟨_, rfl⟩
              have HST := Lib.hid hst
              rw [← hst] at HIW hplen
              have HPLN := Lib.hid hplen
              clear hF1w hF2w hr5 hB5 hIw hslen r0 hst hplen b4 b5 hg5
              go_loopw [75] (fun i wq => ∃ j : Nat, j ≤ tk ∧ i = .int .i64 j ∧ w5.grownBy wq (some w.heap.size) ∧ IntsAt wq w.heap.size (((sortI L).take j).foldl (fun q i => q.set i.toNat lvl) st)) (fun i _ => tk - (intOf i).toNat)
              case atStart => exact ⟨0, Nat.zero_le _, rfl, gb_of_below _ (Below.refl _ _), HIW.out⟩
              case round =>
                obtain ⟨wp, hwp⟩ : ∃ x, x = wr := ⟨_, rfl⟩
                subst hwp
                obtain ⟨j, hj, rfl, hG, hIj⟩ := hrel
                have hwz := hG.size
                by_cases hltj : j < tk
                · have hjs : j < (sortI L).length := by rw [HSL.out]; omega
                  obtain ⟨z0, z1⟩ := HIR2.out _ (List.getElem_mem hjs)
                  obtain ⟨ar, cr, hvr, hcr⟩ := HR5.out
                  obtain ⟨gr, or_, cur, har, hbr, hhr, hcc⟩ := hcr (by omega)
                  injection hvr with r1 r2 r3
                  rw [← r1] at har
                  injection har with har
                  injection har with r4 r5
                  subst r4; subst r5
                  have e1 : wp.cell? ⟨g2, j, none⟩ = some (.int .i64 (sortI L)[j]) := hG.cell (by rw [cell_of_row w5 g2 j _ _ _ hhr]; have := hcc j hjs; rwa [Nat.zero_add] at this) (by show some g2 ≠ some w.heap.size; intro e; injection e; omega)
                  have e2 := hG.cell HR0.out (by show some wo.heap.size ≠ some w.heap.size; intro e; injection e; omega)
                  have htk : (sortI L).take (j + 1) = (sortI L).take j ++ [(sortI L)[j]] := List.take_succ_eq_append_getElem hjs
                  obtain ⟨z, hz⟩ : ∃ z : Nat, (sortI L)[j] = (z : Int) := ⟨_, (Int.toNat_of_nonneg z0).symm⟩
                  rw [hz] at e1 z1 htk
                  have hzn : z < np := by omega
                  have hln := fold_len lvl ((sortI L).take j) st
                  rw [HPLN.out] at hln
                  have e3 := hIj.cell (i := z) (by omega)
                  have e4 := hIj.free z
                  have HTKE := Lib.hid htk
                  have HIJ := Lib.hid hIj
                  have HGH := Lib.hid hG
                  clear htk hz hcc hhr hcr r1 r2 r3 hln hIj
                  go_wp2_with fail
                  go_roundw
                  case rel =>
                    refine ⟨j + 1, by omega, by go_num, gb_then HGH.out (gb_setCell _ _ _) (fun r e => .inl (by cases e; rfl)), ?_⟩
                    rw [HTKE.out, List.foldl_append]
                    have := HIJ.out.set z lvl
                    simpa using this
                  case measure => simp [intOf]; omega
                · obtain rfl : j = tk := by omega
                  have hF1w := HF1W.out.of_block (hG.block (w.heap.size + 1) (by omega) (by intro e; injection e; omega))
                  have e1 := hF1w.cell hlt
                  have e2 := hF1w.frozen k
                  have HF1X := Lib.hid hF1w
                  have HIJ := Lib.hid hIj
                  have HGH := Lib.hid hG
                  clear hF1w hIj
                  go_wp2_with fail
                  go_roundw
                  case rel =>
                    have hpv : PassV wp (w.heap.size + 2) (.slice (if cap2 = j then some ⟨g2, 0, none⟩ else some ⟨g2, j, none⟩) (L.length - j) (cap2 - j)) (passedL (pOfs Gs) f k) := by
                      rw [HPE.out, HSL.out, HTK.out]
                      have hr := ((HR5.out.mono (base' := w.heap.size + 2) (by omega)).kept HGH.out (fun g e => .inl (by cases e; omega)))
                      have hd := RowJ.drop hr (k := j) (cap' := cap2 - j) (by rw [HSL.out]; exact htl)
                      rw [Nat.zero_add, HSL.out] at hd
                      have hdl : ((sortI L).drop j).length = L.length - j := by rw [List.length_drop, HSL.out]
                      by_cases hc : cap2 = j
                      · rw [if_pos hc]
                        have h0 : (sortI L).drop j = [] := List.length_eq_zero_iff.1 (by omega)
                        rw [h0, show L.length - j = 0 by omega]
                        exact ⟨RowJ.nil _ _ _ _, .inr ⟨g2, 0, _, rfl⟩⟩
                      · rw [if_neg hc]
                        exact ⟨hd, .inr ⟨g2, j, _, by rw [hdl]⟩⟩
                    refine ⟨k + 1, by omega, by go_num, ?_, ?_, ?_, _, HF1X.out.set k _, fun i hi => ?_⟩
                    · exact (HB5.out.grown HGH.out (by omega) (fun r e => by cases e; exact Nat.le_refl _)).setCell (p := ⟨w.heap.size + 1, k, none⟩) (Nat.le_succ _) _
                    · simp [World.setCell]; omega
                    · rw [HPS.out, HSL.out, HTK.out, ← HST.out]
                      exact HIJ.out.setOther (by show w.heap.size ≠ w.heap.size + 1; omega) _
                    · by_cases e : i = k
                      · subst e
                        rw [if_pos rfl]
                        exact hpv.kept (gb_setCell _ _ _) (fun g e => .inl (by cases e; exact Nat.lt_succ_self _))
                      · rw [if_neg e]
                        exact ((HF2W.out i (by omega)).kept HGH.out (fun g e => .inl (by cases e; omega))).kept (gb_setCell _ _ _) (fun g e => .inl (by cases e; exact Nat.lt_succ_self _))
                  case measure => simp [intOf]; omega
    · obtain rfl : k = Gs.length := by omega
      have HI := Lib.hid hI
      clear hI hF1 hF2
      go_wp2_with fail
      go_ret
      exact ⟨rfl, hB, HI.out⟩
end Go.Proofs.YtelklmdlodgdpaaGreat

/-! WR -/
namespace Go.Proofs.YtelklmdlodgdpaaGreat
open Go.RowKit Go.Sort Go.Shelf
set_option linter.unusedVariables false
set_option maxRecDepth 100000
/-! ### Plain -/
theorem pass_range {ls : List (Int × Int)} {gs : List PGrp} (hF : Forest ls gs) (hM : ∀ g, g < gs.length → 0 < (gsAt gs g).lvl → MOk (subTabs ls gs g)) : ∀ k, k ≤ gs.length → ∀ h, h < gs.length → 0 ≤ passTo ls gs (tabsTo ls gs gs.length) k h ∧ passTo ls gs (tabsTo ls gs gs.length) k h < ((tabOf ls gs h).length : Int)
  | 0, _, h, hh => by
    show 0 ≤ (0 : Int) ∧ (0 : Int) < _
    have := (tab_good hF h hh).2
    omega
  | k + 1, hk, h, hh => by
    rw [passTo_sub]
    unfold subF
    rw [List.take_length]
    by_cases hm : h ∈ belowR gs (gs.length - 1 - k)
    · obtain ⟨i, hi, rfl⟩ := List.mem_iff_getElem.1 hm
      rw [idx_some (below_nodup _ _) hi]
      dsimp only
      have hg : gs.length - 1 - k < gs.length := by omega
      have hs := hF.sub _ hg _ hm
      have hl := (hF.lvl _ hh).1
      have e : (belowR gs (gs.length - 1 - k)).map (fun h => (tabsTo ls gs gs.length).getD h []) = subTabs ls gs (gs.length - 1 - k) := rfl
      rw [e]
      have hlt : i < (subTabs ls gs (gs.length - 1 - k)).length := by unfold subTabs; rw [List.length_map]; exact hi
      have := divP_lt (mn := (lvOf ls gs (gs.length - 1 - k)).1) (cents := (lvOf ls gs (gs.length - 1 - k)).2) (P := passTo ls gs (tabsTo ls gs gs.length) k (gs.length - 1 - k)) (most := ((tabsTo ls gs gs.length).getD (gs.length - 1 - k) []).getD (passTo ls gs (tabsTo ls gs gs.length) k (gs.length - 1 - k)).toNat (-1)) (hM _ hg (by omega)) hlt
      have e2 : (belowR gs (gs.length - 1 - k)).getD i 0 = (belowR gs (gs.length - 1 - k))[i] := by rw [List.getD_eq_getElem?_getD, List.getElem?_eq_getElem hi]; rfl
      rw [subTab_at hi, e2] at this
      exact ⟨Int.natCast_nonneg _, Int.ofNat_lt.2 this⟩
    · rw [idx_none hm]
      exact pass_range hF hM k (by omega) h hh
theorem sum_le {l : List Nat} {f g : Nat → Nat} (h : ∀ x ∈ l, f x ≤ g x) : (l.map f).sum ≤ (l.map g).sum := by
  induction l with
  | nil => exact Nat.le_refl _
  | cons a r ih =>
    simp only [List.map_cons, List.sum_cons]
    have := h a List.mem_cons_self
    have := ih (fun x hx => h x (List.mem_cons_of_mem _ hx))
    omega
theorem qN_le {ls : List (Int × Int)} {gs : List PGrp} (hF : Forest ls gs) (hc : ∀ l ∈ ls, l.2 ≤ 1000000) (hp : ∀ g, g < gs.length → PassOk ls gs g) {g : Nat} (hg : g < gs.length) : qN ls gs g ≤ (gsAt gs g).items.length := by
  unfold qN
  by_cases h0 : (gsAt gs g).lvl = 0
  · rw [if_pos h0]; exact Nat.le_refl _
  · rw [if_neg h0, ← sub_items hF hg (by have := (hF.lvl g hg).1; omega)]
    refine sum_le (fun x hx => ?_)
    have hlt := hF.below g hg x hx
    have h1 := ent_lt (hp x (by omega)).poss
    have h2 := (tab_tb hF hc x (by omega)).l2
    omega
/-- The groups right below each group, of the first k. -/
def belTo (gs : List PGrp) (k u : Nat) : List Int := ((List.range k).filter (fun h => decide ((gsAt gs h).up = (u : Int)))).map Int.ofNat
theorem belTo_end (gs : List PGrp) (u : Nat) : belTo gs gs.length u = (belowR gs u).map Int.ofNat := rfl
theorem belTo_succ (gs : List PGrp) (k u : Nat) : belTo gs (k + 1) u = if (gsAt gs k).up = (u : Int) then belTo gs k u ++ [(k : Int)] else belTo gs k u := by
  unfold belTo
  rw [List.range_succ, List.filter_append, List.map_append]
  by_cases e : (gsAt gs k).up = (u : Int)
  · rw [if_pos e, List.filter_cons_of_pos (by simpa using e), List.filter_nil]; rfl
  · rw [if_neg e, List.filter_cons_of_neg (by simpa using e), List.filter_nil, List.map_nil, List.append_nil]
theorem belTo_len (gs : List PGrp) (k u : Nat) : (belTo gs k u).length ≤ k := by
  unfold belTo
  rw [List.length_map]
  have := List.length_filter_le (fun h => decide ((gsAt gs h).up = (u : Int))) (List.range k)
  rwa [List.length_range] at this
/-! ### In memory -/
theorem RowJ.of_rowI {w : World} {base : Nat} {v : Value} {zs : List Int} (h : w.ownsRow base 3 1 v zs.length (zs.map (Value.int .i64))) : RowJ w base v zs := by
  obtain ⟨h1, h2 | ⟨g, cap, cur, hv, hb, hg, _, _, _, ht⟩⟩ := h
  · obtain rfl := List.length_eq_zero_iff.1 h2.2
    rw [h2.1]
    exact RowJ.nil _ _ _ _
  · refine ⟨_, cap, hv, fun _ => ⟨g, 0, cur, rfl, hb, hg, fun i hi => ?_⟩⟩
    rw [Nat.mul_one] at ht
    have : (cur.toList.take zs.length)[i]? = (zs.map (Value.int .i64))[i]? := by rw [ht]
    rw [List.getElem?_take_of_lt hi, List.getElem?_map, List.getElem?_eq_getElem hi, Array.getElem?_toList] at this
    rw [Nat.zero_add]; exact this
/-- Rows of the call's own that do not share memory. -/
structure BelF (w : World) (base BB n : Nat) (G : Nat → List Int) (F : Nat → Value) : Prop where
  row : w.rowIs BB 30 n F
  own : ∀ u, u < n → w.ownsRow base 3 1 (F u) (G u).length ((G u).map (Value.int .i64))
  apart : ∀ u, u < n → ∀ u', u' < n → u ≠ u' → ∀ b, (F u).ownBlock = some b → (F u').ownBlock ≠ some b
theorem BelF.below {w w' : World} {base BB n : Nat} {G : Nat → List Int} {F : Nat → Value} (h : BelF w base BB n G F) (hb : Below w.heap.size w w') : BelF w' base BB n G F :=
  ⟨rowIs_below h.row hb h.row.lt, fun u hu => (h.own u hu).kept (grown_none hb) (by
    cases (F u).ownBlock with
    | none => exact .inl rfl
    | some b => exact .inr (by simp)), h.apart⟩
theorem ownB_lt {w : World} {base : Nat} {v : Value} {zs : List Value} {n : Nat} (h : w.ownsRow base 3 1 v n zs) {b : Nat} (hb : v.ownBlock = some b) : base ≤ b ∧ b < w.heap.size := h.lt b hb
/-- One row is made longer, and put back. -/
theorem BelF.put {w w1 : World} {base BB n : Nat} {G : Nat → List Int} {F : Nat → Value} (h : BelF w base BB n G F) {u : Nat} (hu : u < n) (x : Int) (hBB : BB < base) {gg cap : Nat}
    (hown : w1.ownsRow base 3 1 (.slice (some ⟨gg, 0, none⟩) ((G u).length + 1) cap) ((G u).length + 1) ((G u).map (Value.int .i64) ++ [.int .i64 x])) (hg : w.grownBy w1 (F u).ownBlock) (hat : (F u).ownBlock = some gg ∨ w.heap.size ≤ gg) :
    BelF (w1.setCell ⟨BB, u, none⟩ (.slice (some ⟨gg, 0, none⟩) ((G u).length + 1) cap)) base BB n (fun i => if i = u then G u ++ [x] else G i) (fun i => if i = u then .slice (some ⟨gg, 0, none⟩) ((G u).length + 1) cap else F i) := by
  have hrow : w1.rowIs BB 30 n F := h.row.of_block (hg.block BB h.row.lt (fun e => by
    have := (ownB_lt (h.own u hu) e.symm).1
    omega))
  have hkeep : ∀ i, i < n → i ≠ u → w1.ownsRow base 3 1 (F i) (G i).length ((G i).map (Value.int .i64)) := fun i hi hne => (h.own i hi).kept hg (by
    cases hb : (F i).ownBlock with
    | none => exact .inl rfl
    | some b =>
      refine .inr (fun e => ?_)
      exact h.apart i hi u hu hne b hb e.symm)
  have hset : ∀ {v : Value} {k : Nat} {zs : List Value}, w1.ownsRow base 3 1 v k zs → (w1.setCell ⟨BB, u, none⟩ (.slice (some ⟨gg, 0, none⟩) ((G u).length + 1) cap)).ownsRow base 3 1 v k zs := fun {v k zs} ho => ho.kept (gb_setCell _ _ _) (by
    cases hb : v.ownBlock with
    | none => exact .inl rfl
    | some b =>
      refine .inr (fun e => ?_)
      injection e with e
      have := (ho.lt b hb).1
      have : b = BB := e
      omega)
  refine ⟨hrow.set u _, fun i hi => ?_, fun i hi j hj hij b hb => ?_⟩
  · try dsimp only
    by_cases e : i = u
    · subst e
      rw [if_pos rfl, if_pos rfl]
      have := hset hown
      rw [List.length_append, List.map_append]
      exact this
    · rw [if_neg e, if_neg e]
      exact hset (hkeep i hi e)
  · try dsimp only at hb
    try dsimp only
    by_cases e : i = u
    · subst e
      rw [if_pos rfl] at hb
      rw [if_neg (fun h => hij h.symm)]
      intro hc
      have hgb : gg = b := by injection hb
      subst hgb
      rcases hat with h1 | h1
      · exact h.apart i hi j hj hij gg h1 hc
      · have := (ownB_lt (h.own j hj) hc).2
        omega
    · rw [if_neg e] at hb
      by_cases e2 : j = u
      · subst e2
        rw [if_pos rfl]
        intro hc
        have hgb : gg = b := by injection hc
        subst hgb
        rcases hat with h1 | h1
        · exact h.apart i hi j hj hij gg hb h1
        · have := (ownB_lt (h.own i hi) hb).2
          omega
      · rw [if_neg e2]
        exact h.apart i hi j hj hij b hb
theorem BelF.nil {w : World} {base BB n : Nat} (h : w.rowIs BB 30 n (fun _ => .slice none 0 0)) : BelF w base BB n (fun _ => []) (fun _ => .slice none 0 0) :=
  ⟨h, fun u _ => World.ownsRow_nil _ _ _ _, fun u _ u' _ _ b hb => by cases hb⟩
/-- A table is put into the tree. -/
theorem TreeW.put {w : World} {T BB TB PB base : Nat} {v vg : Value} {Gs : List Grp} {tabs : Nat → List Int} {m : Nat} {ps : List Int} (h : TreeW w T BB TB PB base v vg Gs tabs m ps) (hm : m < Gs.length) {val : Value} (hv : RowJ w base val (tabs m)) (hgr : RdGrps (w.setCell ⟨TB, m, none⟩ val) vg Gs) :
    TreeW (w.setCell ⟨TB, m, none⟩ val) T BB TB PB base v vg Gs tabs (m + 1) ps := by
  obtain ⟨l1, l2, l3, l4, l5⟩ := h.lt
  obtain ⟨n1, n2, n3, n4, n5, n6⟩ := h.ne
  obtain ⟨fB, f1, f2⟩ := h.bl
  obtain ⟨fT, k1, k2⟩ := h.tb
  have hk : ∀ {u : Value} {zs : List Int}, RowJ w base u zs → RowJ (w.setCell ⟨TB, m, none⟩ val) base u zs := fun {u zs} hr => hr.kept (gb_setCell _ _ _) (fun g e => .inl (by injection e with e; subst e; exact l3))
  refine ⟨(Below.heap_setCell _ _ _ _ n2).trans h.tr, ⟨fB, f1.setOther n4 _, fun g hg => hk (f2 g hg)⟩, ⟨_, k1.set m val, fun g hg => ?_⟩, h.pv.setOther (fun e => n6 e.symm) _, h.pl, ⟨l1, l2, l3, l4, by simpa [World.setCell] using l5⟩, h.ne, hgr⟩
  by_cases e : g = m
  · subst e
    rw [if_pos rfl]
    exact hk hv
  · rw [if_neg e]
    exact hk (k2 g (by omega))
/-- The numbers that are passed on are new. -/
theorem TreeW.pass {w w' : World} {T BB TB PB base : Nat} {v vg : Value} {Gs : List Grp} {tabs : Nat → List Int} {m : Nat} {ps ps' : List Int} (h : TreeW w T BB TB PB base v vg Gs tabs m ps) (hg : w.grownBy w' (some PB)) (hp : IntsAt w' PB ps') (hl : ps'.length = Gs.length) (hgr : RdGrps w' vg Gs) :
    TreeW w' T BB TB PB base v vg Gs tabs m ps' := by
  obtain ⟨l1, l2, l3, l4, l5⟩ := h.lt
  obtain ⟨n1, n2, n3, n4, n5, n6⟩ := h.ne
  obtain ⟨fB, f1, f2⟩ := h.bl
  obtain ⟨fT, k1, k2⟩ := h.tb
  have hk : ∀ {u : Value} {zs : List Int}, RowJ w base u zs → RowJ w' base u zs := fun {u zs} hr => hr.kept hg (fun g e => .inl (by injection e with e; subst e; exact l4))
  exact ⟨(hg.block T (by omega) (fun e => n3 (by injection e))).trans h.tr, ⟨fB, f1.of_block (hg.block BB (by omega) (fun e => n5 (by injection e))), fun g hg => hk (f2 g hg)⟩, ⟨fT, k1.of_block (hg.block TB (by omega) (fun e => n6 (by injection e))), fun g hg => hk (k2 g hg)⟩,
    hp, hl, ⟨l1, l2, l3, l4, Nat.le_trans l5 hg.size⟩, h.ne, hgr⟩
theorem mail_codes {m : Mai} (h : mailB m = true) : (codesM m.ps).length ≤ 2000 ∧ ∀ c ∈ codesM m.ps, codeB c = true := by
  unfold mailB at h
  simp only [Bool.and_eq_true, decide_eq_true_eq] at h
  have hp : ∀ (l : List Pce) (b : Int), pcsB b l = true → ∀ p ∈ l, codeB p.code = true := by
    intro l
    induction l with
    | nil => intro b _ p hp; cases hp
    | cons q r ih =>
      intro b hb p hp
      unfold pcsB at hb
      rw [Bool.and_eq_true] at hb
      rcases List.mem_cons.1 hp with rfl | hp
      · have h1 := hb.1
        unfold pcB at h1
        simp only [Bool.and_eq_true] at h1
        exact h1.2.1
      · exact ih _ hb.2 p hp
  refine ⟨by unfold codesM; rw [List.length_map]; exact h.2.2.1, fun c hc => ?_⟩
  unfold codesM at hc
  obtain ⟨p, hp', rfl⟩ := List.mem_map.1 hc
  exact hp _ _ h.2.2.2 p hp'
end Go.Proofs.YtelklmdlodgdpaaGreat
