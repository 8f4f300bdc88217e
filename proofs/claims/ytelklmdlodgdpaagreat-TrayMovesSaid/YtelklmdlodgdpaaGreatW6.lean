/-
  (*tree).table.
-/
import Derived.Test.YtelklmdlodgdpaaGreatGF
import Derived.Test.YtelklmdlodgdpaaGreatGD
import Derived.BigQuiet
import Derived.StillTailTactics
namespace Go.Proofs.YtelklmdlodgdpaaGreat
open Go.RowKit Go.Sort Go.Shelf Go.IntWalk
set_option linter.unusedVariables false
set_option maxRecDepth 100000
theorem saver_range {mn cents p c : Int} (h0 : 0 ≤ cents ∧ cents ≤ 1000000) (hp : 0 ≤ p) (hc : c ≤ 1000000) : -1 ≤ saverR mn cents p c ∧ saverR mn cents p c ≤ 1000000000000 := by
  unfold saverR
  split
  · omega
  · have h1 : 0 ≤ (c - p) * cents := Int.mul_nonneg (by omega) h0.1
    have h2 : (c - p) * cents ≤ 1000000 * 1000000 := Int.mul_le_mul (by omega) h0.2 h0.1 (by omega)
    omega
/-- The table, of which the first p cells are found. -/
def rowsTo (C : List Int) (mn cents : Int) (p : Nat) : List Int := (List.range p).map (fun q => cellTo C mn cents q (C.length - q)) ++ List.replicate (C.length - p) (-1)
theorem rowsTo_len (C : List Int) (mn cents : Int) {p : Nat} (h : p ≤ C.length) : (rowsTo C mn cents p).length = C.length := by unfold rowsTo; simp; omega
theorem rowsTo_zero (C : List Int) (mn cents : Int) : rowsTo C mn cents 0 = List.replicate C.length (-1) := by unfold rowsTo; simp
theorem rep_cons {n p : Nat} (h : p < n) : List.replicate (n - p) (-1 : Int) = -1 :: List.replicate (n - (p + 1)) (-1) := by
  rw [show n - p = (n - (p + 1)) + 1 by omega, List.replicate_succ]
theorem rowsTo_set (C : List Int) (mn cents : Int) {p : Nat} (h : p < C.length) : (rowsTo C mn cents p).set p (cellTo C mn cents p (C.length - p)) = rowsTo C mn cents (p + 1) := by
  unfold rowsTo
  rw [List.set_append_right _ _ (by simp), List.length_map, List.length_range, Nat.sub_self, List.range_succ, List.map_append, List.append_assoc]
  congr 1
  rw [rep_cons h]
  simp
theorem rowsTo_start (C : List Int) (mn cents : Int) {p : Nat} (h : p < C.length) : (rowsTo C mn cents p).set p (cellTo C mn cents p 0) = rowsTo C mn cents p := by
  have e : cellTo C mn cents p 0 = -1 := by unfold cellTo; simp
  rw [e]
  unfold rowsTo
  rw [List.set_append_right _ _ (by simp), List.length_map, List.length_range, Nat.sub_self]
  congr 1
  rw [rep_cons h]
  simp
theorem rowsTo_table (C : List Int) (mn cents : Int) (last : Bool) (h : 0 < C.length) : (rowsTo C mn cents (if last then 1 else C.length)).take (if last then 1 else C.length) = tableR C last mn cents := by
  have h1 : (if last then 1 else C.length) ≤ C.length := by split <;> omega
  unfold rowsTo tableR
  rw [List.take_append_of_le_length (by simp), List.take_of_length_le (by simp)]
theorem SavAt.of_blocks {w w' : World} {X Y : Nat} {p m c : Int} (h : SavAt w X Y p m c) (hX : w'.heap[X]? = w.heap[X]?) (hY : w'.heap[Y]? = w.heap[Y]?) : SavAt w' X Y p m c :=
  ⟨(World.cell?_of_block (w := w) hX).trans h.1, (World.cell?_of_block (w := w) hY).trans h.2.1, (World.cell?_of_block (w := w) hY).trans h.2.2⟩
theorem SavAt.set {w : World} {X Y : Nat} {p m c : Int} (h : SavAt w X Y p m c) {a : Addr} (hX : X ≠ a.block) (hY : Y ≠ a.block) (v : Value) : SavAt (w.setCell a v) X Y p m c :=
  h.of_blocks (Below.heap_setCell _ _ _ _ hX) (Below.heap_setCell _ _ _ _ hY)
theorem SavAt.new (w : World) (l : Lev) (sv : Value) (p : Int) : SavAt ((w.alloc (boxL l sv)).alloc (.cells #[.int .i64 p] 3)) (w.heap.size + 1) w.heap.size p l.min l.cents := by
  have e : (w.alloc (boxL l sv)).heap.size = w.heap.size + 1 := by simp
  have h1 : ((w.alloc (boxL l sv)).alloc (.cells #[.int .i64 p] 3)).heap[w.heap.size]? = some (boxL l sv) := (((Below.refl _ (w.alloc (boxL l sv))).alloc (Nat.le_refl _) _).block w.heap.size (by omega)).trans (alloc_new _ _)
  have h2 : ((w.alloc (boxL l sv)).alloc (.cells #[.int .i64 p] 3)).heap[w.heap.size + 1]? = some (.cells #[.int .i64 p] 3) := by rw [← e]; exact alloc_new _ _
  obtain ⟨x0, x1, x2, x3, x4⟩ := box_of h1
  exact ⟨cell_of_row _ _ 0 _ _ _ h2, x3, x4⟩
set_option maxHeartbeats 16000000 in
theorem table_main (T BB TB PB base : Nat) (v vg : Value) (Gs : List Grp) (tabs : Nat → List Int) (m : Nat) (ps : List Int) (g : Nat) (ls : List Lev) (lv : Nat) (C : List Int) (w : World) (h : TreeW w T BB TB PB base v vg Gs tabs m ps) (hg : g < Gs.length)
    (hr : RdLevs w v ls) (hlv : lv < ls.length) (hle : Gs[g].lvl = (lv : Int)) (hl6 : ls.length ≤ 1000) (hcents : 0 ≤ ls[lv].cents ∧ ls[lv].cents ≤ 1000000)
    (hC : 1 ≤ C.length ∧ C.length ≤ 5000) (hCb : ∀ x ∈ C, -1 ≤ x ∧ x ≤ 1000000000000)
    (hcome : ∀ W, Below w.heap.size w W → Calls Tryz.prog 75 #[.pointer (some ⟨T, 0, none⟩), .int .i64 g] W fun e w' => ∃ a cap, e = .returned (.slice a C.length cap) ∧ Below W.heap.size W w' ∧ RowJ w' base (.slice a C.length cap) C) :
    Calls Tryz.prog 51 #[.pointer (some ⟨T, 0, none⟩), .int .i64 g] w fun e w' => ∃ a cap, e = .returned (.slice a (tableR C (decide (lv + 1 = ls.length)) ls[lv].min ls[lv].cents).length cap) ∧ Below w.heap.size w w' ∧
      RowJ w' base (.slice a (tableR C (decide (lv + 1 = ls.length)) ls[lv].min ls[lv].cents).length cap) (tableR C (decide (lv + 1 = ls.length)) ls[lv].min ls[lv].cents) := by
  obtain ⟨l1, l2, l3, l4, l5⟩ := h.lt
  obtain ⟨c0, c1, c2, c3, c4⟩ := h.tr.c
  obtain ⟨ag, cg, rfl, hgr⟩ := h.gr
  obtain ⟨gg, og, rfl, hgg, hcg⟩ := hgr (by omega)
  obtain ⟨gsv, hgsv, g0, g1, g2, g3⟩ := hcg g hg
  rw [hle] at g0
  obtain ⟨al, cl, rfl, hlr⟩ := hr
  obtain ⟨gl, ol, rfl, hgl, hcl⟩ := hlr (by omega)
  obtain ⟨lsv, hlsv, hat⟩ := hcl lv hlv
  obtain ⟨ai, ci, rfl, _⟩ := hgsv
  obtain ⟨al', cl', rfl, _⟩ := hlsv
  obtain ⟨l, hl⟩ : ∃ l, l = ls[lv] := ⟨_, rfl⟩
  rw [← hl] at hat hcents ⊢
  have HRT := Lib.hid (rowsTo_table C l.min l.cents (decide (lv + 1 = ls.length)) (by omega))
  obtain ⟨R, hR⟩ : ∃ R, R = tableR C (decide (lv + 1 = ls.length)) l.min l.cents := ⟨_, rfl⟩
  rw [← hR] at HRT ⊢
  clear hR
  obtain ⟨n1, hn1⟩ : ∃ n, n = Gs[g].items.length := ⟨_, rfl⟩
  obtain ⟨n2, hn2⟩ : ∃ n, n = l.labs.length := ⟨_, rfl⟩
  rw [← hn1] at g3
  rw [← hn2] at hat
  obtain ⟨nm, hnm⟩ : ∃ n, n = Gs[g].name := ⟨_, rfl⟩
  obtain ⟨up, hup⟩ : ∃ n, n = Gs[g].up := ⟨_, rfl⟩
  rw [← hnm] at g1
  rw [← hup] at g2
  have HCOME := Lib.hid hcome
  have HCB := Lib.hid hCb
  clear hgr hcg hlr hcl hl hn1 hnm hup hcome hCb c2 c3 c4 h
  obtain ⟨w1, hw1⟩ : ∃ w1 : World, w1 = w.alloc (.cells #[.int .i64 lv, .string nm, .int .i64 up, .slice ai n1 ci] 81) := ⟨_, rfl⟩
  go_enter Tryz.func51, Tryz.ntmps51
  go_wp2_with (first
    | (go_at_call 75; refine (HCOME.out _ ((Below.refl _ w).alloc (Nat.le_refl _) _)).mono ?_; rintro e w2 ⟨ac, cc, rfl, hb2, hrow2⟩)
    | (go_at_call 76; refine (repeat_any (-1) C.length w2.heap.size 0 1 _ (by omega) (by simp [go_sem]) (by simp)).mono ?_; rintro e w3 ⟨gr, rfl, hgr3, hI3, hb3⟩))
  have hB2 : Below w.heap.size w w2 := below_ac (Below.refl _ w) (Nat.le_refl _) hb2
  have hz2 : w.heap.size + 1 ≤ w2.heap.size := by have := hb2.size; simp at this; exact this
  have hB3 : Below w2.heap.size w2 w3 := below_ac (Below.refl _ w2) (Nat.le_refl _) hb3
  have t0 : w2.cell? ⟨T, 0, none⟩ = some (.slice (some ⟨gl, ol, none⟩) ls.length cl) := (hB2.cell (p := ⟨T, 0, none⟩) (by show T < _; omega)).trans c0
  have bx : w2.cell? ⟨w.heap.size, 0, none⟩ = some (.int .i64 lv) := (hb2.cell (p := ⟨w.heap.size, 0, none⟩) (by simp)).trans (cell_of_row _ _ 0 _ _ _ (alloc_new w _))
  have lat := hat.below hB2 hgl
  have hgl2 : gl < w2.heap.size := Nat.lt_of_lt_of_le hgl hB2.size
  have hrd := hrow2.rd
  obtain ⟨ac', cc', hvv, hcc⟩ := hrd
  have q1 : ac = ac' := by injection hvv
  subst q1
  obtain ⟨ga, oa, rfl, hga, hca⟩ := hcc (by omega)
  have HCA := Lib.hid hca
  have hgr2 : w2.heap.size < gr := by simp at hgr3; omega
  have I0 : IntsAt w3 gr (rowsTo C l.min l.cents 0) := by rw [rowsTo_zero]; exact hI3
  have hT2 : T < w2.heap.size := by omega
  have HSV : Hid (∀ (p : Int) (W : World), Calls Tryz.prog 77 #[.agg #[.string l.name, .int .i64 l.pre, .slice al' n2 cl', .int .i64 l.min, .int .i64 l.cents], .int .i64 p] W fun e w' => e = .returned (.func (.func 96) #[] #[.pointer (some ⟨W.heap.size + 1, 0, none⟩), .pointer (some ⟨W.heap.size, 0, none⟩)]) ∧
      Below W.heap.size W w' ∧ SavAt w' (W.heap.size + 1) W.heap.size p l.min l.cents ∧ w'.heap.size = W.heap.size + 2) := fun p W => by
    refine (saver_any l (.slice al' n2 cl') p W).mono ?_
    rintro e w' ⟨rfl, rfl⟩
    exact ⟨rfl, ((Below.refl _ W).alloc (Nat.le_refl _) _).alloc (by simp) _, SavAt.new _ _ _ _, by simp⟩
  clear hn2 hb2 hb3 hrow2 hvv hcc hca hgr3 hI3 c0 c1 g0 g1 g2 g3 hat HCOME hw1 hgl hgg
  by_cases hlast : lv + 1 = ls.length
  · have hC1 := hC.1
    have hq : ((lv : Int) == (ls.length : Int) - 1) = true := by simp; omega
    have u0 := (hB3.cell (p := ⟨T, 0, none⟩) hT2).trans t0
    have ub := (hB3.cell (p := ⟨w.heap.size, 0, none⟩) (by show w.heap.size < _; omega)).trans bx
    go_quiet (fail)
    clear u0 ub
    have hr1 : (rowsTo C l.min l.cents 1).take 1 = R := by have h := HRT.out; simpa [hlast] using h
    have HR1 := Lib.hid hr1
    have hK1 : 1 ≤ C.length := by omega
    clear hr1 HRT
    go_wp2_with fail
    go_loopw [39] (fun i wr => ∃ p : Nat, p ≤ 1 ∧ i = .int .i64 p ∧ Below w2.heap.size w2 wr ∧ IntsAt wr gr (rowsTo C l.min l.cents p)) (fun i _ => 1 - (intOf i).toNat)
    case atStart => exact ⟨0, Nat.zero_le _, rfl, below_drewN hB3 _, I0⟩
    case round =>
      clear hB3 I0
      obtain ⟨p, hp, rfl, hB, hI⟩ := hrel
      by_cases hlt : p < 1
      · have u0 := (hB.cell (p := ⟨T, 0, none⟩) hT2).trans t0
        have ub := (hB.cell (p := ⟨w.heap.size, 0, none⟩) (by show w.heap.size < _; omega)).trans bx
        obtain ⟨y0, y1, y2, y3, y4⟩ := lat.below hB hgl2
        have hgw := hI.lt
        go_wp2_with fail
        go_still_tail 9, (by kernel_rfl)
        change wpList _ _ _ _ _ wr.drew
        go_wp2_with (go_at_call 77; refine (HSV.out _ _).mono ?_; rintro e w6 ⟨rfl, hb5, hs5, hz5⟩)
        all_goals
          have hB6 : Below w2.heap.size w2 w6 := below_c hB.drew hB.drew.size hb5
          have hI6 : IntsAt w6 gr ((rowsTo C l.min l.cents p).set p (cellTo C l.min l.cents p 0)) := by rw [rowsTo_start C l.min l.cents (by omega)]; exact (hb5.block gr hgw).trans hI
          have hsx : SavAt w6 (wr.heap.size + 1) wr.heap.size p l.min l.cents := hs5
          have hLP := rowsTo_len C l.min l.cents (show p ≤ C.length by omega)
          have hnx := rowsTo_set C l.min l.cents (show p < C.length by omega)
          have HNX := Lib.hid hnx
          obtain ⟨X, hX⟩ : ∃ X, X = rowsTo C l.min l.cents p := ⟨_, rfl⟩
          rw [← hX] at hI6 hLP HNX
          clear hX hnx u0 ub y0 y1 y2 y3 y4 hb5 hs5 hz5 hI hB
          generalize wr.heap.size = vx at hsx hgw ⊢
          go_wp2_with fail
          go_loopw [10] (fun i wq => ∃ k : Nat, p + k ≤ C.length ∧ i = .int .i64 ((p + k : Nat) : Int) ∧ Below w2.heap.size w2 wq ∧ SavAt wq (vx + 1) vx p l.min l.cents ∧ IntsAt wq gr (X.set p (cellTo C l.min l.cents p k))) (fun i _ => C.length - (intOf i).toNat)
          case atStart => exact ⟨0, by omega, rfl, hB6, hsx, hI6⟩
          case round =>
            clear hB6 hsx hI6
            obtain ⟨k, hk, rfl, hB, hs, hI⟩ := hrel
            obtain ⟨n, hn⟩ : ∃ n, n = p + k := ⟨_, rfl⟩
            rw [← hn] at hk ⊢
            have HN := Lib.hid hn
            by_cases hln : n < C.length
            · have hsv := saver1_any (n : Int) (p : Int) l.min l.cents (vx + 1) vx wr hs (by omega) (by omega) hcents
              have hrg := saver_range (mn := l.min) (p := (p : Int)) (c := (n : Int)) hcents (by omega) (by omega)
              have hsc := cellTo_succ C l.min l.cents p k
              dsimp only at hsc
              rw [← hn, ent_get hln] at hsc
              have cx : wr.cell? ⟨ga, oa + n, none⟩ = some (.int .i64 C[n]) := (hB.cell (p := ⟨ga, oa + n, none⟩) hga).trans (HCA.out n hln)
              have hcb := HCB.out _ (List.getElem_mem hln)
              obtain ⟨own, hown⟩ : ∃ o, o = saverR l.min l.cents (p : Int) (n : Int) := ⟨_, rfl⟩
              obtain ⟨cv, hcv⟩ : ∃ o, o = C[n] := ⟨_, rfl⟩
              rw [← hown] at hsv hrg hsc
              rw [← hcv] at cx hcb hsc
              have HSV1 := Lib.hid hsv
              clear hown hcv hsv hn
              by_cases ho : own = -1
              · rw [if_neg (by intro h; exact h.1 ho)] at hsc
                have HSC := Lib.hid hsc
                have hq1 : (own != -1) = false := by simp [ho]
                clear hsc
                go_wp2_with (go_at_call 96; refine HSV1.out.mono ?_; rintro e w7 ⟨rfl, h7⟩; obtain rfl : wr = w7 := h7)
                go_roundw
                case rel => exact ⟨k + 1, by have := HN.out; omega, by rw [show p + (k + 1) = n + 1 by (have := HN.out; omega)]; go_num, hB, hs, by rw [HSC.out]; exact hI⟩
                case measure => simp [intOf]; omega
              · have hq1 : (own != -1) = true := by simp [ho]
                by_cases hc1 : cv = -1
                · rw [if_neg (by intro h; exact h.2 hc1)] at hsc
                  have HSC := Lib.hid hsc
                  have hq2 : (cv != -1) = false := by simp [hc1]
                  clear hsc
                  go_wp2_with (go_at_call 96; refine HSV1.out.mono ?_; rintro e w7 ⟨rfl, h7⟩; obtain rfl : wr = w7 := h7)
                  go_roundw
                  case rel => exact ⟨k + 1, by have := HN.out; omega, by rw [show p + (k + 1) = n + 1 by (have := HN.out; omega)]; go_num, hB, hs, by rw [HSC.out]; exact hI⟩
                  case measure => simp [intOf]; omega
                · rw [if_pos ⟨ho, hc1⟩] at hsc
                  have HSC := Lib.hid hsc
                  have hq2 : (cv != -1) = true := by simp [hc1]
                  clear hsc
                  have d1 := hI.cell (i := p) (by rw [List.length_set]; omega)
                  have d2 := hI.free p
                  have hd : (X.set p (cellTo C l.min l.cents p k)).getD p (-1) = cellTo C l.min l.cents p k := by
                    rw [List.getD_eq_getElem?_getD, List.getElem?_set_self (by omega)]; rfl
                  rw [hd] at d1
                  obtain ⟨acc, hacc⟩ : ∃ a, a = cellTo C l.min l.cents p k := ⟨_, rfl⟩
                  rw [← hacc] at d1 HSC hI
                  clear hd hacc
                  go_wp2_with (go_at_call 96; refine HSV1.out.mono ?_; rintro e w7 ⟨rfl, h7⟩; obtain rfl : wr = w7 := h7)
                  go_still_tail 14, (by kernel_rfl)
                  change wpList _ _ _ _ _ wr.drew
                  go_wp2_with fail
                  all_goals
                    go_wp2_with fail
                    go_roundw
                    case rel =>
                      refine ⟨k + 1, by have := HN.out; omega, by rw [show p + (k + 1) = n + 1 by (have := HN.out; omega)]; go_num, hB.drew.setCell (p := ⟨gr, p, none⟩) (by show w2.heap.size ≤ gr; omega) _, SavAt.set hs (by show vx + 1 ≠ gr; omega) (by show vx ≠ gr; omega) _, ?_⟩
                      have h9 := hI.set p (max acc (cv + own))
                      rw [List.set_set] at h9
                      rw [HSC.out]
                      exact h9
                    case measure => simp [intOf]; omega
            · have hkl : k = C.length - p := by omega
              clear hn
              go_wp2_with fail
              go_roundw
              case rel =>
                refine ⟨p + 1, by omega, by go_num, hB, ?_⟩
                rw [← HNX.out, ← hkl]
                exact hI
              case measure => simp [intOf]; omega
      · have hpe : p = 1 := by omega
        go_wp2_with fail
        go_ret
        have hlr : R.length = 1 := by rw [← HR1.out, List.length_take, rowsTo_len C l.min l.cents hK1]; omega
        rw [hpe] at hI
        have hrj := (RowJ.of_ints (base := base) hI (by omega) C.length).take (k := 1) (cap' := C.length) (by rw [rowsTo_len C l.min l.cents hK1]; exact hK1)
        rw [HR1.out] at hrj
        rw [hlr]
        exact ⟨_, C.length, rfl, hB2.trans (hB.mono hB2.size), hrj⟩
  · have hC1 := hC.1
    have hq : ((lv : Int) == (ls.length : Int) - 1) = false := by simp; omega
    have u0 := (hB3.cell (p := ⟨T, 0, none⟩) hT2).trans t0
    have ub := (hB3.cell (p := ⟨w.heap.size, 0, none⟩) (by show w.heap.size < _; omega)).trans bx
    go_quiet (fail)
    clear u0 ub
    have hr1 : (rowsTo C l.min l.cents C.length).take C.length = R := by have h := HRT.out; simpa [hlast] using h
    have HR1 := Lib.hid hr1
    have hK1 : C.length ≤ C.length := by omega
    clear hr1 HRT
    go_wp2_with fail
    go_loopw [39] (fun i wr => ∃ p : Nat, p ≤ C.length ∧ i = .int .i64 p ∧ Below w2.heap.size w2 wr ∧ IntsAt wr gr (rowsTo C l.min l.cents p)) (fun i _ => C.length - (intOf i).toNat)
    case atStart => exact ⟨0, Nat.zero_le _, rfl, below_drewN hB3 _, I0⟩
    case round =>
      clear hB3 I0
      obtain ⟨p, hp, rfl, hB, hI⟩ := hrel
      by_cases hlt : p < C.length
      · have u0 := (hB.cell (p := ⟨T, 0, none⟩) hT2).trans t0
        have ub := (hB.cell (p := ⟨w.heap.size, 0, none⟩) (by show w.heap.size < _; omega)).trans bx
        obtain ⟨y0, y1, y2, y3, y4⟩ := lat.below hB hgl2
        have hgw := hI.lt
        go_wp2_with fail
        go_still_tail 9, (by kernel_rfl)
        change wpList _ _ _ _ _ wr.drew
        go_wp2_with (go_at_call 77; refine (HSV.out _ _).mono ?_; rintro e w6 ⟨rfl, hb5, hs5, hz5⟩)
        all_goals
          have hB6 : Below w2.heap.size w2 w6 := below_c hB.drew hB.drew.size hb5
          have hI6 : IntsAt w6 gr ((rowsTo C l.min l.cents p).set p (cellTo C l.min l.cents p 0)) := by rw [rowsTo_start C l.min l.cents (by omega)]; exact (hb5.block gr hgw).trans hI
          have hsx : SavAt w6 (wr.heap.size + 1) wr.heap.size p l.min l.cents := hs5
          have hLP := rowsTo_len C l.min l.cents (show p ≤ C.length by omega)
          have hnx := rowsTo_set C l.min l.cents (show p < C.length by omega)
          have HNX := Lib.hid hnx
          obtain ⟨X, hX⟩ : ∃ X, X = rowsTo C l.min l.cents p := ⟨_, rfl⟩
          rw [← hX] at hI6 hLP HNX
          clear hX hnx u0 ub y0 y1 y2 y3 y4 hb5 hs5 hz5 hI hB
          generalize wr.heap.size = vx at hsx hgw ⊢
          go_wp2_with fail
          go_loopw [10] (fun i wq => ∃ k : Nat, p + k ≤ C.length ∧ i = .int .i64 ((p + k : Nat) : Int) ∧ Below w2.heap.size w2 wq ∧ SavAt wq (vx + 1) vx p l.min l.cents ∧ IntsAt wq gr (X.set p (cellTo C l.min l.cents p k))) (fun i _ => C.length - (intOf i).toNat)
          case atStart => exact ⟨0, by omega, rfl, hB6, hsx, hI6⟩
          case round =>
            clear hB6 hsx hI6
            obtain ⟨k, hk, rfl, hB, hs, hI⟩ := hrel
            obtain ⟨n, hn⟩ : ∃ n, n = p + k := ⟨_, rfl⟩
            rw [← hn] at hk ⊢
            have HN := Lib.hid hn
            by_cases hln : n < C.length
            · have hsv := saver1_any (n : Int) (p : Int) l.min l.cents (vx + 1) vx wr hs (by omega) (by omega) hcents
              have hrg := saver_range (mn := l.min) (p := (p : Int)) (c := (n : Int)) hcents (by omega) (by omega)
              have hsc := cellTo_succ C l.min l.cents p k
              dsimp only at hsc
              rw [← hn, ent_get hln] at hsc
              have cx : wr.cell? ⟨ga, oa + n, none⟩ = some (.int .i64 C[n]) := (hB.cell (p := ⟨ga, oa + n, none⟩) hga).trans (HCA.out n hln)
              have hcb := HCB.out _ (List.getElem_mem hln)
              obtain ⟨own, hown⟩ : ∃ o, o = saverR l.min l.cents (p : Int) (n : Int) := ⟨_, rfl⟩
              obtain ⟨cv, hcv⟩ : ∃ o, o = C[n] := ⟨_, rfl⟩
              rw [← hown] at hsv hrg hsc
              rw [← hcv] at cx hcb hsc
              have HSV1 := Lib.hid hsv
              clear hown hcv hsv hn
              by_cases ho : own = -1
              · rw [if_neg (by intro h; exact h.1 ho)] at hsc
                have HSC := Lib.hid hsc
                have hq1 : (own != -1) = false := by simp [ho]
                clear hsc
                go_wp2_with (go_at_call 96; refine HSV1.out.mono ?_; rintro e w7 ⟨rfl, h7⟩; obtain rfl : wr = w7 := h7)
                go_roundw
                case rel => exact ⟨k + 1, by have := HN.out; omega, by rw [show p + (k + 1) = n + 1 by (have := HN.out; omega)]; go_num, hB, hs, by rw [HSC.out]; exact hI⟩
                case measure => simp [intOf]; omega
              · have hq1 : (own != -1) = true := by simp [ho]
                by_cases hc1 : cv = -1
                · rw [if_neg (by intro h; exact h.2 hc1)] at hsc
                  have HSC := Lib.hid hsc
                  have hq2 : (cv != -1) = false := by simp [hc1]
                  clear hsc
                  go_wp2_with (go_at_call 96; refine HSV1.out.mono ?_; rintro e w7 ⟨rfl, h7⟩; obtain rfl : wr = w7 := h7)
                  go_roundw
                  case rel => exact ⟨k + 1, by have := HN.out; omega, by rw [show p + (k + 1) = n + 1 by (have := HN.out; omega)]; go_num, hB, hs, by rw [HSC.out]; exact hI⟩
                  case measure => simp [intOf]; omega
                · rw [if_pos ⟨ho, hc1⟩] at hsc
                  have HSC := Lib.hid hsc
                  have hq2 : (cv != -1) = true := by simp [hc1]
                  clear hsc
                  have d1 := hI.cell (i := p) (by rw [List.length_set]; omega)
                  have d2 := hI.free p
                  have hd : (X.set p (cellTo C l.min l.cents p k)).getD p (-1) = cellTo C l.min l.cents p k := by
                    rw [List.getD_eq_getElem?_getD, List.getElem?_set_self (by omega)]; rfl
                  rw [hd] at d1
                  obtain ⟨acc, hacc⟩ : ∃ a, a = cellTo C l.min l.cents p k := ⟨_, rfl⟩
                  rw [← hacc] at d1 HSC hI
                  clear hd hacc
                  go_wp2_with (go_at_call 96; refine HSV1.out.mono ?_; rintro e w7 ⟨rfl, h7⟩; obtain rfl : wr = w7 := h7)
                  go_still_tail 14, (by kernel_rfl)
                  change wpList _ _ _ _ _ wr.drew
                  go_wp2_with fail
                  all_goals
                    go_wp2_with fail
                    go_roundw
                    case rel =>
                      refine ⟨k + 1, by have := HN.out; omega, by rw [show p + (k + 1) = n + 1 by (have := HN.out; omega)]; go_num, hB.drew.setCell (p := ⟨gr, p, none⟩) (by show w2.heap.size ≤ gr; omega) _, SavAt.set hs (by show vx + 1 ≠ gr; omega) (by show vx ≠ gr; omega) _, ?_⟩
                      have h9 := hI.set p (max acc (cv + own))
                      rw [List.set_set] at h9
                      rw [HSC.out]
                      exact h9
                    case measure => simp [intOf]; omega
            · have hkl : k = C.length - p := by omega
              clear hn
              go_wp2_with fail
              go_roundw
              case rel =>
                refine ⟨p + 1, by omega, by go_num, hB, ?_⟩
                rw [← HNX.out, ← hkl]
                exact hI
              case measure => simp [intOf]; omega
      · have hpe : p = C.length := by omega
        go_wp2_with fail
        go_ret
        have hlr : R.length = C.length := by rw [← HR1.out, List.length_take, rowsTo_len C l.min l.cents hK1]; omega
        rw [hpe] at hI
        have hrj := (RowJ.of_ints (base := base) hI (by omega) C.length).take (k := C.length) (cap' := C.length) (by rw [rowsTo_len C l.min l.cents hK1]; exact hK1)
        rw [HR1.out] at hrj
        rw [hlr]
        exact ⟨_, C.length, rfl, hB2.trans (hB.mono hB2.size), hrj⟩
end Go.Proofs.YtelklmdlodgdpaaGreat
