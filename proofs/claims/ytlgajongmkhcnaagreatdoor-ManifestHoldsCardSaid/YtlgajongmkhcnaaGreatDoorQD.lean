import Derived.Test.YtlgajongmkhcnaaGreatDoorQZ
import Derived.Test.YtlgajongmkhcnaaGreatDoorQC
import Derived.Test.YtlgajongmkhcnaaGreatDoorQ7
import Derived.BigQuiet
import Derived.StillTailTactics
set_option linter.unusedVariables false
set_option linter.unusedSimpArgs false
set_option maxHeartbeats 32000000
namespace Go.Proofs.YtlgajongmkhcnaaGreatDoor
open Go.RowKit Go.Sort Go.Shelf Go.IntWalk
set_option maxRecDepth 100000
theorem Z67 {mn cents p c : Int} (h0 : 0 <= cents /\ cents <= 1000000) (hp : 0 <= p) (hc : c <= 1000000) : -1 <= Z0h mn cents p c /\ Z0h mn cents p c <= 1000000000000 := by
 unfold Z0h
 split
 ·omega
 ·have h1 : 0 <= (c - p) * cents := Int.mul_nonneg (by omega) h0.1
  have h2 : (c - p) * cents <= 1000000 * 1000000 := Int.mul_le_mul (by omega) h0.2 h0.1 (by omega)
  omega
def Z1i (C : List Int) (mn cents : Int) (p : Nat) : List Int := (List.range p).map (fun q => Z0T C mn cents q (C.length - q)) ++ List.replicate (C.length - p) (-1)
theorem Z23 (C : List Int) (mn cents : Int) {p : Nat} (h : p <= C.length) : (Z1i C mn cents p).length = C.length := by unfold Z1i; simp; omega
theorem Zaq (C : List Int) (mn cents : Int) : Z1i C mn cents 0 = List.replicate C.length (-1) := by unfold Z1i; simp
theorem ZbL {n p : Nat} (h : p < n) : List.replicate (n - p) (-1 : Int) = -1 :: List.replicate (n - (p + 1)) (-1) := by
 rw [show n - p = (n - (p + 1)) + 1 by omega, List.replicate_succ]
theorem Z7x (C : List Int) (mn cents : Int) {p : Nat} (h : p < C.length) : (Z1i C mn cents p).set p (Z0T C mn cents p (C.length - p)) = Z1i C mn cents (p + 1) := by
 unfold Z1i
 rw [List.set_append_right _ _ (by simp), Z7, List.length_range, Nat.sub_self, List.range_succ, ZD, List.append_assoc]
 congr 1
 rw [ZbL h]
 simp
theorem Z5m (C : List Int) (mn cents : Int) {p : Nat} (h : p < C.length) : (Z1i C mn cents p).set p (Z0T C mn cents p 0) = Z1i C mn cents p := by
 have e : Z0T C mn cents p 0 = -1 := by unfold Z0T; simp
 rw [e]
 unfold Z1i
 rw [List.set_append_right _ _ (by simp), Z7, List.length_range, Nat.sub_self]
 congr 1
 rw [ZbL h]
 simp
theorem Z9g (C : List Int) (mn cents : Int) (last : Bool) (h : 0 < C.length) : (Z1i C mn cents (if last then 1 else C.length)).take (if last then 1 else C.length) = Z1h C last mn cents := by
 have h1 : (if last then 1 else C.length) <= C.length := by split <;> omega
 unfold Z1i Z1h
 rw [List.take_append_of_le_length (by simp), List.take_of_length_le (by simp)]
theorem SavAt.of_blocks {w w' : World} {X Y : Nat} {p m c : Int} (h : SavAt w X Y p m c) (hX : w'.1[X]? = w.1[X]?) (hY : w'.1[Y]? = w.1[Y]?) : SavAt w' X Y p m c :=
 ⟨(World.cell?_of_block (w := w) hX).trans h.1, (World.cell?_of_block (w := w) hY).trans h.2.1, (World.cell?_of_block (w := w) hY).trans h.2.2⟩
theorem SavAt.set {w : World} {X Y : Nat} {p m c : Int} (h : SavAt w X Y p m c) {a : Addr} (hX : X ≠ a.block) (hY : Y ≠ a.block) (v : Value) : SavAt (w.setCell a v) X Y p m c :=
 h.of_blocks (ZA _ _ _ _ hX) (ZA _ _ _ _ hY)
theorem SavAt.new (w : World) (l : Lev) (sv : Value) (p : Int) : SavAt ((w.alloc (Z5H l sv)).alloc (.cells #[.int .i64 p] 3)) (w.1.size + 1) w.1.size p l.min l.cents := by
 have e : (w.alloc (Z5H l sv)).1.size = w.1.size + 1 := by simp
 have h1 : ((w.alloc (Z5H l sv)).alloc (.cells #[.int .i64 p] 3)).1[w.1.size]? = some (Z5H l sv) := (((Z9 _ (w.alloc (Z5H l sv))).alloc (Z1 _) _).block w.1.size (by omega)).trans (Z01 _ _)
 have h2 : ((w.alloc (Z5H l sv)).alloc (.cells #[.int .i64 p] 3)).1[w.1.size + 1]? = some (.cells #[.int .i64 p] 3) := by rw [<- e]; exact Z01 _ _
 obtain ⟨x0, x1, x2, x3, x4⟩ := Zfs h1
 exact ⟨cell_of_row _ _ 0 _ _ _ h2, x3, x4⟩
theorem Zcu (T BB TB PB base : Nat) (v vg : Value) (Gs : List Grp) (tabs : Nat -> List Int) (m : Nat) (ps : List Int) (g : Nat) (ls : List Lev) (lv : Nat) (C : List Int) (w : World) (h : TreeW w T BB TB PB base v vg Gs tabs m ps) (hg : g < Gs.length)
 (hr : RdLevs w v ls) (hlv : lv < ls.length) (hle : Gs[g].lvl = (lv : Int)) (hl6 : ls.length <= 1000) (hcents : 0 <= ls[lv].cents /\ ls[lv].cents <= 1000000)
 (hC : 1 <= C.length /\ C.length <= 5000) (hCb : ∀ x ∈ C, -1 <= x /\ x <= 1000000000000)
 (hcome : ∀ W, Below w.1.size w W -> Calls Tryz.prog 99 #[.pointer (some ⟨T, 0, none⟩), .int .i64 g] W fun e w' => ∃ a cap, e = .returned (.slice a C.length cap) /\ Below W.1.size W w' /\ RowJ w' base (.slice a C.length cap) C) :
 Calls Tryz.prog 63 #[.pointer (some ⟨T, 0, none⟩), .int .i64 g] w fun e w' => ∃ a cap, e = .returned (.slice a (Z1h C (decide (lv + 1 = ls.length)) ls[lv].min ls[lv].cents).length cap) /\ Below w.1.size w w' /\
  RowJ w' base (.slice a (Z1h C (decide (lv + 1 = ls.length)) ls[lv].min ls[lv].cents).length cap) (Z1h C (decide (lv + 1 = ls.length)) ls[lv].min ls[lv].cents) := by
 obtain ⟨l1, l2, l3, l4, l5⟩ := h.lt
 obtain ⟨c0, c1, c2, c3, c4⟩ := h.tr.c
 obtain ⟨ag, cg, rfl, hgr⟩ := h.gr
 obtain ⟨gg, og, rfl, hgg, hcg⟩ := hgr (by omega)
 obtain ⟨gsv, hgsv, g0, g1, g2, g3⟩ := hcg g hg
 rw [hle] at g0
 obtain ⟨al, cl, rfl, hlr⟩ := hr
 obtain ⟨gl, ol, rfl, hgl, hcl⟩ := hlr (by omega)
 obtain ⟨lsv, hlsv, hat⟩ := hcl lv hlv
 obtain ⟨ai, ci, rfl, _⟩ := hgsv
 obtain ⟨al', cl', rfl, _⟩ := hlsv
 obtain ⟨l, hl⟩ : ∃ l, l = ls[lv] := ⟨_, rfl⟩
 rw [<- hl] at hat hcents ⊢
 have HRT := Z0 (Z9g C l.min l.cents (decide (lv + 1 = ls.length)) (by omega))
 obtain ⟨R, hR⟩ : ∃ R, R = Z1h C (decide (lv + 1 = ls.length)) l.min l.cents := ⟨_, rfl⟩
 rw [<- hR] at HRT ⊢
 clear hR
 obtain ⟨n1, hn1⟩ : ∃ n, n = Gs[g].items.length := ⟨_, rfl⟩
 obtain ⟨n2, hn2⟩ : ∃ n, n = l.labs.length := ⟨_, rfl⟩
 rw [<- hn1] at g3
 rw [<- hn2] at hat
 obtain ⟨nm, hnm⟩ : ∃ n, n = Gs[g].name := ⟨_, rfl⟩
 obtain ⟨up, hup⟩ : ∃ n, n = Gs[g].up := ⟨_, rfl⟩
 rw [<- hnm] at g1
 rw [<- hup] at g2
 have HCOME := Z0 hcome
 have HCB := Z0 hCb
 clear hgr hcg hlr hcl hl hn1 hnm hup hcome hCb c2 c3 c4 h
 obtain ⟨w1, hw1⟩ : ∃ w1 : World, w1 = w.alloc (.cells #[.int .i64 lv, .string nm, .int .i64 up, .slice ai n1 ci] 107) := ⟨_, rfl⟩
 go_enter Tryz.func63, Tryz.ntmps63
 go_wp2_with (first
  | (go_at_call 99; refine (HCOME.out _ ((Z9 _ w).alloc (Z1 _) _)).mono ?_; rintro e w2 ⟨ac, cc, rfl, hb2, hrow2⟩)
  | (go_at_call 100; refine (Z50 (-1) C.length w2.1.size 0 1 _ (by omega) (by simp [go_sem]) (by simp)).mono ?_; rintro e w3 ⟨gr, rfl, hgr3, hI3, hb3⟩))
 have hB2 : Below w.1.size w w2 := Z0k (Z9 _ w) (Z1 _) hb2
 have hz2 : w.1.size + 1 <= w2.1.size := by have := hb2.size; simp at this; exact this
 have hB3 : Below w2.1.size w2 w3 := Z0k (Z9 _ w2) (Z1 _) hb3
 have t0 : w2.cell? ⟨T, 0, none⟩ = some (.slice (some ⟨gl, ol, none⟩) ls.length cl) := (hB2.cell (p := ⟨T, 0, none⟩) (by show T < _; omega)).trans c0
 have bx : w2.cell? ⟨w.1.size, 0, none⟩ = some (.int .i64 lv) := (hb2.cell (p := ⟨w.1.size, 0, none⟩) (by simp)).trans (cell_of_row _ _ 0 _ _ _ (Z01 w _))
 have lat := hat.below hB2 hgl
 have hgl2 : gl < w2.1.size := ZH hgl hB2.size
 have hrd := hrow2.rd
 obtain ⟨ac', cc', hvv, hcc⟩ := hrd
 have q1 : ac = ac' := by injection hvv
 subst q1
 obtain ⟨ga, oa, rfl, hga, hca⟩ := hcc (by omega)
 have HCA := Z0 hca
 have hgr2 : w2.1.size < gr := by simp at hgr3; omega
 have I0 : IntsAt w3 gr (Z1i C l.min l.cents 0) := by rw [Zaq]; exact hI3
 have hT2 : T < w2.1.size := by omega
 have HSV : Hid (∀ (p : Int) (W : World), Calls Tryz.prog 101 #[.agg #[.string l.name, .int .i64 l.pre, .slice al' n2 cl', .int .i64 l.min, .int .i64 l.cents], .int .i64 p] W fun e w' => e = .returned (.func (.func 131) #[] #[.pointer (some ⟨W.1.size + 1, 0, none⟩), .pointer (some ⟨W.1.size, 0, none⟩)]) /\
  Below W.1.size W w' /\ SavAt w' (W.1.size + 1) W.1.size p l.min l.cents /\ w'.1.size = W.1.size + 2) := fun p W => by
  refine (Z9d l (.slice al' n2 cl') p W).mono ?_
  rintro e w' ⟨rfl, rfl⟩
  exact ⟨rfl, ((Z9 _ W).alloc (Z1 _) _).alloc (by simp) _, SavAt.new _ _ _ _, by simp⟩
 clear hn2 hb2 hb3 hrow2 hvv hcc hca hgr3 hI3 c0 c1 g0 g1 g2 g3 hat HCOME hw1 hgl hgg
 by_cases hlast : lv + 1 = ls.length
 ·have hC1 := hC.1
  have hq : ((lv : Int) == (ls.length : Int) - 1) = true := by simp; omega
  have u0 := (hB3.cell (p := ⟨T, 0, none⟩) hT2).trans t0
  have ub := (hB3.cell (p := ⟨w.1.size, 0, none⟩) (by show w.1.size < _; omega)).trans bx
  go_quiet (fail)
  clear u0 ub
  have hr1 : (Z1i C l.min l.cents 1).take 1 = R := by have h := HRT.out; simpa [hlast] using h
  have HR1 := Z0 hr1
  have hK1 : 1 <= C.length := by omega
  clear hr1 HRT
  go_wp2_with fail
  go_loopw [39] (fun i wr => ∃ p : Nat, p <= 1 /\ i = .int .i64 p /\ Below w2.1.size w2 wr /\ IntsAt wr gr (Z1i C l.min l.cents p)) (fun i _ => 1 - (intOf i).toNat)
  case atStart => exact ⟨0, ZE _, rfl, below_drewN hB3 _, I0⟩
  case round =>
   clear hB3 I0
   obtain ⟨p, hp, rfl, hB, hI⟩ := hrel
   by_cases hlt : p < 1
   ·have u0 := (hB.cell (p := ⟨T, 0, none⟩) hT2).trans t0
    have ub := (hB.cell (p := ⟨w.1.size, 0, none⟩) (by show w.1.size < _; omega)).trans bx
    obtain ⟨y0, y1, y2, y3, y4⟩ := lat.below hB hgl2
    have hgw := hI.lt
    go_wp2_with fail
    go_still_tail 9, (by kernel_rfl)
    change wpList _ _ _ _ _ wr.drew
    go_wp2_with (go_at_call 101; refine (HSV.out _ _).mono ?_; rintro e w6 ⟨rfl, hb5, hs5, hz5⟩)
    all_goals
     have hB6 : Below w2.1.size w2 w6 := Z00 hB.drew hB.drew.size hb5
     have hI6 : IntsAt w6 gr ((Z1i C l.min l.cents p).set p (Z0T C l.min l.cents p 0)) := by rw [Z5m C l.min l.cents (by omega)]; exact (hb5.block gr hgw).trans hI
     have hsx : SavAt w6 (wr.1.size + 1) wr.1.size p l.min l.cents := hs5
     have hLP := Z23 C l.min l.cents (show p <= C.length by omega)
     have hnx := Z7x C l.min l.cents (show p < C.length by omega)
     have HNX := Z0 hnx
     obtain ⟨X, hX⟩ : ∃ X, X = Z1i C l.min l.cents p := ⟨_, rfl⟩
     rw [<- hX] at hI6 hLP HNX
     clear hX hnx u0 ub y0 y1 y2 y3 y4 hb5 hs5 hz5 hI hB
     generalize wr.1.size = vx at hsx hgw ⊢
     go_wp2_with fail
     go_loopw [10] (fun i wq => ∃ k : Nat, p + k <= C.length /\ i = .int .i64 ((p + k : Nat) : Int) /\ Below w2.1.size w2 wq /\ SavAt wq (vx + 1) vx p l.min l.cents /\ IntsAt wq gr (X.set p (Z0T C l.min l.cents p k))) (fun i _ => C.length - (intOf i).toNat)
     case atStart => exact ⟨0, by omega, rfl, hB6, hsx, hI6⟩
     case round =>
      clear hB6 hsx hI6
      obtain ⟨k, hk, rfl, hB, hs, hI⟩ := hrel
      obtain ⟨n, hn⟩ : ∃ n, n = p + k := ⟨_, rfl⟩
      rw [<- hn] at hk ⊢
      have HN := Z0 hn
      by_cases hln : n < C.length
      ·have hsv := Z4X (n : Int) (p : Int) l.min l.cents (vx + 1) vx wr hs (by omega) (by omega) hcents
       have hrg := Z67 (mn := l.min) (p := (p : Int)) (c := (n : Int)) hcents (by omega) (by omega)
       have hsc := Z2Z C l.min l.cents p k
       dsimp only at hsc
       rw [<- hn, Z2V hln] at hsc
       have cx : wr.cell? ⟨ga, oa + n, none⟩ = some (.int .i64 C[n]) := (hB.cell (p := ⟨ga, oa + n, none⟩) hga).trans (HCA.out n hln)
       have hcb := HCB.out _ (Z4 hln)
       obtain ⟨own, hown⟩ : ∃ o, o = Z0h l.min l.cents (p : Int) (n : Int) := ⟨_, rfl⟩
       obtain ⟨cv, hcv⟩ : ∃ o, o = C[n] := ⟨_, rfl⟩
       rw [<- hown] at hsv hrg hsc
       rw [<- hcv] at cx hcb hsc
       have HSV1 := Z0 hsv
       clear hown hcv hsv hn
       by_cases ho : own = -1
       ·rw [if_neg (by intro h; exact h.1 ho)] at hsc
        have HSC := Z0 hsc
        have hq1 : (own != -1) = false := by simp [ho]
        clear hsc
        go_wp2_with (go_at_call 131; refine HSV1.out.mono ?_; rintro e w7 ⟨rfl, h7⟩; obtain rfl : wr = w7 := h7)
        go_roundw
        case rel => exact ⟨k + 1, by have := HN.out; omega, by rw [show p + (k + 1) = n + 1 by (have := HN.out; omega)]; go_num, hB, hs, by rw [HSC.out]; exact hI⟩
        case measure => simp [intOf]; omega
       ·have hq1 : (own != -1) = true := by simp [ho]
        by_cases hc1 : cv = -1
        ·rw [if_neg (by intro h; exact h.2 hc1)] at hsc
         have HSC := Z0 hsc
         have hq2 : (cv != -1) = false := by simp [hc1]
         clear hsc
         go_wp2_with (go_at_call 131; refine HSV1.out.mono ?_; rintro e w7 ⟨rfl, h7⟩; obtain rfl : wr = w7 := h7)
         go_roundw
         case rel => exact ⟨k + 1, by have := HN.out; omega, by rw [show p + (k + 1) = n + 1 by (have := HN.out; omega)]; go_num, hB, hs, by rw [HSC.out]; exact hI⟩
         case measure => simp [intOf]; omega
        ·rw [if_pos ⟨ho, hc1⟩] at hsc
         have HSC := Z0 hsc
         have hq2 : (cv != -1) = true := by simp [hc1]
         clear hsc
         have d1 := hI.cell (i := p) (by rw [List.length_set]; omega)
         have d2 := hI.free p
         have hd : (X.set p (Z0T C l.min l.cents p k)).getD p (-1) = Z0T C l.min l.cents p k := by
          rw [Z2, List.getElem?_set_self (by omega)]; rfl
         rw [hd] at d1
         obtain ⟨acc, hacc⟩ : ∃ a, a = Z0T C l.min l.cents p k := ⟨_, rfl⟩
         rw [<- hacc] at d1 HSC hI
         clear hd hacc
         go_wp2_with (go_at_call 131; refine HSV1.out.mono ?_; rintro e w7 ⟨rfl, h7⟩; obtain rfl : wr = w7 := h7)
         go_still_tail 14, (by kernel_rfl)
         change wpList _ _ _ _ _ wr.drew
         go_wp2_with fail
         all_goals
          go_wp2_with fail
          go_roundw
          case rel =>
           refine ⟨k + 1, by have := HN.out; omega, by rw [show p + (k + 1) = n + 1 by (have := HN.out; omega)]; go_num, hB.drew.setCell (p := ⟨gr, p, none⟩) (by show w2.1.size <= gr; omega) _, SavAt.set hs (by show vx + 1 ≠ gr; omega) (by show vx ≠ gr; omega) _, ?_⟩
           have h9 := hI.set p (max acc (cv + own))
           rw [List.set_set] at h9
           rw [HSC.out]
           exact h9
          case measure => simp [intOf]; omega
      ·have hkl : k = C.length - p := by omega
       clear hn
       go_wp2_with fail
       go_roundw
       case rel =>
        refine ⟨p + 1, by omega, by go_num, hB, ?_⟩
        rw [<- HNX.out, <- hkl]
        exact hI
       case measure => simp [intOf]; omega
   ·have hpe : p = 1 := by omega
    go_wp2_with fail
    go_ret
    have hlr : R.length = 1 := by rw [<- HR1.out, List.length_take, Z23 C l.min l.cents hK1]; omega
    rw [hpe] at hI
    have hrj := (RowJ.of_ints (base := base) hI (by omega) C.length).take (k := 1) (cap' := C.length) (by rw [Z23 C l.min l.cents hK1]; exact hK1)
    rw [HR1.out] at hrj
    rw [hlr]
    exact ⟨_, C.length, rfl, hB2.trans (hB.mono hB2.size), hrj⟩
 ·have hC1 := hC.1
  have hq : ((lv : Int) == (ls.length : Int) - 1) = false := by simp; omega
  have u0 := (hB3.cell (p := ⟨T, 0, none⟩) hT2).trans t0
  have ub := (hB3.cell (p := ⟨w.1.size, 0, none⟩) (by show w.1.size < _; omega)).trans bx
  go_quiet (fail)
  clear u0 ub
  have hr1 : (Z1i C l.min l.cents C.length).take C.length = R := by have h := HRT.out; simpa [hlast] using h
  have HR1 := Z0 hr1
  have hK1 : C.length <= C.length := by omega
  clear hr1 HRT
  go_wp2_with fail
  go_loopw [39] (fun i wr => ∃ p : Nat, p <= C.length /\ i = .int .i64 p /\ Below w2.1.size w2 wr /\ IntsAt wr gr (Z1i C l.min l.cents p)) (fun i _ => C.length - (intOf i).toNat)
  case atStart => exact ⟨0, ZE _, rfl, below_drewN hB3 _, I0⟩
  case round =>
   clear hB3 I0
   obtain ⟨p, hp, rfl, hB, hI⟩ := hrel
   by_cases hlt : p < C.length
   ·have u0 := (hB.cell (p := ⟨T, 0, none⟩) hT2).trans t0
    have ub := (hB.cell (p := ⟨w.1.size, 0, none⟩) (by show w.1.size < _; omega)).trans bx
    obtain ⟨y0, y1, y2, y3, y4⟩ := lat.below hB hgl2
    have hgw := hI.lt
    go_wp2_with fail
    go_still_tail 9, (by kernel_rfl)
    change wpList _ _ _ _ _ wr.drew
    go_wp2_with (go_at_call 101; refine (HSV.out _ _).mono ?_; rintro e w6 ⟨rfl, hb5, hs5, hz5⟩)
    all_goals
     have hB6 : Below w2.1.size w2 w6 := Z00 hB.drew hB.drew.size hb5
     have hI6 : IntsAt w6 gr ((Z1i C l.min l.cents p).set p (Z0T C l.min l.cents p 0)) := by rw [Z5m C l.min l.cents (by omega)]; exact (hb5.block gr hgw).trans hI
     have hsx : SavAt w6 (wr.1.size + 1) wr.1.size p l.min l.cents := hs5
     have hLP := Z23 C l.min l.cents (show p <= C.length by omega)
     have hnx := Z7x C l.min l.cents (show p < C.length by omega)
     have HNX := Z0 hnx
     obtain ⟨X, hX⟩ : ∃ X, X = Z1i C l.min l.cents p := ⟨_, rfl⟩
     rw [<- hX] at hI6 hLP HNX
     clear hX hnx u0 ub y0 y1 y2 y3 y4 hb5 hs5 hz5 hI hB
     generalize wr.1.size = vx at hsx hgw ⊢
     go_wp2_with fail
     go_loopw [10] (fun i wq => ∃ k : Nat, p + k <= C.length /\ i = .int .i64 ((p + k : Nat) : Int) /\ Below w2.1.size w2 wq /\ SavAt wq (vx + 1) vx p l.min l.cents /\ IntsAt wq gr (X.set p (Z0T C l.min l.cents p k))) (fun i _ => C.length - (intOf i).toNat)
     case atStart => exact ⟨0, by omega, rfl, hB6, hsx, hI6⟩
     case round =>
      clear hB6 hsx hI6
      obtain ⟨k, hk, rfl, hB, hs, hI⟩ := hrel
      obtain ⟨n, hn⟩ : ∃ n, n = p + k := ⟨_, rfl⟩
      rw [<- hn] at hk ⊢
      have HN := Z0 hn
      by_cases hln : n < C.length
      ·have hsv := Z4X (n : Int) (p : Int) l.min l.cents (vx + 1) vx wr hs (by omega) (by omega) hcents
       have hrg := Z67 (mn := l.min) (p := (p : Int)) (c := (n : Int)) hcents (by omega) (by omega)
       have hsc := Z2Z C l.min l.cents p k
       dsimp only at hsc
       rw [<- hn, Z2V hln] at hsc
       have cx : wr.cell? ⟨ga, oa + n, none⟩ = some (.int .i64 C[n]) := (hB.cell (p := ⟨ga, oa + n, none⟩) hga).trans (HCA.out n hln)
       have hcb := HCB.out _ (Z4 hln)
       obtain ⟨own, hown⟩ : ∃ o, o = Z0h l.min l.cents (p : Int) (n : Int) := ⟨_, rfl⟩
       obtain ⟨cv, hcv⟩ : ∃ o, o = C[n] := ⟨_, rfl⟩
       rw [<- hown] at hsv hrg hsc
       rw [<- hcv] at cx hcb hsc
       have HSV1 := Z0 hsv
       clear hown hcv hsv hn
       by_cases ho : own = -1
       ·rw [if_neg (by intro h; exact h.1 ho)] at hsc
        have HSC := Z0 hsc
        have hq1 : (own != -1) = false := by simp [ho]
        clear hsc
        go_wp2_with (go_at_call 131; refine HSV1.out.mono ?_; rintro e w7 ⟨rfl, h7⟩; obtain rfl : wr = w7 := h7)
        go_roundw
        case rel => exact ⟨k + 1, by have := HN.out; omega, by rw [show p + (k + 1) = n + 1 by (have := HN.out; omega)]; go_num, hB, hs, by rw [HSC.out]; exact hI⟩
        case measure => simp [intOf]; omega
       ·have hq1 : (own != -1) = true := by simp [ho]
        by_cases hc1 : cv = -1
        ·rw [if_neg (by intro h; exact h.2 hc1)] at hsc
         have HSC := Z0 hsc
         have hq2 : (cv != -1) = false := by simp [hc1]
         clear hsc
         go_wp2_with (go_at_call 131; refine HSV1.out.mono ?_; rintro e w7 ⟨rfl, h7⟩; obtain rfl : wr = w7 := h7)
         go_roundw
         case rel => exact ⟨k + 1, by have := HN.out; omega, by rw [show p + (k + 1) = n + 1 by (have := HN.out; omega)]; go_num, hB, hs, by rw [HSC.out]; exact hI⟩
         case measure => simp [intOf]; omega
        ·rw [if_pos ⟨ho, hc1⟩] at hsc
         have HSC := Z0 hsc
         have hq2 : (cv != -1) = true := by simp [hc1]
         clear hsc
         have d1 := hI.cell (i := p) (by rw [List.length_set]; omega)
         have d2 := hI.free p
         have hd : (X.set p (Z0T C l.min l.cents p k)).getD p (-1) = Z0T C l.min l.cents p k := by
          rw [Z2, List.getElem?_set_self (by omega)]; rfl
         rw [hd] at d1
         obtain ⟨acc, hacc⟩ : ∃ a, a = Z0T C l.min l.cents p k := ⟨_, rfl⟩
         rw [<- hacc] at d1 HSC hI
         clear hd hacc
         go_wp2_with (go_at_call 131; refine HSV1.out.mono ?_; rintro e w7 ⟨rfl, h7⟩; obtain rfl : wr = w7 := h7)
         go_still_tail 14, (by kernel_rfl)
         change wpList _ _ _ _ _ wr.drew
         go_wp2_with fail
         all_goals
          go_wp2_with fail
          go_roundw
          case rel =>
           refine ⟨k + 1, by have := HN.out; omega, by rw [show p + (k + 1) = n + 1 by (have := HN.out; omega)]; go_num, hB.drew.setCell (p := ⟨gr, p, none⟩) (by show w2.1.size <= gr; omega) _, SavAt.set hs (by show vx + 1 ≠ gr; omega) (by show vx ≠ gr; omega) _, ?_⟩
           have h9 := hI.set p (max acc (cv + own))
           rw [List.set_set] at h9
           rw [HSC.out]
           exact h9
          case measure => simp [intOf]; omega
      ·have hkl : k = C.length - p := by omega
       clear hn
       go_wp2_with fail
       go_roundw
       case rel =>
        refine ⟨p + 1, by omega, by go_num, hB, ?_⟩
        rw [<- HNX.out, <- hkl]
        exact hI
       case measure => simp [intOf]; omega
   ·have hpe : p = C.length := by omega
    go_wp2_with fail
    go_ret
    have hlr : R.length = C.length := by rw [<- HR1.out, List.length_take, Z23 C l.min l.cents hK1]; omega
    rw [hpe] at hI
    have hrj := (RowJ.of_ints (base := base) hI (by omega) C.length).take (k := C.length) (cap' := C.length) (by rw [Z23 C l.min l.cents hK1]; exact hK1)
    rw [HR1.out] at hrj
    rw [hlr]
    exact ⟨_, C.length, rfl, hB2.trans (hB.mono hB2.size), hrj⟩
end Go.Proofs.YtlgajongmkhcnaaGreatDoor
namespace Go.Proofs.YtlgajongmkhcnaaGreatDoor
open Go.RowKit
set_option maxRecDepth 100000
def Z0x (ls : List Lev) : List (Int × Int) := ls.map (fun l => (l.min, l.cents))
theorem Z3f (ls : List Lev) : (Z0x ls).length = ls.length := by unfold Z0x; simp
theorem Z4Q (ls : List Lev) (cs : List ByteArray) {a b : Nat} (h : a <= b) : Z0g ls cs a <= Z0g ls cs b := by
 induction b with
 | zero => obtain rfl : a = 0 := (by omega); exact Z1 _
 | succ b ih =>
  by_cases e : a = b + 1
  ·subst e; exact Z1 _
  ·exact Nat.le_trans (ih (by omega)) (Nat.le_add_right _ _)
theorem Z3L (ls : List Lev) (cs : List ByteArray) : ∀ k g, g < Z0g ls cs k -> ∃ m j, m < k /\ j < (nm ls cs m).length /\ g = Z0g ls cs m + j
 | 0, g, h => absurd h (Nat.not_lt_zero _)
 | k + 1, g, h => by
  by_cases hg : g < Z0g ls cs k
  ·obtain ⟨m, j, h1, h2, h3⟩ := Z3L ls cs k g hg
   exact ⟨m, j, by omega, h2, h3⟩
  ·have h' : g < Z0g ls cs k + (nm ls cs k).length := h
   exact ⟨k, g - Z0g ls cs k, by omega, by omega, by omega⟩
theorem ZdQ {ls : List Lev} {cs : List ByteArray} {m m' j j' : Nat} (h : j < (nm ls cs m).length) (h' : j' < (nm ls cs m').length) (e : Z0g ls cs m + j = Z0g ls cs m' + j') : m = m' /\ j = j' := by
 rcases Nat.lt_trichotomy m m' with hm | hm | hm
 ·have h1 : Z0g ls cs m + (nm ls cs m).length <= Z0g ls cs m' := Z4Q ls cs (show m + 1 <= m' from hm)
  omega
 ·subst hm; exact ⟨rfl, by omega⟩
 ·have h1 : Z0g ls cs m' + (nm ls cs m').length <= Z0g ls cs m := Z4Q ls cs (show m' + 1 <= m from hm)
  omega
theorem Zer (ls : List Lev) (cs : List ByteArray) (m : Nat) : StrictB (nm ls cs m) := Z3c _
theorem Zhh {ls : List Lev} {cs : List ByteArray} {m j : Nat} (h : j < (nm ls cs m).length) : idx (nm ls cs m)[j] (nm ls cs m) = j := Z6I (Zer ls cs m) h
theorem Zet {ls : List Lev} {cs : List ByteArray} {m j : Nat} (h : j < (nm ls cs m).length) : (nm ls cs m)[j] ∈ nm ls cs m := Z4 h
theorem Zeu {ls : List Lev} {cs : List ByteArray} {m j j' : Nat} (h : j < (nm ls cs m).length) (h' : j' < (nm ls cs m).length) (e : (nm ls cs m)[j] = (nm ls cs m)[j']) : j = j' := by
 have h1 := Zhh h
 rw [e, Zhh h'] at h1
 exact h1.symm
theorem Zgp {ls : List Lev} {cs : List ByteArray} {m : Nat} {u : ByteArray} (h : u ∈ nm ls cs m) : (nm ls cs m)[idx u (nm ls cs m)]'(Z35 h) = u := by
 have := ZeL h
 rw [Z3 (Z35 h)] at this
 exact Option.some.inj this
def pG (ls : List Lev) (cs : List ByteArray) : List PGrp := Z0m (Z0Y ls cs ls.length)
theorem Zen (ls : List Lev) (cs : List ByteArray) : (pG ls cs).length = Z0g ls cs ls.length := by unfold pG; rw [Z1M, Z8H]
theorem ZaG {ls : List Lev} {cs : List ByteArray} {m j : Nat} (hm : m < ls.length) (hj : j < (nm ls cs m).length) : Z0c (pG ls cs) (Z0g ls cs m + j) = ⟨m, if m + 1 < ls.length then (Zhc ls cs m (nm ls cs m)[j] : Int) else -1, itm ls cs m (nm ls cs m)[j]⟩ := by
 have hg := Zc8 ls cs ls.length m j hm hj
 obtain ⟨hlt, he⟩ := List.getElem?_eq_some_iff.1 hg
 unfold pG
 rw [Z2q hlt, he]
 rfl
theorem ZhS {ls : List Lev} {cs : List ByteArray} {m j : Nat} (hm : m < ls.length) (hj : j < (nm ls cs m).length) : Z0g ls cs m + j < (pG ls cs).length := by
 rw [Zen]
 have h1 : Z0g ls cs m + (nm ls cs m).length <= Z0g ls cs ls.length := Z4Q ls cs (show m + 1 <= ls.length from hm)
 omega
variable {ls : List Lev} {cs : List ByteArray}
theorem Zah (h : Z0i ls = true) (hc : ∀ c ∈ cs, Z0C c = true) (hp : ∀ l ∈ ls, ∀ c ∈ cs, l.pre <= c.size) {m j : Nat} (hm : m + 1 < ls.length) (hj : j < (nm ls cs m).length) :
 ∃ J, ∃ hJ : J < (nm ls cs (m + 1)).length, Zhc ls cs m (nm ls cs m)[j] = Z0g ls cs (m + 1) + J /\ ∀ q (hq : q < cs.length), Z0e (lv ls m) cs[q] = (nm ls cs m)[j] -> Z0e (lv ls (m + 1)) cs[q] = (nm ls cs (m + 1))[J] := by
 obtain ⟨i, hi, hh, hgr⟩ := Z6K (Zet hj)
 have hmem : Z0e (lv ls (m + 1)) (Z6L ls cs m (nm ls cs m)[j]) ∈ nm ls cs (m + 1) := by rw [hh]; exact Zes hi
 refine ⟨_, Z35 hmem, rfl, fun q hq he => ?_⟩
 rw [Zgp hmem, hh]
 rw [Z9E hm]
 rw [Z9E (by omega)] at he hgr
 exact Z7G h (hc _ (Z4 hq)) (hc _ (Z4 hi)) (fun l hl => hp l hl _ (Z4 hq)) (fun l hl => hp l hl _ (Z4 hi)) m hm (he.trans hgr.symm)
theorem Z26 (h : Z0i ls = true) (hc : ∀ c ∈ cs, Z0C c = true) (hp : ∀ l ∈ ls, ∀ c ∈ cs, l.pre <= c.size) {M J x : Nat} (hM : M < ls.length) (hJ : J < (nm ls cs M).length) (hx : x ∈ Z04 (pG ls cs) (Z0g ls cs M + J)) :
 ∃ m j, ∃ hj : j < (nm ls cs m).length, m + 1 = M /\ x = Z0g ls cs m + j /\ Zhc ls cs m (nm ls cs m)[j] = Z0g ls cs M + J /\ ∀ q (hq : q < cs.length), Z0e (lv ls m) cs[q] = (nm ls cs m)[j] -> Z0e (lv ls M) cs[q] = (nm ls cs M)[J] := by
 obtain ⟨h1, h2⟩ := Z2E.1 hx
 rw [Zen] at h1
 obtain ⟨m, j, hm, hj, rfl⟩ := Z3L ls cs _ _ h1
 rw [ZaG hm hj] at h2
 dsimp only at h2
 by_cases hk : m + 1 < ls.length
 ·rw [if_pos hk] at h2
  obtain ⟨J', hJ', e1, e2⟩ := Zah h hc hp hk hj
  rw [e1] at h2
  have h3 : Z0g ls cs (m + 1) + J' = Z0g ls cs M + J := by omega
  obtain ⟨rfl, rfl⟩ := ZdQ hJ' hJ h3
  exact ⟨m, j, hj, rfl, rfl, e1, e2⟩
 ·rw [if_neg hk] at h2
  omega
theorem Z1A {ls : List Lev} {cs : List ByteArray} {m j : Nat} (hm : m < ls.length) (hj : j < (nm ls cs m).length) {i : Int} : i ∈ (Z0c (pG ls cs) (Z0g ls cs m + j)).items ↔ ∃ q : Nat, ∃ hq : q < cs.length, Z0e (lv ls m) cs[q] = (nm ls cs m)[j] /\ i = q := by
 rw [ZaG hm hj]
 exact Z3j
theorem Z8I (h : Z0i ls = true) (hc : ∀ c ∈ cs, Z0C c = true) (hp : ∀ l ∈ ls, ∀ c ∈ cs, l.pre <= c.size) : Forest3 (Z0x ls) (pG ls cs) cs.length := by
 have hsp : ∀ g, g < (pG ls cs).length -> ∃ m j, m < ls.length /\ j < (nm ls cs m).length /\ g = Z0g ls cs m + j := fun g hg => Z3L ls cs _ g (by rw [<- Zen]; exact hg)
 have hll := Z3f ls
 have hlen := Z0z h
 have hnd : ∀ m j (hm : m < ls.length) (hj : j < (nm ls cs m).length), (Z0c (pG ls cs) (Z0g ls cs m + j)).items.Nodup := fun m j hm hj => by
  rw [ZaG hm hj]
  exact (Z6C ls cs m _).imp (fun a e => by omega)
 have hlvl : ∀ m j (hm : m < ls.length) (hj : j < (nm ls cs m).length), (Z0c (pG ls cs) (Z0g ls cs m + j)).lvl = (m : Int) := fun m j hm hj => by rw [ZaG hm hj]
 refine ⟨⟨⟨?_, ?_, ?_, ?_, ?_, ?_⟩, ?_, ?_, ?_⟩, ?_, ?_, ?_⟩
 ·intro g hg
  obtain ⟨m, j, hm, hj, rfl⟩ := hsp g hg
  rw [hlvl m j hm hj]
  omega
 ·intro g hg x hx
  obtain ⟨M, J, hM, hJ, rfl⟩ := hsp g hg
  obtain ⟨m, j, hj, rfl, rfl, _, _⟩ := Z26 h hc hp hM hJ hx
  have h1 : Z0g ls cs (m + 1) = Z0g ls cs m + (nm ls cs m).length := rfl
  omega
 ·intro g hg hl0
  obtain ⟨M, J, hM, hJ, rfl⟩ := hsp g hg
  rw [hlvl M J hM hJ] at hl0
  obtain ⟨m, rfl⟩ : ∃ m, M = m + 1 := ⟨M - 1, by omega⟩
  have hback : ∀ q (hq : q < cs.length), Z0e (lv ls (m + 1)) cs[q] = (nm ls cs (m + 1))[J] -> ∃ j, ∃ hj : j < (nm ls cs m).length, Z0e (lv ls m) cs[q] = (nm ls cs m)[j] /\ Z0g ls cs m + j ∈ Z04 (pG ls cs) (Z0g ls cs (m + 1) + J) := fun q hq he => by
   have hmem : Z0e (lv ls m) cs[q] ∈ nm ls cs m := Zes hq
   refine ⟨_, Z35 hmem, (Zgp hmem).symm, ?_⟩
   refine Z2E.2 ⟨ZhS (by omega) (Z35 hmem), ?_⟩
   rw [ZaG (by omega) (Z35 hmem)]
   dsimp only
   rw [if_pos hM]
   obtain ⟨J', hJ', e1, e2⟩ := Zah h hc hp hM (Z35 hmem)
   rw [e1]
   have h4 := e2 q hq (Zgp hmem).symm
   rw [he] at h4
   rw [Zeu hJ hJ' h4]
  refine ⟨?_, ?_⟩
  ·rw [List.perm_ext_iff_of_nodup ?_ (hnd _ _ hM hJ)]
   ·intro i
    rw [Z1A hM hJ, List.mem_flatMap]
    constructor
    ·rintro ⟨x, hx, hi⟩
     obtain ⟨m', j, hj, e0, rfl, _, e2⟩ := Z26 h hc hp hM hJ hx
     obtain rfl : m' = m := by omega
     obtain ⟨q, hq, e3, rfl⟩ := (Z1A (by omega) hj).1 hi
     exact ⟨q, hq, e2 q hq e3, rfl⟩
    ·rintro ⟨q, hq, e3, rfl⟩
     obtain ⟨j, hj, e4, e5⟩ := hback q hq e3
     exact ⟨_, e5, (Z1A (by omega) hj).2 ⟨q, hq, e4, rfl⟩⟩
   ·refine Z4C (Z1J _ _) (fun x hx => ?_) (fun x hx y hy i h1 h2 => ?_)
    ·obtain ⟨m', j, hj, e0, rfl, _, e2⟩ := Z26 h hc hp hM hJ hx
     exact hnd _ _ (by omega) hj
    ·obtain ⟨m', j, hj, e0, rfl, _, _⟩ := Z26 h hc hp hM hJ hx
     obtain ⟨m2, j2, hj2, e02, rfl, _, _⟩ := Z26 h hc hp hM hJ hy
     obtain rfl : m' = m := by omega
     obtain rfl : m2 = m' := by omega
     obtain ⟨q, hq, e3, rfl⟩ := (Z1A (by omega) hj).1 h1
     obtain ⟨q2, hq2, e32, e33⟩ := (Z1A (by omega) hj2).1 h2
     obtain rfl : q = q2 := by omega
     rw [Zeu hj hj2 (e3.symm.trans e32)]
  ·obtain ⟨i, hi, _, hgr⟩ := Z6K (Zet hJ)
   obtain ⟨j, hj, _, e5⟩ := hback i hi hgr
   exact List.ne_nil_of_mem e5
 ·intro g hg x hx
  obtain ⟨M, J, hM, hJ, rfl⟩ := hsp g hg
  obtain ⟨m, j, hj, rfl, rfl, _, _⟩ := Z26 h hc hp hM hJ hx
  rw [hlvl _ _ hM hJ, hlvl _ _ (by omega) hj]
  omega
 ·intro g hg
  obtain ⟨m, j, hm, hj, rfl⟩ := hsp g hg
  rw [ZaG hm hj]
  exact Z8E (Zet hj)
 ·intro l hl
  unfold Z0x at hl
  obtain ⟨l', hl', rfl⟩ := List.mem_map.1 hl
  obtain ⟨i, hi, rfl⟩ := List.mem_iff_getElem.1 hl'
  obtain ⟨_, _, ⟨_, hlv, _, _⟩, _⟩ := Z0E.1 h
  obtain ⟨hh, _⟩ := Z13.1 (hlv i hi hi)
  unfold Z3W at hh
  rw [ZF, decide_eq_true_eq] at hh
  exact hh.2.2.2.1
 ·intro g hg
  obtain ⟨m, j, hm, hj, rfl⟩ := hsp g hg
  exact hnd m j hm hj
 ·intro g hg g' hg' he i h1 h2
  obtain ⟨m, j, hm, hj, rfl⟩ := hsp g hg
  obtain ⟨m', j', hm', hj', rfl⟩ := hsp g' hg'
  rw [hlvl _ _ hm hj, hlvl _ _ hm' hj'] at he
  obtain rfl : m = m' := by omega
  obtain ⟨q, hq, e3, rfl⟩ := (Z1A hm hj).1 h1
  obtain ⟨q2, hq2, e32, e33⟩ := (Z1A hm hj').1 h2
  obtain rfl : q = q2 := by omega
  rw [Zeu hj hj' (e3.symm.trans e32)]
 ·intro g hg i hi
  obtain ⟨m, j, hm, hj, rfl⟩ := hsp g hg
  obtain ⟨q, hq, _, rfl⟩ := (Z1A hm hj).1 hi
  omega
 ·intro g hg hno
  obtain ⟨m, j, hm, hj, rfl⟩ := hsp g hg
  rw [hlvl _ _ hm hj, hll]
  by_cases hk : m + 1 < ls.length
  ·exfalso
   obtain ⟨J', hJ', e1, e2⟩ := Zah h hc hp hk hj
   refine hno _ (ZhS hk hJ') (Z2E.2 ⟨hg, ?_⟩)
   rw [ZaG hm hj]
   dsimp only
   rw [if_pos hk, e1]
  ·omega
 ·intro g hg hl
  obtain ⟨m, j, hm, hj, rfl⟩ := hsp g hg
  rw [hlvl _ _ hm hj, hll] at hl
  unfold Z2w
  rw [hlvl _ _ hm hj]
  obtain ⟨_, _, ⟨_, hlv, _, _⟩, _⟩ := Z0E.1 h
  obtain ⟨_, hh⟩ := Z13.1 (hlv m hm hm)
  rw [decide_eq_true (by omega)] at hh
  simp only [if_true] at hh
  unfold Z0x
  rw [Z2, List.getElem?_map, Int.toNat_natCast, Z3 hm]
  show ls[m].min <= 0
  omega
 ·intro i h0 hn
  have hm : ls.length - 1 < ls.length := by omega
  have hq : i.toNat < cs.length := by omega
  have hmem : Z0e (lv ls (ls.length - 1)) cs[i.toNat] ∈ nm ls cs (ls.length - 1) := Zes hq
  refine ⟨_, ZhS hm (Z35 hmem), ?_, (Z1A hm (Z35 hmem)).2 ⟨i.toNat, hq, (Zgp hmem).symm, by omega⟩⟩
  rw [hlvl _ _ hm (Z35 hmem), hll]
  omega
end Go.Proofs.YtlgajongmkhcnaaGreatDoor
namespace Go.Proofs.YtlgajongmkhcnaaGreatDoor
set_option linter.unusedVariables false
structure TB (N : Nat) (t : List Int) : Prop where
 l1 : 1 <= t.length
 l2 : t.length <= N + 1
 ok : ∀ x ∈ t, -1 <= x
 up : ∀ p, p < t.length -> ent t p <= 1000000 * ((N : Int) - p)
theorem TB.zero : TB 0 [0] := ⟨by simp, by simp, by simp, fun p hp => by
 obtain rfl : p = 0 := by simpa using hp
 show (0 : Int) <= _
 omega⟩
theorem TB.join {N M : Nat} {a b : List Int} (ha : TB N a) (hb : TB M b) : TB (N + M) (Z2I a b) := by
 have hl := Z9M ha.ok hb.ok
 have h1 := ha.l1
 have h2 := ha.l2
 have h3 := hb.l1
 have h4 := hb.l2
 refine ⟨by omega, by omega, Zc2 ha.ok hb.ok, fun p hp => ?_⟩
 rcases Z8D ha.ok hb.ok p with h0 | ⟨i, j, ⟨q1, q2, _, _⟩, rfl, hv⟩
 ·rw [h0]
  omega
 ·rw [hv]
  have := ha.up i q1
  have := hb.up j q2
  omega
theorem TB.mono {N M : Nat} {a : List Int} (ha : TB N a) (h : N <= M) : TB M a := ⟨ha.l1, by have := ha.l2; omega, ha.ok, fun p hp => by have := ha.up p hp; omega⟩
theorem TB.le {N : Nat} {a : List Int} (ha : TB N a) (hN : N <= 2000) : 1 <= a.length /\ a.length <= 5000 /\ ∀ x ∈ a, -1 <= x /\ x <= 1000000000000 := by
 refine ⟨ha.l1, by have := ha.l2; omega, fun x hx => ⟨ha.ok x hx, ?_⟩⟩
 obtain ⟨i, hi, rfl⟩ := List.mem_iff_getElem.1 hx
 have := ha.up i hi
 rw [Z2V hi] at this
 omega
theorem TB.merged {ts : List (List Int)} {N : Nat -> Nat} (h : ∀ i, i < ts.length -> TB (N i) (Z0A ts i)) : ∀ k, k <= ts.length -> TB (sQ ts.length N k) (Z05 ts k)
 | 0, _ => TB.zero
 | k + 1, hk => by
  have e : Z05 ts (k + 1) = Z2I (Z0A ts (ts.length - 1 - k)) (Z05 ts k) := rfl
  rw [e]
  unfold sQ
  rw [Nat.add_comm]
  exact TB.join (h _ (by omega)) (TB.merged h k (by omega))
theorem TB.table {N : Nat} {come : List Int} (h : TB N come) (last : Bool) (mn cents : Int) (hc : 0 <= cents /\ cents <= 1000000) : TB N (Z1h come last mn cents) := by
 have h1 := h.l1
 have h2 := h.l2
 have ht := Zbu come last mn cents h.ok (by omega) hc.1
 have hl := Z61 come last mn cents
 refine ⟨ht.2, by rw [hl]; split <;> omega, ht.1, fun p hp => ?_⟩
 rw [hl] at hp
 rw [Z6V come last mn cents hp]
 have hpl : p < come.length := by
  split at hp <;> omega
 rcases Z72 come mn cents p h.ok hc.1 (come.length - p) with h0 | ⟨j, hj, h3, h4, h5⟩
 ·rw [h0]; omega
 ·rw [h5]
  have h6 := h.up (p + j) (by omega)
  have h7 : Z0h mn cents (p : Nat) (p + j : Nat) <= 1000000 * (j : Int) := by
   unfold Z0h at h3 ⊢
   split at h3
   ·exact absurd rfl h3
   ·rename_i hn
    rw [if_neg hn]
    have e : ((p + j : Nat) : Int) - (p : Int) = j := by omega
    rw [e, Int.mul_comm]
    exact Int.mul_le_mul_of_nonneg_right hc.2 (by omega)
  omega
theorem Zaj {α : Type} (l : List Nat) (f : Nat -> List α) : (l.flatMap f).length = (l.map (fun h => (f h).length)).sum := by
 induction l with
 | nil => rfl
 | cons a r ih => rw [List.flatMap_cons, ZC, ih, List.map_cons, List.sum_cons]
theorem ZiF {l : List Nat} {f : Nat -> Nat} (h : ∀ x ∈ l, 1 <= f x) : l.length <= (l.map f).sum := by
 induction l with
 | nil => exact ZE _
 | cons a r ih =>
  rw [List.map_cons, List.sum_cons, List.length_cons]
  have := h a List.mem_cons_self
  have := ih (fun x hx => h x (List.mem_cons_of_mem _ hx))
  omega
theorem ZaS {ls : List (Int × Int)} {gs : List PGrp} (hF : Forest ls gs) (hc : ∀ l ∈ ls, l.2 <= 1000000) {g : Nat} (hg : g < gs.length) : 0 <= (Z2w ls gs g).2 /\ (Z2w ls gs g).2 <= 1000000 := by
 refine ⟨Z3y hF hg, ?_⟩
 obtain ⟨a, b⟩ := hF.lvl g hg
 have hi : (Z0c gs g).lvl.toNat < ls.length := by omega
 unfold Z2w
 rw [Z2, Z3 hi]
 exact hc _ (Z4 hi)
theorem Z9X (n p : Nat) (hp : p < (List.replicate n (-1 : Int) ++ [0]).length) : ent (List.replicate n (-1) ++ [0]) p <= 1000000 * ((n : Int) - p) := by
 have hl : (List.replicate n (-1 : Int) ++ [0]).length = n + 1 := by simp
 by_cases h : ent (List.replicate n (-1) ++ [0]) p = -1
 ·rw [h]; omega
 ·obtain ⟨rfl, h2⟩ := Z9Y n p h
  rw [h2]; omega
theorem Z62 {ls : List (Int × Int)} {gs : List PGrp} (hF : Forest ls gs) {g : Nat} (hg : g < gs.length) (hl : 0 < (Z0c gs g).lvl) : ((Z04 gs g).map (fun h => (Z0c gs h).items.length)).sum = (Z0c gs g).items.length := by
 rw [<- Zaj]
 exact (hF.parts g hg hl).1.length_eq
theorem ZhA {ls : List (Int × Int)} {gs : List PGrp} (hF : Forest ls gs) {g : Nat} (hg : g < gs.length) (hl : 0 < (Z0c gs g).lvl) : (Z04 gs g).length <= (Z0c gs g).items.length := by
 rw [<- Z62 hF hg hl]
 refine ZiF (fun x hx => ?_)
 have h1 := hF.below g hg x hx
 exact List.length_pos_iff.2 (hF.some_ x (by omega))
theorem Z97 {ls : List (Int × Int)} {gs : List PGrp} {g i : Nat} (hi : i < (Z04 gs g).length) : Z0A (Z0b ls gs g) i = Z10 ls gs ((Z04 gs g).getD i 0) := by
 unfold Z0A Z0b
 rw [Z2, List.getElem?_map, Z2, Z3 hi]
 rfl
theorem Z9z {ls : List (Int × Int)} {gs : List PGrp} (hF : Forest ls gs) {g : Nat} (hg : g < gs.length) (hl : 0 < (Z0c gs g).lvl) (ih : ∀ h, h < g -> TB (Z0c gs h).items.length (Z10 ls gs h)) :
 ∀ k, k <= (Z0b ls gs g).length -> TB (Z0c gs g).items.length (Z05 (Z0b ls gs g) k) := by
 intro k hk
 have hlen : (Z0b ls gs g).length = (Z04 gs g).length := by unfold Z0b; simp
 have := TB.merged (ts := Z0b ls gs g) (N := fun i => (Z0c gs ((Z04 gs g).getD i 0)).items.length) (fun i hi => by
  rw [hlen] at hi
  rw [Z97 hi]
  refine ih _ (hF.below g hg _ ?_)
  rw [Z2, Z3 hi]
  exact Z4 hi) k hk
 refine this.mono ?_
 have h1 := ZdU (Z0b ls gs g).length (fun i => (Z0c gs ((Z04 gs g).getD i 0)).items.length) k hk
 have h2 := Z12 (Z04 gs g) (fun h => (Z0c gs h).items.length)
 rw [<- hlen] at h2
 have h3 := Z62 hF hg hl
 rw [h2] at h1
 omega
theorem Zff {ls : List (Int × Int)} {gs : List PGrp} (hF : Forest ls gs) {g : Nat} (hg : g < gs.length) (ih : ∀ h, h < g -> TB (Z0c gs h).items.length (Z10 ls gs h)) : TB (Z0c gs g).items.length (Z16 ls gs g) := by
 unfold Z16 Z1S
 by_cases h0 : (Z0c gs g).lvl = 0
 ·rw [if_pos h0]
  refine ⟨by simp, by simp, fun x hx => ?_, fun p hp => Z9X _ p hp⟩
  rcases ZG.1 hx with hx | hx
  ·rw [(List.mem_replicate.1 hx).2]; decide
  ·obtain rfl := ZI.1 hx; decide
 ·rw [if_neg h0]
  have hl : 0 < (Z0c gs g).lvl := by have := (hF.lvl g hg).1; omega
  have hne := (hF.parts g hg hl).2
  have hl' : (Z0b ls gs g).length ≠ 0 := by unfold Z0b; rw [Z7]; exact fun h => hne (List.length_eq_zero_iff.1 h)
  rw [if_neg hl']
  exact Z9z hF hg hl ih _ (Z1 _)
theorem Z96 {ls : List (Int × Int)} {gs : List PGrp} (hF : Forest ls gs) (hc : ∀ l ∈ ls, l.2 <= 1000000) : ∀ g, g < gs.length -> TB (Z0c gs g).items.length (Z10 ls gs g) := by
 intro g
 induction g using Nat.strongRecOn with
 | ind g ih =>
  intro hg
  rw [Z47 hF hg]
  exact (Zff hF hg (fun h hh => ih h hh (by omega))).table _ _ _ (ZaS hF hc hg)
theorem ZdJ {ls : List (Int × Int)} {gs : List PGrp} (hF : Forest ls gs) (hc : ∀ l ∈ ls, l.2 <= 1000000) (hi : ∀ g, g < gs.length -> (Z0c gs g).items.length <= 2000) {g : Nat} (hg : g < gs.length) (hl : 0 < (Z0c gs g).lvl) : MOk (Z0b ls gs g) := by
 have hlen : (Z0b ls gs g).length = (Z04 gs g).length := by unfold Z0b; simp
 refine ⟨?_, fun t ht => ?_, fun k hk => ?_⟩
 ·rw [hlen]
  have := ZhA hF hg hl
  have := hi g hg
  omega
 ·obtain ⟨h, hh, rfl⟩ := List.mem_map.1 ht
  have hlt := hF.below g hg h hh
  exact (Z96 hF hc h (by omega)).le (hi h (by omega))
 ·exact (Z9z hF hg hl (fun h hh => Z96 hF hc h (by omega)) k hk).le (hi g hg)
end Go.Proofs.YtlgajongmkhcnaaGreatDoor
namespace Go.Proofs.YtlgajongmkhcnaaGreatDoor
set_option linter.unusedVariables false
def Zc5 (a rest : List Int) (fits : Int -> Int -> Bool) (i : Nat) : Bool :=
 decide (a.getD i (-1) ≠ -1) && (List.range rest.length).any (fun j => decide (rest.getD j (-1) ≠ -1) && fits (i + j : Nat) (a.getD i (-1) + rest.getD j (-1)))
theorem Zj3 {a rest : List Int} {fits : Int -> Int -> Bool} {i : Nat} (hi : i < a.length) (h0 : ∀ i', i' < i -> Zc5 a rest fits i' = false) (h1 : Zc5 a rest fits i = true) : Z83 a rest fits = i := by
 unfold Z83
 have : (List.range a.length).find? (Zc5 a rest fits) = some i := by
  rw [List.find?_eq_some_iff_getElem]
  refine ⟨h1, i, by simpa using hi, by simp, fun j hj => ?_⟩
  rw [List.getElem_range, h0 j hj]; rfl
 unfold Zc5 at this
 rw [this]; rfl
theorem Zj1 {a rest : List Int} {fits : Int -> Int -> Bool} (h0 : ∀ i', i' < a.length -> Zc5 a rest fits i' = false) : Z83 a rest fits = a.length - 1 := by
 unfold Z83
 have : (List.range a.length).find? (Zc5 a rest fits) = none := by
  rw [List.find?_eq_none]
  intro x hx
  rw [h0 x (List.mem_range.1 hx)]
  exact Bool.false_ne_true
 unfold Zc5 at this
 rw [this]; rfl
theorem Zj2 (a rest : List Int) (fits : Int -> Int -> Bool) (h : 1 <= a.length) : Z83 a rest fits < a.length := by
 unfold Z83
 cases hf : (List.range a.length).find? (fun i => decide (a.getD i (-1) ≠ -1) && (List.range rest.length).any (fun j => decide (rest.getD j (-1) ≠ -1) && fits (i + j : Nat) (a.getD i (-1) + rest.getD j (-1)))) with
 | none => show a.length - 1 < _; omega
 | some x => exact List.mem_range.1 (List.mem_of_find?_eq_some hf)
theorem ZgG {a rest : List Int} {fits : Int -> Int -> Bool} {i : Nat} (h : ent a i = -1) : Zc5 a rest fits i = false := by
 unfold Zc5
 unfold ent at h
 rw [h]; rfl
theorem Zi5 {a rest : List Int} {fits : Int -> Int -> Bool} {i j : Nat} (h : ent a i ≠ -1) (hj : j < rest.length) (h2 : ent rest j ≠ -1) (h3 : fits (i + j : Nat) (ent a i + ent rest j) = true) : Zc5 a rest fits i = true := by
 unfold Zc5
 unfold ent at *
 rw [ZF, decide_eq_true_eq, List.any_eq_true]
 exact ⟨h, j, List.mem_range.2 hj, by rw [ZF, decide_eq_true_eq]; exact ⟨h2, h3⟩⟩
theorem ZiY {a rest : List Int} {fits : Int -> Int -> Bool} {i : Nat} (h : ∀ j, j < rest.length -> ent rest j ≠ -1 -> fits (i + j : Nat) (ent a i + ent rest j) = false) : Zc5 a rest fits i = false := by
 unfold Zc5
 unfold ent at *
 rw [Bool.and_eq_false_iff]
 right
 rw [List.any_eq_false]
 intro j hj hh
 rw [ZF, decide_eq_true_eq] at hh
 rw [h j (List.mem_range.1 hj) hh.1] at hh
 cases hh.2
def Zi9 (mn cents P most come saved : Int) (q below : Int) : Bool := decide (Z0h mn cents P (come + q) ≠ -1) && decide (saved + below + Z0h mn cents P (come + q) = most)
def Zbb (mn cents P most : Int) (ts : List (List Int)) (k : Nat) : Nat := Z83 (Z0A ts k) (Z05 ts (ts.length - 1 - k)) (Zi9 mn cents P most (Z1d mn cents P most ts k).1 (Z1d mn cents P most ts k).2.1)
theorem Z4G (mn cents P most : Int) (ts : List (List Int)) (k : Nat) : Z1d mn cents P most ts (k + 1) = ((Z1d mn cents P most ts k).1 + Zbb mn cents P most ts k, (Z1d mn cents P most ts k).2.1 + ent (Z0A ts k) (Zbb mn cents P most ts k), (Z1d mn cents P most ts k).2.2 ++ [Zbb mn cents P most ts k]) := by
 rw [Z1d]
 generalize hd : Z1d mn cents P most ts k = d
 obtain ⟨come, saved, out⟩ := d
 unfold Zbb
 rw [hd]
 rfl
theorem Zba (mn cents P most : Int) (ts : List (List Int)) : ∀ k, (Z1d mn cents P most ts k).2.2.length = k
 | 0 => rfl
 | k + 1 => by rw [Z4G]; dsimp only; rw [ZC, Zba mn cents P most ts k]; rfl
theorem Zfb (mn cents P most : Int) (ts : List (List Int)) (i : Nat) : ∀ k, i < k -> (Z1d mn cents P most ts k).2.2.getD i 0 = Zbb mn cents P most ts i
 | 0, h => absurd h (Nat.not_lt_zero _)
 | k + 1, h => by
  rw [Z4G]
  dsimp only
  by_cases e : i = k
  ·subst e; rw [Z3p (Zba mn cents P most ts i)]
  ·rw [Z3o (by rw [Zba]; omega)]; exact Zfb mn cents P most ts i k (by omega)
theorem Z8T {mn cents P most : Int} {ts : List (List Int)} (hM : MOk ts) {k : Nat} (hk : k < ts.length) : Zbb mn cents P most ts k < (Z0A ts k).length := by
 refine Zj2 _ _ _ ?_
 have : Z0A ts k ∈ ts := by unfold Z0A; rw [Z2, Z3 hk]; exact Z4 hk
 exact (hM.one _ this).1
theorem ZdH {ts : List (List Int)} {k : Nat} (hk : k < ts.length) : Z0A ts k ∈ ts := by unfold Z0A; rw [Z2, Z3 hk]; exact Z4 hk
theorem Zhq {l : List Int} {i : Nat} (h : ∀ x ∈ l, -1 <= x /\ x <= 1000000000000) : -1 <= ent l i /\ ent l i <= 1000000000000 := by
 by_cases hi : i < l.length
 ·rw [Z2V hi]; exact h _ (Z4 hi)
 ·unfold ent; rw [Z2, List.getElem?_eq_none (by omega)]; exact ⟨by decide, by decide⟩
theorem Za0 {mn cents P most : Int} {ts : List (List Int)} (hM : MOk ts) : ∀ k, k <= ts.length -> (Z1d mn cents P most ts k).1 <= k * 5000 /\ -(k : Int) <= (Z1d mn cents P most ts k).2.1 /\ (Z1d mn cents P most ts k).2.1 <= k * 1000000000000
 | 0, _ => ⟨Z1 _, Int.le_refl _, Int.le_refl _⟩
 | k + 1, hk => by
  obtain ⟨a, b, c⟩ := Za0 hM (mn := mn) (cents := cents) (P := P) (most := most) k (by omega)
  rw [Z4G]
  dsimp only
  have h1 := Z8T (mn := mn) (cents := cents) (P := P) (most := most) hM (show k < ts.length by omega)
  have h2 := hM.one _ (ZdH (show k < ts.length by omega))
  have h3 := Zhq (i := Zbb mn cents P most ts k) h2.2.2
  refine ⟨by omega, by omega, by omega⟩
def ZfG (subs : List Nat) (p : Nat -> Nat) (f : Nat -> Int) (k : Nat) : Nat -> Int := fun h => match (subs.take k).idxOf? h with
 | some i => (p i : Int)
 | none => f h
theorem ZdK (subs : List Nat) (p : Nat -> Nat) (f : Nat -> Int) : ZfG subs p f 0 = f := rfl
theorem ZaZ {subs : List Nat} {x k : Nat} (hd : subs.Nodup) (hk : k < subs.length) : (subs.take (k + 1)).idxOf? x = if x = subs[k] then some k else (subs.take k).idxOf? x := by
 have hd' : (subs.take (k + 1)).Nodup := hd.sublist (List.take_sublist _ _)
 by_cases e : x = subs[k]
 ·rw [if_pos e, e]
  have := Z3A hd' (i := k) (by rw [List.length_take]; omega)
  rw [List.getElem_take] at this
  exact this
 ·rw [if_neg e]
  by_cases hm : x ∈ subs.take k
  ·obtain ⟨i, hi, rfl⟩ := List.mem_iff_getElem.1 hm
   rw [List.length_take] at hi
   have h1 := Z3A hd' (i := i) (by rw [List.length_take]; omega)
   have h2 := Z3A (hd.sublist (List.take_sublist k subs)) (i := i) (by rw [List.length_take]; omega)
   rw [List.getElem_take] at h1 h2 ⊢
   rw [h1, h2]
  ·rw [Z4z hm, Z4z]
   rw [Z8 hk, ZG, ZI]
   exact fun h => h.elim hm e
theorem ZdL {subs : List Nat} (p : Nat -> Nat) (f : Nat -> Int) {k : Nat} (hd : subs.Nodup) (hk : k < subs.length) : ZfG subs p f (k + 1) = fun h => if h = subs[k] then (p k : Int) else ZfG subs p f k h := by
 funext h
 unfold ZfG
 rw [ZaZ hd hk]
 by_cases e : h = subs[k]
 ·rw [if_pos e, if_pos e]
 ·rw [if_neg e, if_neg e]
def Z7z (f : Nat -> Int) (n : Nat) : List Int := (List.range n).map f
theorem Z4e (f : Nat -> Int) (n : Nat) : (Z7z f n).length = n := by unfold Z7z; simp
theorem ZbH {f : Nat -> Int} {n i : Nat} (h : i < n) : (Z7z f n).getD i (-1) = f i := by
 unfold Z7z
 rw [Z2, List.getElem?_map, List.getElem?_range h]; rfl
theorem ZfW (f : Nat -> Int) {n i : Nat} (h : i < n) (x : Int) : (Z7z f n).set i x = Z7z (fun j => if j = i then x else f j) n := by
 unfold Z7z
 apply List.ext_getElem
 ·simp
 ·intro j h1 h2
  rw [List.getElem_set, List.getElem_map, List.getElem_map, List.getElem_range]
  by_cases e : i = j
  ·rw [if_pos e, if_pos e.symm]
  ·rw [if_neg e, if_neg (fun h => e h.symm)]
theorem ZfX (x : Int) (n : Nat) : List.replicate n x = Z7z (fun _ => x) n := by
 unfold Z7z
 apply List.ext_getElem
 ·simp
 ·intro j h1 h2; simp
theorem Z7J (ls : List (Int × Int)) (gs : List PGrp) (tabs : List (List Int)) (k : Nat) : Z1z ls gs tabs (k + 1) =
 ZfG (Z04 gs (gs.length - 1 - k)) (Zbb (Z2w ls gs (gs.length - 1 - k)).1 (Z2w ls gs (gs.length - 1 - k)).2 (Z1z ls gs tabs k (gs.length - 1 - k)) ((tabs.getD (gs.length - 1 - k) []).getD (Z1z ls gs tabs k (gs.length - 1 - k)).toNat (-1)) ((Z04 gs (gs.length - 1 - k)).map (fun h => tabs.getD h []))) (Z1z ls gs tabs k) (Z04 gs (gs.length - 1 - k)).length := by
 rw [Z3R]
 funext h
 unfold ZfG
 rw [List.take_length]
 by_cases hm : h ∈ Z04 gs (gs.length - 1 - k)
 ·obtain ⟨i, hi, rfl⟩ := List.mem_iff_getElem.1 hm
  rw [Z3A (Z1J _ _) hi]
  dsimp only
  unfold Z6l
  rw [Zfb _ _ _ _ _ i _ hi]
 ·rw [Z4z hm]
end Go.Proofs.YtlgajongmkhcnaaGreatDoor
namespace Go.Proofs.YtlgajongmkhcnaaGreatDoor
open Go.RowKit Go.Sort Go.Shelf
set_option linter.unusedVariables false
set_option maxRecDepth 100000
theorem ZeG {ls : List Lev} {Gs : List Grp} {g lv : Nat} (hg : g < Gs.length) (hlv : lv < ls.length) (he : Gs[g].lvl = (lv : Int)) : Z2w (Z0x ls) (Z0m Gs) g = (ls[lv].min, ls[lv].cents) := by
 unfold Z2w
 rw [Z2q hg]
 show (Z0x ls).getD (Gs[g].lvl).toNat (0, 0) = _
 rw [he]
 unfold Z0x
 rw [Z2, List.getElem?_map, Int.toNat_natCast, Z3 hlv]
 rfl
theorem Z4g {ls : List Lev} (hc : ∀ l ∈ ls, 0 <= l.cents /\ l.cents <= 1000000) : ∀ l ∈ Z0x ls, l.2 <= 1000000 := fun l hl => by
 unfold Z0x at hl
 obtain ⟨l', hl', rfl⟩ := List.mem_map.1 hl
 exact (hc l' hl').2
theorem Z8F {Gs : List Grp} (hi : ∀ x ∈ Gs, x.items.length <= 2000) : ∀ g, g < (Z0m Gs).length -> (Z0c (Z0m Gs) g).items.length <= 2000 := fun g hg => by
 rw [Z1M] at hg
 rw [Z2q hg]
 exact hi _ (Z4 hg)
theorem ZdF (T BB TB PB base : Nat) (v vg : Value) (Gs : List Grp) (ps : List Int) (g : Nat) (ls : List Lev) (w : World) (h : TreeW w T BB TB PB base v vg Gs (Z10 (Z0x ls) (Z0m Gs)) g ps) (hF : Forest (Z0x ls) (Z0m Gs)) (hg : g < Gs.length) (hn : Gs.length <= 100000)
 (hr : RdLevs w v ls) (hl6 : ls.length <= 1000) (hc : ∀ l ∈ ls, 0 <= l.cents /\ l.cents <= 1000000) (hi : ∀ x ∈ Gs, x.items.length <= 2000) :
 Calls Tryz.prog 63 #[.pointer (some ⟨T, 0, none⟩), .int .i64 g] w fun e w' => ∃ a cap, e = .returned (.slice a (Z10 (Z0x ls) (Z0m Gs) g).length cap) /\ Below w.1.size w w' /\
  RowJ w' base (.slice a (Z10 (Z0x ls) (Z0m Gs) g).length cap) (Z10 (Z0x ls) (Z0m Gs) g) := by
 have hgp : g < (Z0m Gs).length := by rw [Z1M]; exact hg
 have hga := Z2q hg
 have hll := Z3f ls
 obtain ⟨l0, l1⟩ := hF.lvl g hgp
 rw [hga] at l0 l1
 have l0' : 0 <= Gs[g].lvl := l0
 have l1' : Gs[g].lvl < ((Z0x ls).length : Int) := l1
 obtain ⟨lv, hle⟩ : ∃ lv : Nat, Gs[g].lvl = (lv : Int) := ⟨_, (Int.toNat_of_nonneg l0').symm⟩
 have hlv : lv < ls.length := by omega
 have htab : Z10 (Z0x ls) (Z0m Gs) g = Z1h (Z16 (Z0x ls) (Z0m Gs) g) (decide (lv + 1 = ls.length)) ls[lv].min ls[lv].cents := by
  rw [Z47 hF hgp, ZeG hg hlv hle, hga]
  congr 1
  rw [decide_eq_decide]
  show Gs[g].lvl = _ ↔ _
  rw [hle, hll]
  omega
 have hco : Z16 (Z0x ls) (Z0m Gs) g = Z1S Gs[g].lvl Gs[g].items.length ((Z04 (Z0m Gs) g).map (Z10 (Z0x ls) (Z0m Gs))) := by
  unfold Z16 Z0b
  rw [hga]; rfl
 have hi' := Z8F hi
 have hC := (Zff hF hgp (fun h hh => Z96 hF (Z4g hc) h (by omega))).le (hi' g hgp)
 rw [htab]
 refine Zcu T BB TB PB base v vg Gs (Z10 (Z0x ls) (Z0m Gs)) g ps g ls lv (Z16 (Z0x ls) (Z0m Gs) g) w h hg hr hlv hle hl6 (hc _ (Z4 hlv)) ⟨hC.1, hC.2.1⟩ hC.2.2 (fun W hW => ?_)
 rw [hco]
 refine ZgQ T BB TB PB base v vg Gs (Z10 (Z0x ls) (Z0m Gs)) g ps g W (h.below hW) hg hn (by have := hi _ (Z4 hg); omega) (fun x hx => hF.below g hgp x hx) (by omega) (fun hne => ?_)
 refine ZdJ hF (Z4g hc) hi' hgp ?_
 rw [hga]
 show 0 < Gs[g].lvl
 omega
end Go.Proofs.YtlgajongmkhcnaaGreatDoor
namespace Go.Proofs.YtlgajongmkhcnaaGreatDoor
open Go.RowKit Go.Sort Go.Shelf
set_option linter.unusedVariables false
set_option maxRecDepth 100000
structure FitAt (w : World) (SB CB VB MB X Y : Nat) (mn cents P come saved most : Int) : Prop where
 s : w.cell? ⟨SB, 0, none⟩ = some (.func (.func 131) #[] #[.pointer (some ⟨X, 0, none⟩), .pointer (some ⟨Y, 0, none⟩)])
 c : w.cell? ⟨CB, 0, none⟩ = some (.int .i64 come)
 v : w.cell? ⟨VB, 0, none⟩ = some (.int .i64 saved)
 m : w.cell? ⟨MB, 0, none⟩ = some (.int .i64 most)
 a : SavAt w X Y P mn cents
def ZjA (SB CB VB MB : Nat) : Value := .func (.func 104) #[] #[.pointer (some ⟨SB, 0, none⟩), .pointer (some ⟨CB, 0, none⟩), .pointer (some ⟨VB, 0, none⟩), .pointer (some ⟨MB, 0, none⟩)]
theorem Zi8 (q b : Int) (SB CB VB MB X Y : Nat) (mn cents P come saved most : Int) (w : World) (h : FitAt w SB CB VB MB X Y mn cents P come saved most)
 (hp : 0 <= P /\ P <= 1000000) (hc : 0 <= come + q /\ come + q <= 1000000) (hcc : 0 <= cents /\ cents <= 1000000) (hs : -10000000000000000 <= saved /\ saved <= 10000000000000000) (hb : -10000000000000000 <= b /\ b <= 10000000000000000) :
 Calls Tryz.prog 104 #[.int .i64 q, .int .i64 b, .pointer (some ⟨SB, 0, none⟩), .pointer (some ⟨CB, 0, none⟩), .pointer (some ⟨VB, 0, none⟩), .pointer (some ⟨MB, 0, none⟩)] w fun e w' => e = .returned (.bool (Zi9 mn cents P most come saved q b)) /\ w = w' := by
 obtain ⟨h1, h2, h3, h4, h5⟩ := h
 have hsv := Z4X (come + q) P mn cents X Y w h5 hp hc hcc
 have hrg : -1 <= Z0h mn cents P (come + q) /\ Z0h mn cents P (come + q) <= 1000000000000 := by
  unfold Z0h
  split
  ·omega
  ·have k1 : 0 <= (come + q - P) * cents := Int.mul_nonneg (by omega) hcc.1
   have k2 : (come + q - P) * cents <= 1000000 * 1000000 := Int.mul_le_mul (by omega) hcc.2 hcc.1 (by omega)
   omega
 unfold Zi9
 obtain ⟨own, hown⟩ : ∃ o, o = Z0h mn cents P (come + q) := ⟨_, rfl⟩
 rw [<- hown] at hsv hrg ⊢
 have HSV := Z0 hsv
 clear hown hsv h5
 go_enter Tryz.func104, Tryz.ntmps104
 by_cases ho : own = -1
 ·have hq1 : (own != -1) = false := by simp [ho]
  go_wp2_with (go_at_call 131; refine HSV.out.mono ?_; rintro e w7 ⟨rfl, h7⟩; obtain rfl : w = w7 := h7)
  go_ret
  simp [ho]
 ·have hq1 : (own != -1) = true := by simp [ho]
  go_wp2_with (go_at_call 131; refine HSV.out.mono ?_; rintro e w7 ⟨rfl, h7⟩; obtain rfl : w = w7 := h7)
  go_ret
  simp [ho]
  rfl
theorem Zia (xs ys : List Int) (va vb : Value) (SB CB VB MB X Y : Nat) (mn cents P come saved most : Int) (w : World) (h : FitAt w SB CB VB MB X Y mn cents P come saved most)
 (hx : RdInts w va xs) (hy : RdInts w vb ys) (h1 : 1 <= xs.length /\ xs.length <= 5000) (h2 : 1 <= ys.length /\ ys.length <= 5000) (bx : ∀ x ∈ xs, -1 <= x /\ x <= 1000000000000) (by_ : ∀ y ∈ ys, -1 <= y /\ y <= 1000000000000)
 (hp : 0 <= P /\ P <= 1000000) (hc : 0 <= come /\ come <= 900000) (hcc : 0 <= cents /\ cents <= 1000000) (hs : -10000000000000000 <= saved /\ saved <= 10000000000000000) :
 Calls Tryz.prog 105 #[va, vb, ZjA SB CB VB MB] w fun e w' => e = .returned (.int .i64 (Z83 xs ys (Zi9 mn cents P most come saved) : Nat)) /\ w = w' := by
 obtain ⟨a, ca, rfl, hax⟩ := hx
 obtain ⟨b, cb, rfl, hby⟩ := hy
 obtain ⟨gx, ox, rfl, hgx, hcx⟩ := hax (by omega)
 obtain ⟨gy, oy, rfl, hgy, hcy⟩ := hby (by omega)
 have HX := Z0 hcx
 have HY := Z0 hcy
 have HBX := Z0 bx
 have HBY := Z0 by_
 have HFT : Hid (∀ q b : Int, 0 <= q /\ q <= 10000 -> -10000000000000000 <= b /\ b <= 10000000000000000 -> Calls Tryz.prog 104 #[.int .i64 q, .int .i64 b, .pointer (some ⟨SB, 0, none⟩), .pointer (some ⟨CB, 0, none⟩), .pointer (some ⟨VB, 0, none⟩), .pointer (some ⟨MB, 0, none⟩)] w fun e w' => e = .returned (.bool (Zi9 mn cents P most come saved q b)) /\ w = w') :=
  fun q b hq hb => Zi8 q b SB CB VB MB X Y mn cents P come saved most w h hp (by omega) hcc hs hb
 obtain ⟨F, hF⟩ : ∃ F, F = Zi9 mn cents P most come saved := ⟨_, rfl⟩
 rw [<- hF] at HFT ⊢
 have HAT := Z0 (fun i (hi : i < xs.length) => Zj3 (a := xs) (rest := ys) (fits := F) hi)
 have HNO := Z0 (Zj1 (a := xs) (rest := ys) (fits := F))
 obtain ⟨N, hN⟩ : ∃ N, N = Z83 xs ys F := ⟨_, rfl⟩
 rw [<- hN] at HAT HNO ⊢
 clear hF hN hax hby hcx hcy bx by_ h hp hc hcc hs
 unfold ZjA
 go_enter Tryz.func105, Tryz.ntmps105
 go_wp2_with fail
 go_loopw [13] (fun i wr => ∃ k : Nat, k <= xs.length /\ i = .int .i64 k /\ w = wr /\ ∀ i', i' < k -> Zc5 xs ys F i' = false) (fun i _ => xs.length - (intOf i).toNat)
 case atStart => exact ⟨0, ZE _, rfl, rfl, fun i' h => absurd h (Nat.not_lt_zero _)⟩
 case round =>
  obtain ⟨k, hk, rfl, hW, hno⟩ := hrel
  subst hW
  have HB := Z0 hno
  clear hno
  by_cases hlt : k < xs.length
  ·have c1 := HX.out k hlt
   have bxk := HBX.out _ (Z4 hlt)
   have hen := Z2V hlt
   obtain ⟨x, hx⟩ : ∃ x, x = xs[k] := ⟨_, rfl⟩
   rw [<- hx] at c1 bxk hen
   have HEN := Z0 hen
   clear hx hen
   by_cases hx1 : x = -1
   ·have hq : (x == -1) = true := by simp [hx1]
    go_wp2_with fail
    go_roundw
    case rel =>
     refine ⟨k + 1, by omega, by go_num, (by first | rfl | trivial), fun i' h' => ?_⟩
     by_cases e : i' = k
     ·subst e; exact ZgG (HEN.out.trans hx1)
     ·exact HB.out i' (by omega)
    case measure => simp [intOf]; omega
   ·have hq : (x == -1) = false := by simp [hx1]
    go_wp2_with fail
    go_loopw [22] (fun j wq => ∃ m : Nat, m <= ys.length /\ j = .int .i64 m /\ w = wq /\ ∀ j', j' < m -> ent ys j' ≠ -1 -> F (k + j' : Nat) (x + ent ys j') = false) (fun j _ => ys.length - (intOf j).toNat)
    case atStart => exact ⟨0, ZE _, rfl, rfl, fun i' h => absurd h (Nat.not_lt_zero _)⟩
    case round =>
     obtain ⟨m, hm, rfl, hW, hno⟩ := hrel
     subst hW
     have HM := Z0 hno
     clear hno
     by_cases hltm : m < ys.length
     ·have c2 := HY.out m hltm
      have byk := HBY.out _ (Z4 hltm)
      have hen2 := Z2V hltm
      obtain ⟨y, hy⟩ : ∃ y, y = ys[m] := ⟨_, rfl⟩
      rw [<- hy] at c2 byk hen2
      have HEN2 := Z0 hen2
      clear hy hen2
      by_cases hy1 : y = -1
      ·have hq2 : (y != -1) = false := by simp [hy1]
       go_wp2_with fail
       go_roundw
       case rel =>
        refine ⟨m + 1, by omega, by go_num, (by first | rfl | trivial), fun j' h' hne => ?_⟩
        by_cases e : j' = m
        ·subst e; exact absurd (HEN2.out.trans hy1) hne
        ·exact HM.out j' (by omega) hne
       case measure => simp [intOf]; omega
      ·have hq2 : (y != -1) = true := by simp [hy1]
       have hft := HFT.out ((k : Int) + (m : Int)) (x + y) (by omega) (by omega)
       obtain ⟨f, hf⟩ : ∃ f, f = F ((k : Int) + (m : Int)) (x + y) := ⟨_, rfl⟩
       rw [<- hf] at hft
       have HFF := Z0 hft
       have HF := Z0 hf
       clear hf hft
       cases f
       ·go_wp2_with (go_at_call 104; refine HFF.out.mono ?_; rintro e w7 ⟨rfl, h7⟩; obtain rfl : w = w7 := h7)
        go_roundw
        case rel =>
         refine ⟨m + 1, by omega, by go_num, (by first | rfl | trivial), fun j' h' hne => ?_⟩
         by_cases e : j' = m
         ·subst e; rw [HEN2.out, Int.natCast_add]; exact HF.out.symm
         ·exact HM.out j' (by omega) hne
        case measure => simp [intOf]; omega
       ·go_wp2_with (go_at_call 104; refine HFF.out.mono ?_; rintro e w7 ⟨rfl, h7⟩; obtain rfl : w = w7 := h7)
        go_ret
        have := HAT.out k hlt HB.out (Zi5 (by rw [HEN.out]; exact hx1) hltm (by rw [HEN2.out]; exact hy1) (by rw [HEN.out, HEN2.out, Int.natCast_add]; exact HF.out.symm))
        rw [this]
        exact ⟨rfl, rfl⟩
     ·go_wp2_with fail
      go_roundw
      case rel =>
       refine ⟨k + 1, by omega, by go_num, (by first | rfl | trivial), fun i' h' => ?_⟩
       by_cases e : i' = k
       ·subst e; exact ZiY (fun j hj hne => by rw [HEN.out]; exact HM.out j (by omega) hne)
       ·exact HB.out i' (by omega)
      case measure => simp [intOf]; omega
  ·go_wp2_with fail
   go_ret
   rw [HNO.out (fun i' h' => HB.out i' (by omega)), Int.ofNat_sub h1.1]
   exact ⟨rfl, rfl⟩
end Go.Proofs.YtlgajongmkhcnaaGreatDoor
