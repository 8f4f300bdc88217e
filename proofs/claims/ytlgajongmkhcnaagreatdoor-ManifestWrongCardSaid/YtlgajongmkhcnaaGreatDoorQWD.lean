import Derived.Test.YtlgajongmkhcnaaGreatDoorQWC
import Derived.Test.YtlgajongmkhcnaaGreatDoorQW7
import Derived.BigQuiet
import Derived.StillTailTactics
set_option maxRecDepth 100000
set_option linter.unusedVariables false
set_option linter.unusedSimpArgs false
set_option maxHeartbeats 32000000
namespace Go.Proofs.YtlgajongmkhcnaaGreatDoor
section
open Go.RowKit Go.Sort Go.Shelf Go.IntWalk
theorem Z6p {mn cents p c : Int} (h0 : 0 <= cents /\ cents <= 1000000) (hp : 0 <= p) (hc : c <= 1000000) : -1 <= Z0h mn cents p c /\ Z0h mn cents p c <= 1000000000000 := by
 unfold Z0h
 split
 ·omega
 ·have h1 : 0 <= (c - p) * cents := Kdg (by omega) h0.1
  have h2 : (c - p) * cents <= 1000000 * 1000000 := Int.mul_le_mul (by omega) h0.2 h0.1 (by omega)
  omega
def Z1j (C : List Int) (mn cents : Int) (p : Nat) : List Int := (List.range p).map (fun q => Z0U C mn cents q (C.length - q)) ++ List.replicate (C.length - p) (-1)
theorem Z29 (C : List Int) (mn cents : Int) {p : Nat} (h : p <= C.length) : (Z1j C mn cents p).length = C.length := by unfold Z1j; simp; omega
theorem ZaD (C : List Int) (mn cents : Int) : Z1j C mn cents 0 = List.replicate C.length (-1) := by unfold Z1j; simp
theorem ZbU {n p : Nat} (h : p < n) : List.replicate (n - p) (-1 : Int) = -1 :: List.replicate (n - (p + 1)) (-1) := by
 rw [show n - p = (n - (p + 1)) + 1 by omega, List.replicate_succ]
theorem Z7N (C : List Int) (mn cents : Int) {p : Nat} (h : p < C.length) : (Z1j C mn cents p).set p (Z0U C mn cents p (C.length - p)) = Z1j C mn cents (p + 1) := by
 unfold Z1j
 rw [Kc2 _ _ (by simp), Z7, Kay, Kb3, Kaq, ZD, Kbc]
 congr 1
 rw [ZbU h]
 simp
theorem Z5A (C : List Int) (mn cents : Int) {p : Nat} (h : p < C.length) : (Z1j C mn cents p).set p (Z0U C mn cents p 0) = Z1j C mn cents p := by
 have e : Z0U C mn cents p 0 = -1 := by unfold Z0U; simp
 rw [e]
 unfold Z1j
 rw [Kc2 _ _ (by simp), Z7, Kay, Kb3]
 congr 1
 rw [ZbU h]
 simp
theorem Z9o (C : List Int) (mn cents : Int) (last : Bool) (h : 0 < C.length) : (Z1j C mn cents (if last then 1 else C.length)).take (if last then 1 else C.length) = Z1i C last mn cents := by
 have h1 : (if last then 1 else C.length) <= C.length := by split <;> omega
 unfold Z1j Z1i
 rw [Kdk (by simp), Kas (by simp)]
theorem SavAt.of_blocks {w w' : World} {X Y : Nat} {p m c : Int} (h : SavAt w X Y p m c) (hX : w'.1[X]? = w.1[X]?) (hY : w'.1[Y]? = w.1[Y]?) : SavAt w' X Y p m c :=
 ⟨(Kak (w := w) hX).trans h.1, (Kak (w := w) hY).trans h.2.1, (Kak (w := w) hY).trans h.2.2⟩
theorem SavAt.set {w : World} {X Y : Nat} {p m c : Int} (h : SavAt w X Y p m c) {a : Addr} (hX : X ≠ a.block) (hY : Y ≠ a.block) (v : Value) : SavAt (w.setCell a v) X Y p m c :=
 h.of_blocks (ZA _ _ _ _ hX) (ZA _ _ _ _ hY)
theorem SavAt.new (w : World) (l : Lev) (sv : Value) (p : Int) : SavAt ((w.alloc (Z5V l sv)).alloc (.cells #[.int .i64 p] 3)) (w.1.size + 1) w.1.size p l.min l.cents := by
 have e : (w.alloc (Z5V l sv)).1.size = w.1.size + 1 := by simp
 have h1 : ((w.alloc (Z5V l sv)).alloc (.cells #[.int .i64 p] 3)).1[w.1.size]? = some (Z5V l sv) := (((Z9 _ (w.alloc (Z5V l sv))).alloc (Z1 _) _).block w.1.size (by omega)).trans (Z02 _ _)
 have h2 : ((w.alloc (Z5V l sv)).alloc (.cells #[.int .i64 p] 3)).1[w.1.size + 1]? = some (.cells #[.int .i64 p] 3) := by rw [<- e]; exact Z02 _ _
 obtain ⟨x0, x1, x2, x3, x4⟩ := Zfx h1
 exact ⟨Kaa _ _ 0 _ _ _ h2, x3, x4⟩
theorem ZcB (T BB TB PB base : Nat) (v vg : Value) (Gs : List Grp) (tabs : Nat -> List Int) (m : Nat) (ps : List Int) (g : Nat) (ls : List Lev) (lv : Nat) (C : List Int) (w : World) (h : TreeW w T BB TB PB base v vg Gs tabs m ps) (hg : g < Gs.length)
 (hr : RdLevs w v ls) (pD : lv < ls.length) (qA : Gs[g].lvl = (lv : Int)) (rK : ls.length <= 1000) (qB : 0 <= ls[lv].cents /\ ls[lv].cents <= 1000000)
 (hC : 1 <= C.length /\ C.length <= 5000) (rL : ∀ x ∈ C, -1 <= x /\ x <= 1000000000000)
 (rM : ∀ W, Below w.1.size w W -> Calls Tryz.prog 99 #[.pointer (some ⟨T, 0, none⟩), .int .i64 g] W fun e w' => ∃ a cap, e = .returned (.slice a C.length cap) /\ Below W.1.size W w' /\ RowJ w' base (.slice a C.length cap) C) :
 Calls Tryz.prog 63 #[.pointer (some ⟨T, 0, none⟩), .int .i64 g] w fun e w' => ∃ a cap, e = .returned (.slice a (Z1i C (decide (lv + 1 = ls.length)) ls[lv].min ls[lv].cents).length cap) /\ Below w.1.size w w' /\
  RowJ w' base (.slice a (Z1i C (decide (lv + 1 = ls.length)) ls[lv].min ls[lv].cents).length cap) (Z1i C (decide (lv + 1 = ls.length)) ls[lv].min ls[lv].cents) := by
 obtain ⟨l1, l2, l3, l4, l5⟩ := h.lt
 obtain ⟨c0, c1, c2, c3, c4⟩ := h.tr.c
 obtain ⟨ag, cg, rfl, pN⟩ := h.gr
 obtain ⟨gg, og, rfl, sO, rN⟩ := pN (by omega)
 obtain ⟨gsv, sP, g0, g1, g2, g3⟩ := rN g hg
 rw [qA] at g0
 obtain ⟨al, cl, rfl, pY⟩ := hr
 obtain ⟨gl, ol, rfl, rA, rO⟩ := pY (by omega)
 obtain ⟨lsv, sR, qS⟩ := rO lv pD
 obtain ⟨ai, ci, rfl, _⟩ := sP
 obtain ⟨al', cl', rfl, _⟩ := sR
 obtain ⟨l, hl⟩ : ∃ l, l = ls[lv] := ⟨_, rfl⟩
 rw [<- hl] at qS qB ⊢
 have qC := Z0 (Z9o C l.min l.cents (decide (lv + 1 = ls.length)) (by omega))
 obtain ⟨R, hR⟩ : ∃ R, R = Z1i C (decide (lv + 1 = ls.length)) l.min l.cents := ⟨_, rfl⟩
 rw [<- hR] at qC ⊢
 clear hR
 obtain ⟨n1, rP⟩ : ∃ n, n = Gs[g].items.length := ⟨_, rfl⟩
 obtain ⟨n2, rQ⟩ : ∃ n, n = l.labs.length := ⟨_, rfl⟩
 rw [<- rP] at g3
 rw [<- rQ] at qS
 obtain ⟨nm, rR⟩ : ∃ n, n = Gs[g].name := ⟨_, rfl⟩
 obtain ⟨up, rS⟩ : ∃ n, n = Gs[g].up := ⟨_, rfl⟩
 rw [<- rR] at g1
 rw [<- rS] at g2
 have rT := Z0 rM
 have rU := Z0 rL
 clear pN rN pY rO hl rP rR rS rM rL c2 c3 c4 h
 obtain ⟨w1, sS⟩ : ∃ w1 : World, w1 = w.alloc (.cells #[.int .i64 lv, .string nm, .int .i64 up, .slice ai n1 ci] 107) := ⟨_, rfl⟩
 go_enter Tryz.func63, Tryz.ntmps63
 go_wp2_with (first
  | (go_at_call 99; refine (rT.out _ ((Z9 _ w).alloc (Z1 _) _)).mono ?_; rintro e w2 ⟨ac, cc, rfl, qT, rV⟩)
  | (go_at_call 100; refine (Z5c (-1) C.length w2.1.size 0 1 _ (by omega) (by simp [go_sem]) (by simp)).mono ?_; rintro e w3 ⟨gr, rfl, rW, rX, rY⟩))
 have pO : Below w.1.size w w2 := Z0m (Z9 _ w) (Z1 _) qT
 have tA : w.1.size + 1 <= w2.1.size := by have := qT.size; simp at this; exact this
 have pL : Below w2.1.size w2 w3 := Z0m (Z9 _ w2) (Z1 _) rY
 have t0 : w2.cell? ⟨T, 0, none⟩ = some (.slice (some ⟨gl, ol, none⟩) ls.length cl) := (pO.cell (p := ⟨T, 0, none⟩) (by show T < _; omega)).trans c0
 have bx : w2.cell? ⟨w.1.size, 0, none⟩ = some (.int .i64 lv) := (qT.cell (p := ⟨w.1.size, 0, none⟩) (by simp)).trans (Kaa _ _ 0 _ _ _ (Z02 w _))
 have lat := qS.below pO rA
 have rZ : gl < w2.1.size := ZH rA pO.size
 have sT := rV.rd
 obtain ⟨ac', cc', sA, pF⟩ := sT
 have q1 : ac = ac' := by injection sA
 subst q1
 obtain ⟨ga, oa, rfl, pP, sB⟩ := pF (by omega)
 have sC := Z0 sB
 have tB : w2.1.size < gr := by simp at rW; omega
 have I0 : IntsAt w3 gr (Z1j C l.min l.cents 0) := by rw [ZaD]; exact rX
 have qU : T < w2.1.size := by omega
 have qD : Hid (∀ (p : Int) (W : World), Calls Tryz.prog 101 #[.agg #[.string l.name, .int .i64 l.pre, .slice al' n2 cl', .int .i64 l.min, .int .i64 l.cents], .int .i64 p] W fun e w' => e = .returned (.func (.func 131) #[] #[.pointer (some ⟨W.1.size + 1, 0, none⟩), .pointer (some ⟨W.1.size, 0, none⟩)]) /\
  Below W.1.size W w' /\ SavAt w' (W.1.size + 1) W.1.size p l.min l.cents /\ w'.1.size = W.1.size + 2) := fun p W => by
  refine (Z9l l (.slice al' n2 cl') p W).mono ?_
  rintro e w' ⟨rfl, rfl⟩
  exact ⟨rfl, ((Z9 _ W).alloc (Z1 _) _).alloc (by simp) _, SavAt.new _ _ _ _, by simp⟩
 clear rQ qT rY rV sA pF sB rW rX c0 c1 g0 g1 g2 g3 qS rT sS rA sO
 by_cases sD : lv + 1 = ls.length
 ·have sU := hC.1
  have hq : ((lv : Int) == (ls.length : Int) - 1) = true := by simp; omega
  have u0 := (pL.cell (p := ⟨T, 0, none⟩) qU).trans t0
  have ub := (pL.cell (p := ⟨w.1.size, 0, none⟩) (by show w.1.size < _; omega)).trans bx
  go_quiet (fail)
  clear u0 ub
  have qE : (Z1j C l.min l.cents 1).take 1 = R := by have h := qC.out; simpa [sD] using h
  have qF := Z0 qE
  have pQ : 1 <= C.length := by omega
  clear qE qC
  go_wp2_with fail
  go_loopw [39] (fun i wr => ∃ p : Nat, p <= 1 /\ i = .int .i64 p /\ Below w2.1.size w2 wr /\ IntsAt wr gr (Z1j C l.min l.cents p)) (fun i _ => 1 - (intOf i).toNat)
  case atStart => exact ⟨0, ZE _, rfl, below_drewN pL _, I0⟩
  case round =>
   clear pL I0
   obtain ⟨p, hp, rfl, hB, hI⟩ := hrel
   by_cases pI : p < 1
   ·have u0 := (hB.cell (p := ⟨T, 0, none⟩) qU).trans t0
    have ub := (hB.cell (p := ⟨w.1.size, 0, none⟩) (by show w.1.size < _; omega)).trans bx
    obtain ⟨y0, y1, y2, y3, y4⟩ := lat.below hB rZ
    have qG := hI.lt
    go_wp2_with fail
    go_still_tail 9, (by kernel_rfl)
    change wpList _ _ _ _ _ wr.drew
    go_wp2_with (go_at_call 101; refine (qD.out _ _).mono ?_; rintro e w6 ⟨rfl, pR, qH, rB⟩)
    all_goals
     have qI : Below w2.1.size w2 w6 := Z01 hB.drew hB.drew.size pR
     have pS : IntsAt w6 gr ((Z1j C l.min l.cents p).set p (Z0U C l.min l.cents p 0)) := by rw [Z5A C l.min l.cents (by omega)]; exact (pR.block gr qG).trans hI
     have pT : SavAt w6 (wr.1.size + 1) wr.1.size p l.min l.cents := qH
     have rC := Z29 C l.min l.cents (show p <= C.length by omega)
     have qJ := Z7N C l.min l.cents (show p < C.length by omega)
     have qK := Z0 qJ
     obtain ⟨X, hX⟩ : ∃ X, X = Z1j C l.min l.cents p := ⟨_, rfl⟩
     rw [<- hX] at pS rC qK
     clear hX qJ u0 ub y0 y1 y2 y3 y4 pR qH rB hI hB
     generalize wr.1.size = vx at pT qG ⊢
     go_wp2_with fail
     go_loopw [10] (fun i wq => ∃ k : Nat, p + k <= C.length /\ i = .int .i64 ((p + k : Nat) : Int) /\ Below w2.1.size w2 wq /\ SavAt wq (vx + 1) vx p l.min l.cents /\ IntsAt wq gr (X.set p (Z0U C l.min l.cents p k))) (fun i _ => C.length - (intOf i).toNat)
     case atStart => exact ⟨0, by omega, rfl, qI, pT, pS⟩
     case round =>
      clear qI pT pS
      obtain ⟨k, hk, rfl, hB, hs, hI⟩ := hrel
      obtain ⟨n, hn⟩ : ∃ n, n = p + k := ⟨_, rfl⟩
      rw [<- hn] at hk ⊢
      have HN := Z0 hn
      by_cases pU : n < C.length
      ·have hsv := Z59 (n : Int) (p : Int) l.min l.cents (vx + 1) vx wr hs (by omega) (by omega) qB
       have qL := Z6p (mn := l.min) (p := (p : Int)) (c := (n : Int)) qB (by omega) (by omega)
       have pA := Z3b C l.min l.cents p k
       dsimp only at pA
       rw [<- hn, Z38 pU] at pA
       have cx : wr.cell? ⟨ga, oa + n, none⟩ = some (.int .i64 C[n]) := (hB.cell (p := ⟨ga, oa + n, none⟩) pP).trans (sC.out n pU)
       have rD := rU.out _ (Z4 pU)
       obtain ⟨own, pM⟩ : ∃ o, o = Z0h l.min l.cents (p : Int) (n : Int) := ⟨_, rfl⟩
       obtain ⟨cv, qM⟩ : ∃ o, o = C[n] := ⟨_, rfl⟩
       rw [<- pM] at hsv qL pA
       rw [<- qM] at cx rD pA
       have pV := Z0 hsv
       clear pM qM hsv hn
       by_cases ho : own = -1
       ·rw [if_neg (by intro h; exact h.1 ho)] at pA
        have pC := Z0 pA
        have qN : (own != -1) = false := by simp [ho]
        clear pA
        go_wp2_with (go_at_call 131; refine pV.out.mono ?_; rintro e w7 ⟨rfl, h7⟩; obtain rfl : wr = w7 := h7)
        go_roundw
        case rel => exact ⟨k + 1, by have := HN.out; omega, by rw [show p + (k + 1) = n + 1 by (have := HN.out; omega)]; go_num, hB, hs, by rw [pC.out]; exact hI⟩
        case measure => simp [intOf]; omega
       ·have qN : (own != -1) = true := by simp [ho]
        by_cases pJ : cv = -1
        ·rw [if_neg (by intro h; exact h.2 pJ)] at pA
         have pC := Z0 pA
         have pW : (cv != -1) = false := by simp [pJ]
         clear pA
         go_wp2_with (go_at_call 131; refine pV.out.mono ?_; rintro e w7 ⟨rfl, h7⟩; obtain rfl : wr = w7 := h7)
         go_roundw
         case rel => exact ⟨k + 1, by have := HN.out; omega, by rw [show p + (k + 1) = n + 1 by (have := HN.out; omega)]; go_num, hB, hs, by rw [pC.out]; exact hI⟩
         case measure => simp [intOf]; omega
        ·rw [if_pos ⟨ho, pJ⟩] at pA
         have pC := Z0 pA
         have pW : (cv != -1) = true := by simp [pJ]
         clear pA
         have d1 := hI.cell (i := p) (by rw [Kb8]; omega)
         have d2 := hI.free p
         have hd : (X.set p (Z0U C l.min l.cents p k)).getD p (-1) = Z0U C l.min l.cents p k := by
          rw [Z2, Kcw (by omega)]; rfl
         rw [hd] at d1
         obtain ⟨acc, qO⟩ : ∃ a, a = Z0U C l.min l.cents p k := ⟨_, rfl⟩
         rw [<- qO] at d1 pC hI
         clear hd qO
         go_wp2_with (go_at_call 131; refine pV.out.mono ?_; rintro e w7 ⟨rfl, h7⟩; obtain rfl : wr = w7 := h7)
         go_still_tail 14, (by kernel_rfl)
         change wpList _ _ _ _ _ wr.drew
         go_wp2_with fail
         all_goals
          go_wp2_with fail
          go_roundw
          case rel =>
           refine ⟨k + 1, by have := HN.out; omega, by rw [show p + (k + 1) = n + 1 by (have := HN.out; omega)]; go_num, hB.drew.setCell (p := ⟨gr, p, none⟩) (by show w2.1.size <= gr; omega) _, SavAt.set hs (by show vx + 1 ≠ gr; omega) (by show vx ≠ gr; omega) _, ?_⟩
           have h9 := hI.set p (max acc (cv + own))
           rw [List.set_set] at h9
           rw [pC.out]
           exact h9
          case measure => simp [intOf]; omega
      ·have rE : k = C.length - p := by omega
       clear hn
       go_wp2_with fail
       go_roundw
       case rel =>
        refine ⟨p + 1, by omega, by go_num, hB, ?_⟩
        rw [<- qK.out, <- rE]
        exact hI
       case measure => simp [intOf]; omega
   ·have rF : p = 1 := by omega
    go_wp2_with fail
    go_ret
    have pY : R.length = 1 := by rw [<- qF.out, Kax, Z29 C l.min l.cents pQ]; omega
    rw [rF] at hI
    have qP := (RowJ.of_ints (base := base) hI (by omega) C.length).take (k := 1) (cap' := C.length) (by rw [Z29 C l.min l.cents pQ]; exact pQ)
    rw [qF.out] at qP
    rw [pY]
    exact ⟨_, C.length, rfl, pO.trans (hB.mono pO.size), qP⟩
 ·have sU := hC.1
  have hq : ((lv : Int) == (ls.length : Int) - 1) = false := by simp; omega
  have u0 := (pL.cell (p := ⟨T, 0, none⟩) qU).trans t0
  have ub := (pL.cell (p := ⟨w.1.size, 0, none⟩) (by show w.1.size < _; omega)).trans bx
  go_quiet (fail)
  clear u0 ub
  have qE : (Z1j C l.min l.cents C.length).take C.length = R := by have h := qC.out; simpa [sD] using h
  have qF := Z0 qE
  have pQ : C.length <= C.length := by omega
  clear qE qC
  go_wp2_with fail
  go_loopw [39] (fun i wr => ∃ p : Nat, p <= C.length /\ i = .int .i64 p /\ Below w2.1.size w2 wr /\ IntsAt wr gr (Z1j C l.min l.cents p)) (fun i _ => C.length - (intOf i).toNat)
  case atStart => exact ⟨0, ZE _, rfl, below_drewN pL _, I0⟩
  case round =>
   clear pL I0
   obtain ⟨p, hp, rfl, hB, hI⟩ := hrel
   by_cases pI : p < C.length
   ·have u0 := (hB.cell (p := ⟨T, 0, none⟩) qU).trans t0
    have ub := (hB.cell (p := ⟨w.1.size, 0, none⟩) (by show w.1.size < _; omega)).trans bx
    obtain ⟨y0, y1, y2, y3, y4⟩ := lat.below hB rZ
    have qG := hI.lt
    go_wp2_with fail
    go_still_tail 9, (by kernel_rfl)
    change wpList _ _ _ _ _ wr.drew
    go_wp2_with (go_at_call 101; refine (qD.out _ _).mono ?_; rintro e w6 ⟨rfl, pR, qH, rB⟩)
    all_goals
     have qI : Below w2.1.size w2 w6 := Z01 hB.drew hB.drew.size pR
     have pS : IntsAt w6 gr ((Z1j C l.min l.cents p).set p (Z0U C l.min l.cents p 0)) := by rw [Z5A C l.min l.cents (by omega)]; exact (pR.block gr qG).trans hI
     have pT : SavAt w6 (wr.1.size + 1) wr.1.size p l.min l.cents := qH
     have rC := Z29 C l.min l.cents (show p <= C.length by omega)
     have qJ := Z7N C l.min l.cents (show p < C.length by omega)
     have qK := Z0 qJ
     obtain ⟨X, hX⟩ : ∃ X, X = Z1j C l.min l.cents p := ⟨_, rfl⟩
     rw [<- hX] at pS rC qK
     clear hX qJ u0 ub y0 y1 y2 y3 y4 pR qH rB hI hB
     generalize wr.1.size = vx at pT qG ⊢
     go_wp2_with fail
     go_loopw [10] (fun i wq => ∃ k : Nat, p + k <= C.length /\ i = .int .i64 ((p + k : Nat) : Int) /\ Below w2.1.size w2 wq /\ SavAt wq (vx + 1) vx p l.min l.cents /\ IntsAt wq gr (X.set p (Z0U C l.min l.cents p k))) (fun i _ => C.length - (intOf i).toNat)
     case atStart => exact ⟨0, by omega, rfl, qI, pT, pS⟩
     case round =>
      clear qI pT pS
      obtain ⟨k, hk, rfl, hB, hs, hI⟩ := hrel
      obtain ⟨n, hn⟩ : ∃ n, n = p + k := ⟨_, rfl⟩
      rw [<- hn] at hk ⊢
      have HN := Z0 hn
      by_cases pU : n < C.length
      ·have hsv := Z59 (n : Int) (p : Int) l.min l.cents (vx + 1) vx wr hs (by omega) (by omega) qB
       have qL := Z6p (mn := l.min) (p := (p : Int)) (c := (n : Int)) qB (by omega) (by omega)
       have pA := Z3b C l.min l.cents p k
       dsimp only at pA
       rw [<- hn, Z38 pU] at pA
       have cx : wr.cell? ⟨ga, oa + n, none⟩ = some (.int .i64 C[n]) := (hB.cell (p := ⟨ga, oa + n, none⟩) pP).trans (sC.out n pU)
       have rD := rU.out _ (Z4 pU)
       obtain ⟨own, pM⟩ : ∃ o, o = Z0h l.min l.cents (p : Int) (n : Int) := ⟨_, rfl⟩
       obtain ⟨cv, qM⟩ : ∃ o, o = C[n] := ⟨_, rfl⟩
       rw [<- pM] at hsv qL pA
       rw [<- qM] at cx rD pA
       have pV := Z0 hsv
       clear pM qM hsv hn
       by_cases ho : own = -1
       ·rw [if_neg (by intro h; exact h.1 ho)] at pA
        have pC := Z0 pA
        have qN : (own != -1) = false := by simp [ho]
        clear pA
        go_wp2_with (go_at_call 131; refine pV.out.mono ?_; rintro e w7 ⟨rfl, h7⟩; obtain rfl : wr = w7 := h7)
        go_roundw
        case rel => exact ⟨k + 1, by have := HN.out; omega, by rw [show p + (k + 1) = n + 1 by (have := HN.out; omega)]; go_num, hB, hs, by rw [pC.out]; exact hI⟩
        case measure => simp [intOf]; omega
       ·have qN : (own != -1) = true := by simp [ho]
        by_cases pJ : cv = -1
        ·rw [if_neg (by intro h; exact h.2 pJ)] at pA
         have pC := Z0 pA
         have pW : (cv != -1) = false := by simp [pJ]
         clear pA
         go_wp2_with (go_at_call 131; refine pV.out.mono ?_; rintro e w7 ⟨rfl, h7⟩; obtain rfl : wr = w7 := h7)
         go_roundw
         case rel => exact ⟨k + 1, by have := HN.out; omega, by rw [show p + (k + 1) = n + 1 by (have := HN.out; omega)]; go_num, hB, hs, by rw [pC.out]; exact hI⟩
         case measure => simp [intOf]; omega
        ·rw [if_pos ⟨ho, pJ⟩] at pA
         have pC := Z0 pA
         have pW : (cv != -1) = true := by simp [pJ]
         clear pA
         have d1 := hI.cell (i := p) (by rw [Kb8]; omega)
         have d2 := hI.free p
         have hd : (X.set p (Z0U C l.min l.cents p k)).getD p (-1) = Z0U C l.min l.cents p k := by
          rw [Z2, Kcw (by omega)]; rfl
         rw [hd] at d1
         obtain ⟨acc, qO⟩ : ∃ a, a = Z0U C l.min l.cents p k := ⟨_, rfl⟩
         rw [<- qO] at d1 pC hI
         clear hd qO
         go_wp2_with (go_at_call 131; refine pV.out.mono ?_; rintro e w7 ⟨rfl, h7⟩; obtain rfl : wr = w7 := h7)
         go_still_tail 14, (by kernel_rfl)
         change wpList _ _ _ _ _ wr.drew
         go_wp2_with fail
         all_goals
          go_wp2_with fail
          go_roundw
          case rel =>
           refine ⟨k + 1, by have := HN.out; omega, by rw [show p + (k + 1) = n + 1 by (have := HN.out; omega)]; go_num, hB.drew.setCell (p := ⟨gr, p, none⟩) (by show w2.1.size <= gr; omega) _, SavAt.set hs (by show vx + 1 ≠ gr; omega) (by show vx ≠ gr; omega) _, ?_⟩
           have h9 := hI.set p (max acc (cv + own))
           rw [List.set_set] at h9
           rw [pC.out]
           exact h9
          case measure => simp [intOf]; omega
      ·have rE : k = C.length - p := by omega
       clear hn
       go_wp2_with fail
       go_roundw
       case rel =>
        refine ⟨p + 1, by omega, by go_num, hB, ?_⟩
        rw [<- qK.out, <- rE]
        exact hI
       case measure => simp [intOf]; omega
   ·have rF : p = C.length := by omega
    go_wp2_with fail
    go_ret
    have pY : R.length = C.length := by rw [<- qF.out, Kax, Z29 C l.min l.cents pQ]; omega
    rw [rF] at hI
    have qP := (RowJ.of_ints (base := base) hI (by omega) C.length).take (k := C.length) (cap' := C.length) (by rw [Z29 C l.min l.cents pQ]; exact pQ)
    rw [qF.out] at qP
    rw [pY]
    exact ⟨_, C.length, rfl, pO.trans (hB.mono pO.size), qP⟩
end
section
open Go.RowKit
def Z0z (ls : List Lev) : List (Int × Int) := ls.map (fun l => (l.min, l.cents))
theorem Z3o (ls : List Lev) : (Z0z ls).length = ls.length := by unfold Z0z; simp
theorem Z52 (ls : List Lev) (cs : List ByteArray) {a b : Nat} (h : a <= b) : Z0g ls cs a <= Z0g ls cs b := by
 induction b with
 | zero => obtain rfl : a = 0 := (by omega); exact Z1 _
 | succ b ih =>
  by_cases e : a = b + 1
  ·subst e; exact Z1 _
  ·exact Kaw (ih (by omega)) (Kbr _ _)
theorem Z3X (ls : List Lev) (cs : List ByteArray) : ∀ k g, g < Z0g ls cs k -> ∃ m j, m < k /\ j < (nm ls cs m).length /\ g = Z0g ls cs m + j
 | 0, g, h => absurd h (Ka2 _)
 | k + 1, g, h => by
  by_cases hg : g < Z0g ls cs k
  ·obtain ⟨m, j, h1, h2, h3⟩ := Z3X ls cs k g hg
   exact ⟨m, j, by omega, h2, h3⟩
  ·have h' : g < Z0g ls cs k + (nm ls cs k).length := h
   exact ⟨k, g - Z0g ls cs k, by omega, by omega, by omega⟩
theorem Ze1 {ls : List Lev} {cs : List ByteArray} {m m' j j' : Nat} (h : j < (nm ls cs m).length) (h' : j' < (nm ls cs m').length) (e : Z0g ls cs m + j = Z0g ls cs m' + j') : m = m' /\ j = j' := by
 rcases Nat.lt_trichotomy m m' with hm | hm | hm
 ·have h1 : Z0g ls cs m + (nm ls cs m).length <= Z0g ls cs m' := Z52 ls cs (show m + 1 <= m' from hm)
  omega
 ·subst hm; exact ⟨rfl, by omega⟩
 ·have h1 : Z0g ls cs m' + (nm ls cs m').length <= Z0g ls cs m := Z52 ls cs (show m' + 1 <= m from hm)
  omega
theorem ZeA (ls : List Lev) (cs : List ByteArray) (m : Nat) : StrictB (nm ls cs m) := Z3m _
theorem Zhg {ls : List Lev} {cs : List ByteArray} {m j : Nat} (h : j < (nm ls cs m).length) : idx (nm ls cs m)[j] (nm ls cs m) = j := Z6Y (ZeA ls cs m) h
theorem ZeC {ls : List Lev} {cs : List ByteArray} {m j : Nat} (h : j < (nm ls cs m).length) : (nm ls cs m)[j] ∈ nm ls cs m := Z4 h
theorem ZeD {ls : List Lev} {cs : List ByteArray} {m j j' : Nat} (h : j < (nm ls cs m).length) (h' : j' < (nm ls cs m).length) (e : (nm ls cs m)[j] = (nm ls cs m)[j']) : j = j' := by
 have h1 := Zhg h
 rw [e, Zhg h'] at h1
 exact h1.symm
theorem Zgu {ls : List Lev} {cs : List ByteArray} {m : Nat} {u : ByteArray} (h : u ∈ nm ls cs m) : (nm ls cs m)[idx u (nm ls cs m)]'(Z3g h) = u := by
 have := ZeS h
 rw [Z3 (Z3g h)] at this
 exact Kav this
def pG (ls : List Lev) (cs : List ByteArray) : List PGrp := Z0o (Z0T ls cs ls.length)
theorem Zex (ls : List Lev) (cs : List ByteArray) : (pG ls cs).length = Z0g ls cs ls.length := by unfold pG; rw [Z1S, Z8T]
theorem ZaP {ls : List Lev} {cs : List ByteArray} {m j : Nat} (hm : m < ls.length) (hj : j < (nm ls cs m).length) : Z0c (pG ls cs) (Z0g ls cs m + j) = ⟨m, if m + 1 < ls.length then (Zhb ls cs m (nm ls cs m)[j] : Int) else -1, itm ls cs m (nm ls cs m)[j]⟩ := by
 have hg := Zcf ls cs ls.length m j hm hj
 obtain ⟨pI, he⟩ := Kam.1 hg
 unfold pG
 rw [Z2z pI, he]
 rfl
theorem ZhO {ls : List Lev} {cs : List ByteArray} {m j : Nat} (hm : m < ls.length) (hj : j < (nm ls cs m).length) : Z0g ls cs m + j < (pG ls cs).length := by
 rw [Zex]
 have h1 : Z0g ls cs m + (nm ls cs m).length <= Z0g ls cs ls.length := Z52 ls cs (show m + 1 <= ls.length from hm)
 omega
variable {ls : List Lev} {cs : List ByteArray}
theorem Zat (h : Z0j ls = true) (hc : ∀ c ∈ cs, Z0D c = true) (hp : ∀ l ∈ ls, ∀ c ∈ cs, l.pre <= c.size) {m j : Nat} (hm : m + 1 < ls.length) (hj : j < (nm ls cs m).length) :
 ∃ J, ∃ hJ : J < (nm ls cs (m + 1)).length, Zhb ls cs m (nm ls cs m)[j] = Z0g ls cs (m + 1) + J /\ ∀ q (hq : q < cs.length), Z0e (lv ls m) cs[q] = (nm ls cs m)[j] -> Z0e (lv ls (m + 1)) cs[q] = (nm ls cs (m + 1))[J] := by
 obtain ⟨i, hi, hh, pN⟩ := Z70 (ZeC hj)
 have pB : Z0e (lv ls (m + 1)) (Z71 ls cs m (nm ls cs m)[j]) ∈ nm ls cs (m + 1) := by rw [hh]; exact ZeB hi
 refine ⟨_, Z3g pB, rfl, fun q hq he => ?_⟩
 rw [Zgu pB, hh]
 rw [Z9N hm]
 rw [Z9N (by omega)] at he pN
 exact Z7T h (hc _ (Z4 hq)) (hc _ (Z4 hi)) (fun l hl => hp l hl _ (Z4 hq)) (fun l hl => hp l hl _ (Z4 hi)) m hm (he.trans pN.symm)
theorem Z2c (h : Z0j ls = true) (hc : ∀ c ∈ cs, Z0D c = true) (hp : ∀ l ∈ ls, ∀ c ∈ cs, l.pre <= c.size) {M J x : Nat} (hM : M < ls.length) (hJ : J < (nm ls cs M).length) (hx : x ∈ Z04 (pG ls cs) (Z0g ls cs M + J)) :
 ∃ m j, ∃ hj : j < (nm ls cs m).length, m + 1 = M /\ x = Z0g ls cs m + j /\ Zhb ls cs m (nm ls cs m)[j] = Z0g ls cs M + J /\ ∀ q (hq : q < cs.length), Z0e (lv ls m) cs[q] = (nm ls cs m)[j] -> Z0e (lv ls M) cs[q] = (nm ls cs M)[J] := by
 obtain ⟨h1, h2⟩ := Z2Q.1 hx
 rw [Zex] at h1
 obtain ⟨m, j, hm, hj, rfl⟩ := Z3X ls cs _ _ h1
 rw [ZaP hm hj] at h2
 dsimp only at h2
 by_cases hk : m + 1 < ls.length
 ·rw [if_pos hk] at h2
  obtain ⟨J', hJ', e1, e2⟩ := Zat h hc hp hk hj
  rw [e1] at h2
  have h3 : Z0g ls cs (m + 1) + J' = Z0g ls cs M + J := by omega
  obtain ⟨rfl, rfl⟩ := Ze1 hJ' hJ h3
  exact ⟨m, j, hj, rfl, rfl, e1, e2⟩
 ·rw [if_neg hk] at h2
  omega
theorem Z1F {ls : List Lev} {cs : List ByteArray} {m j : Nat} (hm : m < ls.length) (hj : j < (nm ls cs m).length) {i : Int} : i ∈ (Z0c (pG ls cs) (Z0g ls cs m + j)).items ↔ ∃ q : Nat, ∃ hq : q < cs.length, Z0e (lv ls m) cs[q] = (nm ls cs m)[j] /\ i = q := by
 rw [ZaP hm hj]
 exact Z3s
theorem Z8U (h : Z0j ls = true) (hc : ∀ c ∈ cs, Z0D c = true) (hp : ∀ l ∈ ls, ∀ c ∈ cs, l.pre <= c.size) : Forest3 (Z0z ls) (pG ls cs) cs.length := by
 have pE : ∀ g, g < (pG ls cs).length -> ∃ m j, m < ls.length /\ j < (nm ls cs m).length /\ g = Z0g ls cs m + j := fun g hg => Z3X ls cs _ g (by rw [<- Zex]; exact hg)
 have qQ := Z3o ls
 have qR := Z0y h
 have rG : ∀ m j (hm : m < ls.length) (hj : j < (nm ls cs m).length), (Z0c (pG ls cs) (Z0g ls cs m + j)).items.Nodup := fun m j hm hj => by
  rw [ZaP hm hj]
  exact (Z6S ls cs m _).imp (fun a e => by omega)
 have pH : ∀ m j (hm : m < ls.length) (hj : j < (nm ls cs m).length), (Z0c (pG ls cs) (Z0g ls cs m + j)).lvl = (m : Int) := fun m j hm hj => by rw [ZaP hm hj]
 refine ⟨⟨⟨?_, ?_, ?_, ?_, ?_, ?_⟩, ?_, ?_, ?_⟩, ?_, ?_, ?_⟩
 ·intro g hg
  obtain ⟨m, j, hm, hj, rfl⟩ := pE g hg
  rw [pH m j hm hj]
  omega
 ·intro g hg x hx
  obtain ⟨M, J, hM, hJ, rfl⟩ := pE g hg
  obtain ⟨m, j, hj, rfl, rfl, _, _⟩ := Z2c h hc hp hM hJ hx
  have h1 : Z0g ls cs (m + 1) = Z0g ls cs m + (nm ls cs m).length := rfl
  omega
 ·intro g hg sV
  obtain ⟨M, J, hM, hJ, rfl⟩ := pE g hg
  rw [pH M J hM hJ] at sV
  obtain ⟨m, rfl⟩ : ∃ m, M = m + 1 := ⟨M - 1, by omega⟩
  have sE : ∀ q (hq : q < cs.length), Z0e (lv ls (m + 1)) cs[q] = (nm ls cs (m + 1))[J] -> ∃ j, ∃ hj : j < (nm ls cs m).length, Z0e (lv ls m) cs[q] = (nm ls cs m)[j] /\ Z0g ls cs m + j ∈ Z04 (pG ls cs) (Z0g ls cs (m + 1) + J) := fun q hq he => by
   have pB : Z0e (lv ls m) cs[q] ∈ nm ls cs m := ZeB hq
   refine ⟨_, Z3g pB, (Zgu pB).symm, ?_⟩
   refine Z2Q.2 ⟨ZhO (by omega) (Z3g pB), ?_⟩
   rw [ZaP (by omega) (Z3g pB)]
   dsimp only
   rw [if_pos hM]
   obtain ⟨J', hJ', e1, e2⟩ := Zat h hc hp hM (Z3g pB)
   rw [e1]
   have h4 := e2 q hq (Zgu pB).symm
   rw [he] at h4
   rw [ZeD hJ hJ' h4]
  refine ⟨?_, ?_⟩
  ·rw [Kch ?_ (rG _ _ hM hJ)]
   ·intro i
    rw [Z1F hM hJ, Ka5]
    constructor
    ·rintro ⟨x, hx, hi⟩
     obtain ⟨m', j, hj, e0, rfl, _, e2⟩ := Z2c h hc hp hM hJ hx
     obtain rfl : m' = m := by omega
     obtain ⟨q, hq, e3, rfl⟩ := (Z1F (by omega) hj).1 hi
     exact ⟨q, hq, e2 q hq e3, rfl⟩
    ·rintro ⟨q, hq, e3, rfl⟩
     obtain ⟨j, hj, e4, e5⟩ := sE q hq e3
     exact ⟨_, e5, (Z1F (by omega) hj).2 ⟨q, hq, e4, rfl⟩⟩
   ·refine Z4M (Z1O _ _) (fun x hx => ?_) (fun x hx y hy i h1 h2 => ?_)
    ·obtain ⟨m', j, hj, e0, rfl, _, e2⟩ := Z2c h hc hp hM hJ hx
     exact rG _ _ (by omega) hj
    ·obtain ⟨m', j, hj, e0, rfl, _, _⟩ := Z2c h hc hp hM hJ hx
     obtain ⟨m2, j2, sF, e02, rfl, _, _⟩ := Z2c h hc hp hM hJ hy
     obtain rfl : m' = m := by omega
     obtain rfl : m2 = m' := by omega
     obtain ⟨q, hq, e3, rfl⟩ := (Z1F (by omega) hj).1 h1
     obtain ⟨q2, pW, e32, e33⟩ := (Z1F (by omega) sF).1 h2
     obtain rfl : q = q2 := by omega
     rw [ZeD hj sF (e3.symm.trans e32)]
  ·obtain ⟨i, hi, _, pN⟩ := Z70 (ZeC hJ)
   obtain ⟨j, hj, _, e5⟩ := sE i hi pN
   exact List.ne_nil_of_mem e5
 ·intro g hg x hx
  obtain ⟨M, J, hM, hJ, rfl⟩ := pE g hg
  obtain ⟨m, j, hj, rfl, rfl, _, _⟩ := Z2c h hc hp hM hJ hx
  rw [pH _ _ hM hJ, pH _ _ (by omega) hj]
  omega
 ·intro g hg
  obtain ⟨m, j, hm, hj, rfl⟩ := pE g hg
  rw [ZaP hm hj]
  exact Z8Q (ZeC hj)
 ·intro l hl
  unfold Z0z at hl
  obtain ⟨l', hl', rfl⟩ := Kae.1 hl
  obtain ⟨i, hi, rfl⟩ := Kau.1 hl'
  obtain ⟨_, _, ⟨_, pD, _, _⟩, _⟩ := Z0E.1 h
  obtain ⟨hh, _⟩ := Z13.1 (pD i hi hi)
  unfold Z48 at hh
  rw [ZF, Kab] at hh
  exact hh.2.2.2.1
 ·intro g hg
  obtain ⟨m, j, hm, hj, rfl⟩ := pE g hg
  exact rG m j hm hj
 ·intro g hg g' hg' he i h1 h2
  obtain ⟨m, j, hm, hj, rfl⟩ := pE g hg
  obtain ⟨m', j', hm', hj', rfl⟩ := pE g' hg'
  rw [pH _ _ hm hj, pH _ _ hm' hj'] at he
  obtain rfl : m = m' := by omega
  obtain ⟨q, hq, e3, rfl⟩ := (Z1F hm hj).1 h1
  obtain ⟨q2, pW, e32, e33⟩ := (Z1F hm hj').1 h2
  obtain rfl : q = q2 := by omega
  rw [ZeD hj hj' (e3.symm.trans e32)]
 ·intro g hg i hi
  obtain ⟨m, j, hm, hj, rfl⟩ := pE g hg
  obtain ⟨q, hq, _, rfl⟩ := (Z1F hm hj).1 hi
  omega
 ·intro g hg pX
  obtain ⟨m, j, hm, hj, rfl⟩ := pE g hg
  rw [pH _ _ hm hj, qQ]
  by_cases hk : m + 1 < ls.length
  ·exfalso
   obtain ⟨J', hJ', e1, e2⟩ := Zat h hc hp hk hj
   refine pX _ (ZhO hk hJ') (Z2Q.2 ⟨hg, ?_⟩)
   rw [ZaP hm hj]
   dsimp only
   rw [if_pos hk, e1]
  ·omega
 ·intro g hg hl
  obtain ⟨m, j, hm, hj, rfl⟩ := pE g hg
  rw [pH _ _ hm hj, qQ] at hl
  unfold Z2E
  rw [pH _ _ hm hj]
  obtain ⟨_, _, ⟨_, pD, _, _⟩, _⟩ := Z0E.1 h
  obtain ⟨_, hh⟩ := Z13.1 (pD m hm hm)
  rw [Kac (by omega)] at hh
  simp only [if_true] at hh
  unfold Z0z
  rw [Z2, Kal, Kar, Z3 hm]
  show ls[m].min <= 0
  omega
 ·intro i h0 hn
  have hm : ls.length - 1 < ls.length := by omega
  have hq : i.toNat < cs.length := by omega
  have pB : Z0e (lv ls (ls.length - 1)) cs[i.toNat] ∈ nm ls cs (ls.length - 1) := ZeB hq
  refine ⟨_, ZhO hm (Z3g pB), ?_, (Z1F hm (Z3g pB)).2 ⟨i.toNat, hq, (Zgu pB).symm, by omega⟩⟩
  rw [pH _ _ hm (Z3g pB), qQ]
  omega
end
section
structure TB (N : Nat) (t : List Int) : Prop where
 l1 : 1 <= t.length
 l2 : t.length <= N + 1
 ok : ∀ x ∈ t, -1 <= x
 up : ∀ p, p < t.length -> ent t p <= 1000000 * ((N : Int) - p)
theorem TB.zero : TB 0 [0] := ⟨by simp, by simp, by simp, fun p hp => by
 obtain rfl : p = 0 := by simpa using hp
 show (0 : Int) <= _
 omega⟩
theorem TB.join {N M : Nat} {a b : List Int} (ha : TB N a) (hb : TB M b) : TB (N + M) (Z2U a b) := by
 have hl := Z9V ha.ok hb.ok
 have h1 := ha.l1
 have h2 := ha.l2
 have h3 := hb.l1
 have h4 := hb.l2
 refine ⟨by omega, by omega, Zca ha.ok hb.ok, fun p hp => ?_⟩
 rcases Z8O ha.ok hb.ok p with h0 | ⟨i, j, ⟨q1, q2, _, _⟩, rfl, hv⟩
 ·rw [h0]
  omega
 ·rw [hv]
  have := ha.up i q1
  have := hb.up j q2
  omega
theorem TB.mono {N M : Nat} {a : List Int} (ha : TB N a) (h : N <= M) : TB M a := ⟨ha.l1, by have := ha.l2; omega, ha.ok, fun p hp => by have := ha.up p hp; omega⟩
theorem TB.le {N : Nat} {a : List Int} (ha : TB N a) (hN : N <= 2000) : 1 <= a.length /\ a.length <= 5000 /\ ∀ x ∈ a, -1 <= x /\ x <= 1000000000000 := by
 refine ⟨ha.l1, by have := ha.l2; omega, fun x hx => ⟨ha.ok x hx, ?_⟩⟩
 obtain ⟨i, hi, rfl⟩ := Kau.1 hx
 have := ha.up i hi
 rw [Z38 hi] at this
 omega
theorem TB.merged {ts : List (List Int)} {N : Nat -> Nat} (h : ∀ i, i < ts.length -> TB (N i) (Z0B ts i)) : ∀ k, k <= ts.length -> TB (sQ ts.length N k) (Z07 ts k)
 | 0, _ => TB.zero
 | k + 1, hk => by
  have e : Z07 ts (k + 1) = Z2U (Z0B ts (ts.length - 1 - k)) (Z07 ts k) := rfl
  rw [e]
  unfold sQ
  rw [Nat.add_comm]
  exact TB.join (h _ (by omega)) (TB.merged h k (by omega))
theorem TB.table {N : Nat} {come : List Int} (h : TB N come) (last : Bool) (mn cents : Int) (hc : 0 <= cents /\ cents <= 1000000) : TB N (Z1i come last mn cents) := by
 have h1 := h.l1
 have h2 := h.l2
 have ht := ZbE come last mn cents h.ok (by omega) hc.1
 have hl := Z6i come last mn cents
 refine ⟨ht.2, by rw [hl]; split <;> omega, ht.1, fun p hp => ?_⟩
 rw [hl] at hp
 rw [Z7c come last mn cents hp]
 have tC : p < come.length := by
  split at hp <;> omega
 rcases Z7k come mn cents p h.ok hc.1 (come.length - p) with h0 | ⟨j, hj, h3, h4, h5⟩
 ·rw [h0]; omega
 ·rw [h5]
  have h6 := h.up (p + j) (by omega)
  have h7 : Z0h mn cents (p : Nat) (p + j : Nat) <= 1000000 * (j : Int) := by
   unfold Z0h at h3 ⊢
   split at h3
   ·exact absurd rfl h3
   ·rename_i hn
    rw [if_neg hn]
    have e : ((p + j : Nat) : Int) - (p : Int) = j := by omega
    rw [e, Int.mul_comm]
    exact Int.mul_le_mul_of_nonneg_right hc.2 (by omega)
  omega
theorem Zav {α : Type} (l : List Nat) (f : Nat -> List α) : (l.flatMap f).length = (l.map (fun h => (f h).length)).sum := by
 induction l with
 | nil => rfl
 | cons a r ih => rw [Kao, ZC, ih, Kan, Ka7]
theorem ZiB {l : List Nat} {f : Nat -> Nat} (h : ∀ x ∈ l, 1 <= f x) : l.length <= (l.map f).sum := by
 induction l with
 | nil => exact ZE _
 | cons a r ih =>
  rw [Kan, Ka7, Ka9]
  have := h a Kaf
  have := ih (fun x hx => h x (Kaj _ hx))
  omega
theorem Zb2 {ls : List (Int × Int)} {gs : List PGrp} (hF : Forest ls gs) (hc : ∀ l ∈ ls, l.2 <= 1000000) {g : Nat} (hg : g < gs.length) : 0 <= (Z2E ls gs g).2 /\ (Z2E ls gs g).2 <= 1000000 := by
 refine ⟨Z3I hF hg, ?_⟩
 obtain ⟨a, b⟩ := hF.lvl g hg
 have hi : (Z0c gs g).lvl.toNat < ls.length := by omega
 unfold Z2E
 rw [Z2, Z3 hi]
 exact hc _ (Z4 hi)
theorem Za7 (n p : Nat) (hp : p < (List.replicate n (-1 : Int) ++ [0]).length) : ent (List.replicate n (-1) ++ [0]) p <= 1000000 * ((n : Int) - p) := by
 have hl : (List.replicate n (-1 : Int) ++ [0]).length = n + 1 := by simp
 by_cases h : ent (List.replicate n (-1) ++ [0]) p = -1
 ·rw [h]; omega
 ·obtain ⟨rfl, h2⟩ := Za8 n p h
  rw [h2]; omega
theorem Z6j {ls : List (Int × Int)} {gs : List PGrp} (hF : Forest ls gs) {g : Nat} (hg : g < gs.length) (hl : 0 < (Z0c gs g).lvl) : ((Z04 gs g).map (fun h => (Z0c gs h).items.length)).sum = (Z0c gs g).items.length := by
 rw [<- Zav]
 exact (hF.parts g hg hl).1.length_eq
theorem Zhw {ls : List (Int × Int)} {gs : List PGrp} (hF : Forest ls gs) {g : Nat} (hg : g < gs.length) (hl : 0 < (Z0c gs g).lvl) : (Z04 gs g).length <= (Z0c gs g).items.length := by
 rw [<- Z6j hF hg hl]
 refine ZiB (fun x hx => ?_)
 have h1 := hF.below g hg x hx
 exact Kcr.2 (hF.some_ x (by omega))
theorem Z9g {ls : List (Int × Int)} {gs : List PGrp} {g i : Nat} (hi : i < (Z04 gs g).length) : Z0B (Z0b ls gs g) i = Z10 ls gs ((Z04 gs g).getD i 0) := by
 unfold Z0B Z0b
 rw [Z2, Kal, Z2, Z3 hi]
 rfl
theorem Z9I {ls : List (Int × Int)} {gs : List PGrp} (hF : Forest ls gs) {g : Nat} (hg : g < gs.length) (hl : 0 < (Z0c gs g).lvl) (ih : ∀ h, h < g -> TB (Z0c gs h).items.length (Z10 ls gs h)) :
 ∀ k, k <= (Z0b ls gs g).length -> TB (Z0c gs g).items.length (Z07 (Z0b ls gs g) k) := by
 intro k hk
 have qR : (Z0b ls gs g).length = (Z04 gs g).length := by unfold Z0b; simp
 have := TB.merged (ts := Z0b ls gs g) (N := fun i => (Z0c gs ((Z04 gs g).getD i 0)).items.length) (fun i hi => by
  rw [qR] at hi
  rw [Z9g hi]
  refine ih _ (hF.below g hg _ ?_)
  rw [Z2, Z3 hi]
  exact Z4 hi) k hk
 refine this.mono ?_
 have h1 := Ze7 (Z0b ls gs g).length (fun i => (Z0c gs ((Z04 gs g).getD i 0)).items.length) k hk
 have h2 := Z12 (Z04 gs g) (fun h => (Z0c gs h).items.length)
 rw [<- qR] at h2
 have h3 := Z6j hF hg hl
 rw [h2] at h1
 omega
theorem Zfk {ls : List (Int × Int)} {gs : List PGrp} (hF : Forest ls gs) {g : Nat} (hg : g < gs.length) (ih : ∀ h, h < g -> TB (Z0c gs h).items.length (Z10 ls gs h)) : TB (Z0c gs g).items.length (Z17 ls gs g) := by
 unfold Z17 Z1Y
 by_cases h0 : (Z0c gs g).lvl = 0
 ·rw [if_pos h0]
  refine ⟨by simp, by simp, fun x hx => ?_, fun p hp => Za7 _ p hp⟩
  rcases ZG.1 hx with hx | hx
  ·rw [(List.mem_replicate.1 hx).2]; decide
  ·obtain rfl := ZI.1 hx; decide
 ·rw [if_neg h0]
  have hl : 0 < (Z0c gs g).lvl := by have := (hF.lvl g hg).1; omega
  have pK := (hF.parts g hg hl).2
  have hl' : (Z0b ls gs g).length ≠ 0 := by unfold Z0b; rw [Z7]; exact fun h => pK (Kag.1 h)
  rw [if_neg hl']
  exact Z9I hF hg hl ih _ (Z1 _)
theorem Z9f {ls : List (Int × Int)} {gs : List PGrp} (hF : Forest ls gs) (hc : ∀ l ∈ ls, l.2 <= 1000000) : ∀ g, g < gs.length -> TB (Z0c gs g).items.length (Z10 ls gs g) := by
 intro g
 induction g using Nat.strongRecOn with
 | ind g ih =>
  intro hg
  rw [Z4i hF hg]
  exact (Zfk hF hg (fun h hh => ih h hh (by omega))).table _ _ _ (Zb2 hF hc hg)
theorem ZdU {ls : List (Int × Int)} {gs : List PGrp} (hF : Forest ls gs) (hc : ∀ l ∈ ls, l.2 <= 1000000) (hi : ∀ g, g < gs.length -> (Z0c gs g).items.length <= 2000) {g : Nat} (hg : g < gs.length) (hl : 0 < (Z0c gs g).lvl) : MOk (Z0b ls gs g) := by
 have qR : (Z0b ls gs g).length = (Z04 gs g).length := by unfold Z0b; simp
 refine ⟨?_, fun t ht => ?_, fun k hk => ?_⟩
 ·rw [qR]
  have := Zhw hF hg hl
  have := hi g hg
  omega
 ·obtain ⟨h, hh, rfl⟩ := Kae.1 ht
  have pI := hF.below g hg h hh
  exact (Z9f hF hc h (by omega)).le (hi h (by omega))
 ·exact (Z9I hF hg hl (fun h hh => Z9f hF hc h (by omega)) k hk).le (hi g hg)
end
section
def Zcc (a rest : List Int) (fits : Int -> Int -> Bool) (i : Nat) : Bool :=
 decide (a.getD i (-1) ≠ -1) && (List.range rest.length).any (fun j => decide (rest.getD j (-1) ≠ -1) && fits (i + j : Nat) (a.getD i (-1) + rest.getD j (-1)))
theorem ZiZ {a rest : List Int} {fits : Int -> Int -> Bool} {i : Nat} (hi : i < a.length) (h0 : ∀ i', i' < i -> Zcc a rest fits i' = false) (h1 : Zcc a rest fits i = true) : Z8g a rest fits = i := by
 unfold Z8g
 have : (List.range a.length).find? (Zcc a rest fits) = some i := by
  rw [Kdh]
  refine ⟨h1, i, by simpa using hi, by simp, fun j hj => ?_⟩
  rw [Kbv, h0 j hj]; rfl
 unfold Zcc at this
 rw [this]; rfl
theorem ZiX {a rest : List Int} {fits : Int -> Int -> Bool} (h0 : ∀ i', i' < a.length -> Zcc a rest fits i' = false) : Z8g a rest fits = a.length - 1 := by
 unfold Z8g
 have : (List.range a.length).find? (Zcc a rest fits) = none := by
  rw [List.find?_eq_none]
  intro x hx
  rw [h0 x (Ka8.1 hx)]
  exact Bool.false_ne_true
 unfold Zcc at this
 rw [this]; rfl
theorem ZiY (a rest : List Int) (fits : Int -> Int -> Bool) (h : 1 <= a.length) : Z8g a rest fits < a.length := by
 unfold Z8g
 cases hf : (List.range a.length).find? (fun i => decide (a.getD i (-1) ≠ -1) && (List.range rest.length).any (fun j => decide (rest.getD j (-1) ≠ -1) && fits (i + j : Nat) (a.getD i (-1) + rest.getD j (-1)))) with
 | none => show a.length - 1 < _; omega
 | some x => exact Ka8.1 (Kc6 hf)
theorem ZgJ {a rest : List Int} {fits : Int -> Int -> Bool} {i : Nat} (h : ent a i = -1) : Zcc a rest fits i = false := by
 unfold Zcc
 unfold ent at h
 rw [h]; rfl
theorem Zi2 {a rest : List Int} {fits : Int -> Int -> Bool} {i j : Nat} (h : ent a i ≠ -1) (hj : j < rest.length) (h2 : ent rest j ≠ -1) (h3 : fits (i + j : Nat) (ent a i + ent rest j) = true) : Zcc a rest fits i = true := by
 unfold Zcc
 unfold ent at *
 rw [ZF, Kab, Kbp]
 exact ⟨h, j, Ka8.2 hj, by rw [ZF, Kab]; exact ⟨h2, h3⟩⟩
theorem ZiU {a rest : List Int} {fits : Int -> Int -> Bool} {i : Nat} (h : ∀ j, j < rest.length -> ent rest j ≠ -1 -> fits (i + j : Nat) (ent a i + ent rest j) = false) : Zcc a rest fits i = false := by
 unfold Zcc
 unfold ent at *
 rw [Bool.and_eq_false_iff]
 right
 rw [Kb4]
 intro j hj hh
 rw [ZF, Kab] at hh
 rw [h j (Ka8.1 hj) hh.1] at hh
 cases hh.2
def Zi7 (mn cents P most come saved : Int) (q below : Int) : Bool := decide (Z0h mn cents P (come + q) ≠ -1) && decide (saved + below + Z0h mn cents P (come + q) = most)
def Zbk (mn cents P most : Int) (ts : List (List Int)) (k : Nat) : Nat := Z8g (Z0B ts k) (Z07 ts (ts.length - 1 - k)) (Zi7 mn cents P most (Z1f mn cents P most ts k).1 (Z1f mn cents P most ts k).2.1)
theorem Z4P (mn cents P most : Int) (ts : List (List Int)) (k : Nat) : Z1f mn cents P most ts (k + 1) = ((Z1f mn cents P most ts k).1 + Zbk mn cents P most ts k, (Z1f mn cents P most ts k).2.1 + ent (Z0B ts k) (Zbk mn cents P most ts k), (Z1f mn cents P most ts k).2.2 ++ [Zbk mn cents P most ts k]) := by
 rw [Z1f]
 generalize hd : Z1f mn cents P most ts k = d
 obtain ⟨come, saved, out⟩ := d
 unfold Zbk
 rw [hd]
 rfl
theorem Zbj (mn cents P most : Int) (ts : List (List Int)) : ∀ k, (Z1f mn cents P most ts k).2.2.length = k
 | 0 => rfl
 | k + 1 => by rw [Z4P]; dsimp only; rw [ZC, Zbj mn cents P most ts k]; rfl
theorem Zfg (mn cents P most : Int) (ts : List (List Int)) (i : Nat) : ∀ k, i < k -> (Z1f mn cents P most ts k).2.2.getD i 0 = Zbk mn cents P most ts i
 | 0, h => absurd h (Ka2 _)
 | k + 1, h => by
  rw [Z4P]
  dsimp only
  by_cases e : i = k
  ·subst e; rw [Z3y (Zbj mn cents P most ts i)]
  ·rw [Z3x (by rw [Zbj]; omega)]; exact Zfg mn cents P most ts i k (by omega)
theorem Z93 {mn cents P most : Int} {ts : List (List Int)} (hM : MOk ts) {k : Nat} (hk : k < ts.length) : Zbk mn cents P most ts k < (Z0B ts k).length := by
 refine ZiY _ _ _ ?_
 have : Z0B ts k ∈ ts := by unfold Z0B; rw [Z2, Z3 hk]; exact Z4 hk
 exact (hM.one _ this).1
theorem ZdS {ts : List (List Int)} {k : Nat} (hk : k < ts.length) : Z0B ts k ∈ ts := by unfold Z0B; rw [Z2, Z3 hk]; exact Z4 hk
theorem Zhm {l : List Int} {i : Nat} (h : ∀ x ∈ l, -1 <= x /\ x <= 1000000000000) : -1 <= ent l i /\ ent l i <= 1000000000000 := by
 by_cases hi : i < l.length
 ·rw [Z38 hi]; exact h _ (Z4 hi)
 ·unfold ent; rw [Z2, Kbx (by omega)]; exact ⟨by decide, by decide⟩
theorem Zaa {mn cents P most : Int} {ts : List (List Int)} (hM : MOk ts) : ∀ k, k <= ts.length -> (Z1f mn cents P most ts k).1 <= k * 5000 /\ -(k : Int) <= (Z1f mn cents P most ts k).2.1 /\ (Z1f mn cents P most ts k).2.1 <= k * 1000000000000
 | 0, _ => ⟨Z1 _, Kbi _, Kbi _⟩
 | k + 1, hk => by
  obtain ⟨a, b, c⟩ := Zaa hM (mn := mn) (cents := cents) (P := P) (most := most) k (by omega)
  rw [Z4P]
  dsimp only
  have h1 := Z93 (mn := mn) (cents := cents) (P := P) (most := most) hM (show k < ts.length by omega)
  have h2 := hM.one _ (ZdS (show k < ts.length by omega))
  have h3 := Zhm (i := Zbk mn cents P most ts k) h2.2.2
  refine ⟨by omega, by omega, by omega⟩
def ZfL (subs : List Nat) (p : Nat -> Nat) (f : Nat -> Int) (k : Nat) : Nat -> Int := fun h => match (subs.take k).idxOf? h with
 | some i => (p i : Int)
 | none => f h
theorem ZdV (subs : List Nat) (p : Nat -> Nat) (f : Nat -> Int) : ZfL subs p f 0 = f := rfl
theorem Zb9 {subs : List Nat} {x k : Nat} (hd : subs.Nodup) (hk : k < subs.length) : (subs.take (k + 1)).idxOf? x = if x = subs[k] then some k else (subs.take k).idxOf? x := by
 have hd' : (subs.take (k + 1)).Nodup := hd.sublist (List.take_sublist _ _)
 by_cases e : x = subs[k]
 ·rw [if_pos e, e]
  have := Z3K hd' (i := k) (by rw [Kax]; omega)
  rw [List.getElem_take] at this
  exact this
 ·rw [if_neg e]
  by_cases hm : x ∈ subs.take k
  ·obtain ⟨i, hi, rfl⟩ := Kau.1 hm
   rw [Kax] at hi
   have h1 := Z3K hd' (i := i) (by rw [Kax]; omega)
   have h2 := Z3K (hd.sublist (List.take_sublist k subs)) (i := i) (by rw [Kax]; omega)
   rw [List.getElem_take] at h1 h2 ⊢
   rw [h1, h2]
  ·rw [Z4K hm, Z4K]
   rw [Z8 hk, ZG, ZI]
   exact fun h => h.elim hm e
theorem ZdW {subs : List Nat} (p : Nat -> Nat) (f : Nat -> Int) {k : Nat} (hd : subs.Nodup) (hk : k < subs.length) : ZfL subs p f (k + 1) = fun h => if h = subs[k] then (p k : Int) else ZfL subs p f k h := by
 funext h
 unfold ZfL
 rw [Zb9 hd hk]
 by_cases e : h = subs[k]
 ·rw [if_pos e, if_pos e]
 ·rw [if_neg e, if_neg e]
def Z7P (f : Nat -> Int) (n : Nat) : List Int := (List.range n).map f
theorem Z4o (f : Nat -> Int) (n : Nat) : (Z7P f n).length = n := by unfold Z7P; simp
theorem ZbQ {f : Nat -> Int} {n i : Nat} (h : i < n) : (Z7P f n).getD i (-1) = f i := by
 unfold Z7P
 rw [Z2, Kal, Kb2 h]; rfl
theorem Zg4 (f : Nat -> Int) {n i : Nat} (h : i < n) (x : Int) : (Z7P f n).set i x = Z7P (fun j => if j = i then x else f j) n := by
 unfold Z7P
 apply Kcf
 ·simp
 ·intro j h1 h2
  rw [List.getElem_set, Kba, Kba, Kbv]
  by_cases e : i = j
  ·rw [if_pos e, if_pos e.symm]
  ·rw [if_neg e, if_neg (fun h => e h.symm)]
theorem Zg5 (x : Int) (n : Nat) : List.replicate n x = Z7P (fun _ => x) n := by
 unfold Z7P
 apply Kcf
 ·simp
 ·intro j h1 h2; simp
theorem Z7W (ls : List (Int × Int)) (gs : List PGrp) (tabs : List (List Int)) (k : Nat) : Z1E ls gs tabs (k + 1) =
 ZfL (Z04 gs (gs.length - 1 - k)) (Zbk (Z2E ls gs (gs.length - 1 - k)).1 (Z2E ls gs (gs.length - 1 - k)).2 (Z1E ls gs tabs k (gs.length - 1 - k)) ((tabs.getD (gs.length - 1 - k) []).getD (Z1E ls gs tabs k (gs.length - 1 - k)).toNat (-1)) ((Z04 gs (gs.length - 1 - k)).map (fun h => tabs.getD h []))) (Z1E ls gs tabs k) (Z04 gs (gs.length - 1 - k)).length := by
 rw [Z43]
 funext h
 unfold ZfL
 rw [Kat]
 by_cases hm : h ∈ Z04 gs (gs.length - 1 - k)
 ·obtain ⟨i, hi, rfl⟩ := Kau.1 hm
  rw [Z3K (Z1O _ _) hi]
  dsimp only
  unfold Z6C
  rw [Zfg _ _ _ _ _ i _ hi]
 ·rw [Z4K hm]
end
section
open Go.RowKit Go.Sort Go.Shelf
theorem ZeO {ls : List Lev} {Gs : List Grp} {g lv : Nat} (hg : g < Gs.length) (pD : lv < ls.length) (he : Gs[g].lvl = (lv : Int)) : Z2E (Z0z ls) (Z0o Gs) g = (ls[lv].min, ls[lv].cents) := by
 unfold Z2E
 rw [Z2z hg]
 show (Z0z ls).getD (Gs[g].lvl).toNat (0, 0) = _
 rw [he]
 unfold Z0z
 rw [Z2, Kal, Kar, Z3 pD]
 rfl
theorem Z4q {ls : List Lev} (hc : ∀ l ∈ ls, 0 <= l.cents /\ l.cents <= 1000000) : ∀ l ∈ Z0z ls, l.2 <= 1000000 := fun l hl => by
 unfold Z0z at hl
 obtain ⟨l', hl', rfl⟩ := Kae.1 hl
 exact (hc l' hl').2
theorem Z8R {Gs : List Grp} (hi : ∀ x ∈ Gs, x.items.length <= 2000) : ∀ g, g < (Z0o Gs).length -> (Z0c (Z0o Gs) g).items.length <= 2000 := fun g hg => by
 rw [Z1S] at hg
 rw [Z2z hg]
 exact hi _ (Z4 hg)
theorem ZdQ (T BB TB PB base : Nat) (v vg : Value) (Gs : List Grp) (ps : List Int) (g : Nat) (ls : List Lev) (w : World) (h : TreeW w T BB TB PB base v vg Gs (Z10 (Z0z ls) (Z0o Gs)) g ps) (hF : Forest (Z0z ls) (Z0o Gs)) (hg : g < Gs.length) (hn : Gs.length <= 100000)
 (hr : RdLevs w v ls) (rK : ls.length <= 1000) (hc : ∀ l ∈ ls, 0 <= l.cents /\ l.cents <= 1000000) (hi : ∀ x ∈ Gs, x.items.length <= 2000) :
 Calls Tryz.prog 63 #[.pointer (some ⟨T, 0, none⟩), .int .i64 g] w fun e w' => ∃ a cap, e = .returned (.slice a (Z10 (Z0z ls) (Z0o Gs) g).length cap) /\ Below w.1.size w w' /\
  RowJ w' base (.slice a (Z10 (Z0z ls) (Z0o Gs) g).length cap) (Z10 (Z0z ls) (Z0o Gs) g) := by
 have pZ : g < (Z0o Gs).length := by rw [Z1S]; exact hg
 have pP := Z2z hg
 have qQ := Z3o ls
 obtain ⟨l0, l1⟩ := hF.lvl g pZ
 rw [pP] at l0 l1
 have l0' : 0 <= Gs[g].lvl := l0
 have l1' : Gs[g].lvl < ((Z0z ls).length : Int) := l1
 obtain ⟨lv, qA⟩ : ∃ lv : Nat, Gs[g].lvl = (lv : Int) := ⟨_, (Ka3 l0').symm⟩
 have pD : lv < ls.length := by omega
 have sW : Z10 (Z0z ls) (Z0o Gs) g = Z1i (Z17 (Z0z ls) (Z0o Gs) g) (decide (lv + 1 = ls.length)) ls[lv].min ls[lv].cents := by
  rw [Z4i hF pZ, ZeO hg pD qA, pP]
  congr 1
  rw [decide_eq_decide]
  show Gs[g].lvl = _ ↔ _
  rw [qA, qQ]
  omega
 have sX : Z17 (Z0z ls) (Z0o Gs) g = Z1Y Gs[g].lvl Gs[g].items.length ((Z04 (Z0o Gs) g).map (Z10 (Z0z ls) (Z0o Gs))) := by
  unfold Z17 Z0b
  rw [pP]; rfl
 have hi' := Z8R hi
 have hC := (Zfk hF pZ (fun h hh => Z9f hF (Z4q hc) h (by omega))).le (hi' g pZ)
 rw [sW]
 refine ZcB T BB TB PB base v vg Gs (Z10 (Z0z ls) (Z0o Gs)) g ps g ls lv (Z17 (Z0z ls) (Z0o Gs) g) w h hg hr pD qA rK (hc _ (Z4 pD)) ⟨hC.1, hC.2.1⟩ hC.2.2 (fun W hW => ?_)
 rw [sX]
 refine ZgR T BB TB PB base v vg Gs (Z10 (Z0z ls) (Z0o Gs)) g ps g W (h.below hW) hg hn (by have := hi _ (Z4 hg); omega) (fun x hx => hF.below g pZ x hx) (by omega) (fun pK => ?_)
 refine ZdU hF (Z4q hc) hi' pZ ?_
 rw [pP]
 show 0 < Gs[g].lvl
 omega
end
section
open Go.RowKit Go.Sort Go.Shelf
structure FitAt (w : World) (SB CB VB MB X Y : Nat) (mn cents P come saved most : Int) : Prop where
 s : w.cell? ⟨SB, 0, none⟩ = some (.func (.func 131) #[] #[.pointer (some ⟨X, 0, none⟩), .pointer (some ⟨Y, 0, none⟩)])
 c : w.cell? ⟨CB, 0, none⟩ = some (.int .i64 come)
 v : w.cell? ⟨VB, 0, none⟩ = some (.int .i64 saved)
 m : w.cell? ⟨MB, 0, none⟩ = some (.int .i64 most)
 a : SavAt w X Y P mn cents
def Zjs (SB CB VB MB : Nat) : Value := .func (.func 104) #[] #[.pointer (some ⟨SB, 0, none⟩), .pointer (some ⟨CB, 0, none⟩), .pointer (some ⟨VB, 0, none⟩), .pointer (some ⟨MB, 0, none⟩)]
theorem Zi6 (q b : Int) (SB CB VB MB X Y : Nat) (mn cents P come saved most : Int) (w : World) (h : FitAt w SB CB VB MB X Y mn cents P come saved most)
 (hp : 0 <= P /\ P <= 1000000) (hc : 0 <= come + q /\ come + q <= 1000000) (pF : 0 <= cents /\ cents <= 1000000) (hs : -10000000000000000 <= saved /\ saved <= 10000000000000000) (hb : -10000000000000000 <= b /\ b <= 10000000000000000) :
 Calls Tryz.prog 104 #[.int .i64 q, .int .i64 b, .pointer (some ⟨SB, 0, none⟩), .pointer (some ⟨CB, 0, none⟩), .pointer (some ⟨VB, 0, none⟩), .pointer (some ⟨MB, 0, none⟩)] w fun e w' => e = .returned (.bool (Zi7 mn cents P most come saved q b)) /\ w = w' := by
 obtain ⟨h1, h2, h3, h4, h5⟩ := h
 have hsv := Z59 (come + q) P mn cents X Y w h5 hp hc pF
 have qL : -1 <= Z0h mn cents P (come + q) /\ Z0h mn cents P (come + q) <= 1000000000000 := by
  unfold Z0h
  split
  ·omega
  ·have k1 : 0 <= (come + q - P) * cents := Kdg (by omega) pF.1
   have k2 : (come + q - P) * cents <= 1000000 * 1000000 := Int.mul_le_mul (by omega) pF.2 pF.1 (by omega)
   omega
 unfold Zi7
 obtain ⟨own, pM⟩ : ∃ o, o = Z0h mn cents P (come + q) := ⟨_, rfl⟩
 rw [<- pM] at hsv qL ⊢
 have qD := Z0 hsv
 clear pM hsv h5
 go_enter Tryz.func104, Tryz.ntmps104
 by_cases ho : own = -1
 ·have qN : (own != -1) = false := by simp [ho]
  go_wp2_with (go_at_call 131; refine qD.out.mono ?_; rintro e w7 ⟨rfl, h7⟩; obtain rfl : w = w7 := h7)
  go_ret
  simp [ho]
 ·have qN : (own != -1) = true := by simp [ho]
  go_wp2_with (go_at_call 131; refine qD.out.mono ?_; rintro e w7 ⟨rfl, h7⟩; obtain rfl : w = w7 := h7)
  go_ret
  simp [ho]
  rfl
theorem Zi8 (xs ys : List Int) (va vb : Value) (SB CB VB MB X Y : Nat) (mn cents P come saved most : Int) (w : World) (h : FitAt w SB CB VB MB X Y mn cents P come saved most)
 (hx : RdInts w va xs) (hy : RdInts w vb ys) (h1 : 1 <= xs.length /\ xs.length <= 5000) (h2 : 1 <= ys.length /\ ys.length <= 5000) (bx : ∀ x ∈ xs, -1 <= x /\ x <= 1000000000000) (by_ : ∀ y ∈ ys, -1 <= y /\ y <= 1000000000000)
 (hp : 0 <= P /\ P <= 1000000) (hc : 0 <= come /\ come <= 900000) (pF : 0 <= cents /\ cents <= 1000000) (hs : -10000000000000000 <= saved /\ saved <= 10000000000000000) :
 Calls Tryz.prog 105 #[va, vb, Zjs SB CB VB MB] w fun e w' => e = .returned (.int .i64 (Z8g xs ys (Zi7 mn cents P most come saved) : Nat)) /\ w = w' := by
 obtain ⟨a, ca, rfl, sG⟩ := hx
 obtain ⟨b, cb, rfl, sH⟩ := hy
 obtain ⟨gx, ox, rfl, tD, sI⟩ := sG (by omega)
 obtain ⟨gy, oy, rfl, tE, sJ⟩ := sH (by omega)
 have HX := Z0 sI
 have HY := Z0 sJ
 have sY := Z0 bx
 have sZ := Z0 by_
 have sK : Hid (∀ q b : Int, 0 <= q /\ q <= 10000 -> -10000000000000000 <= b /\ b <= 10000000000000000 -> Calls Tryz.prog 104 #[.int .i64 q, .int .i64 b, .pointer (some ⟨SB, 0, none⟩), .pointer (some ⟨CB, 0, none⟩), .pointer (some ⟨VB, 0, none⟩), .pointer (some ⟨MB, 0, none⟩)] w fun e w' => e = .returned (.bool (Zi7 mn cents P most come saved q b)) /\ w = w') :=
  fun q b hq hb => Zi6 q b SB CB VB MB X Y mn cents P come saved most w h hp (by omega) pF hs hb
 obtain ⟨F, hF⟩ : ∃ F, F = Zi7 mn cents P most come saved := ⟨_, rfl⟩
 rw [<- hF] at sK ⊢
 have sL := Z0 (fun i (hi : i < xs.length) => ZiZ (a := xs) (rest := ys) (fits := F) hi)
 have sM := Z0 (ZiX (a := xs) (rest := ys) (fits := F))
 obtain ⟨N, hN⟩ : ∃ N, N = Z8g xs ys F := ⟨_, rfl⟩
 rw [<- hN] at sL sM ⊢
 clear hF hN sG sH sI sJ bx by_ h hp hc pF hs
 unfold Zjs
 go_enter Tryz.func105, Tryz.ntmps105
 go_wp2_with fail
 go_loopw [13] (fun i wr => ∃ k : Nat, k <= xs.length /\ i = .int .i64 k /\ w = wr /\ ∀ i', i' < k -> Zcc xs ys F i' = false) (fun i _ => xs.length - (intOf i).toNat)
 case atStart => exact ⟨0, ZE _, rfl, rfl, fun i' h => absurd h (Ka2 _)⟩
 case round =>
  obtain ⟨k, hk, rfl, hW, pX⟩ := hrel
  subst hW
  have HB := Z0 pX
  clear pX
  by_cases pI : k < xs.length
  ·have c1 := HX.out k pI
   have bxk := sY.out _ (Z4 pI)
   have rH := Z38 pI
   obtain ⟨x, hx⟩ : ∃ x, x = xs[k] := ⟨_, rfl⟩
   rw [<- hx] at c1 bxk rH
   have qV := Z0 rH
   clear hx rH
   by_cases qW : x = -1
   ·have hq : (x == -1) = true := by simp [qW]
    go_wp2_with fail
    go_roundw
    case rel =>
     refine ⟨k + 1, by omega, by go_num, (by first | rfl | trivial), fun i' h' => ?_⟩
     by_cases e : i' = k
     ·subst e; exact ZgJ (qV.out.trans qW)
     ·exact HB.out i' (by omega)
    case measure => simp [intOf]; omega
   ·have hq : (x == -1) = false := by simp [qW]
    go_wp2_with fail
    go_loopw [22] (fun j wq => ∃ m : Nat, m <= ys.length /\ j = .int .i64 m /\ w = wq /\ ∀ j', j' < m -> ent ys j' ≠ -1 -> F (k + j' : Nat) (x + ent ys j') = false) (fun j _ => ys.length - (intOf j).toNat)
    case atStart => exact ⟨0, ZE _, rfl, rfl, fun i' h => absurd h (Ka2 _)⟩
    case round =>
     obtain ⟨m, hm, rfl, hW, pX⟩ := hrel
     subst hW
     have HM := Z0 pX
     clear pX
     by_cases qX : m < ys.length
     ·have c2 := HY.out m qX
      have byk := sZ.out _ (Z4 qX)
      have rI := Z38 qX
      obtain ⟨y, hy⟩ : ∃ y, y = ys[m] := ⟨_, rfl⟩
      rw [<- hy] at c2 byk rI
      have qY := Z0 rI
      clear hy rI
      by_cases qZ : y = -1
      ·have pW : (y != -1) = false := by simp [qZ]
       go_wp2_with fail
       go_roundw
       case rel =>
        refine ⟨m + 1, by omega, by go_num, (by first | rfl | trivial), fun j' h' pK => ?_⟩
        by_cases e : j' = m
        ·subst e; exact absurd (qY.out.trans qZ) pK
        ·exact HM.out j' (by omega) pK
       case measure => simp [intOf]; omega
      ·have pW : (y != -1) = true := by simp [qZ]
       have rJ := sK.out ((k : Int) + (m : Int)) (x + y) (by omega) (by omega)
       obtain ⟨f, hf⟩ : ∃ f, f = F ((k : Int) + (m : Int)) (x + y) := ⟨_, rfl⟩
       rw [<- hf] at rJ
       have sN := Z0 rJ
       have HF := Z0 hf
       clear hf rJ
       cases f
       ·go_wp2_with (go_at_call 104; refine sN.out.mono ?_; rintro e w7 ⟨rfl, h7⟩; obtain rfl : w = w7 := h7)
        go_roundw
        case rel =>
         refine ⟨m + 1, by omega, by go_num, (by first | rfl | trivial), fun j' h' pK => ?_⟩
         by_cases e : j' = m
         ·subst e; rw [qY.out, Kc3]; exact HF.out.symm
         ·exact HM.out j' (by omega) pK
        case measure => simp [intOf]; omega
       ·go_wp2_with (go_at_call 104; refine sN.out.mono ?_; rintro e w7 ⟨rfl, h7⟩; obtain rfl : w = w7 := h7)
        go_ret
        have := sL.out k pI HB.out (Zi2 (by rw [qV.out]; exact qW) qX (by rw [qY.out]; exact qZ) (by rw [qV.out, qY.out, Kc3]; exact HF.out.symm))
        rw [this]
        exact ⟨rfl, rfl⟩
     ·go_wp2_with fail
      go_roundw
      case rel =>
       refine ⟨k + 1, by omega, by go_num, (by first | rfl | trivial), fun i' h' => ?_⟩
       by_cases e : i' = k
       ·subst e; exact ZiU (fun j hj pK => by rw [qV.out]; exact HM.out j (by omega) pK)
       ·exact HB.out i' (by omega)
      case measure => simp [intOf]; omega
  ·go_wp2_with fail
   go_ret
   rw [sM.out (fun i' h' => HB.out i' (by omega)), Int.ofNat_sub h1.1]
   exact ⟨rfl, rfl⟩
end
end Go.Proofs.YtlgajongmkhcnaaGreatDoor
