import Derived.Test.YtlgajongmkhcnaaGreatDoorQUC
import Derived.Test.YtlgajongmkhcnaaGreatDoorQU7
import Derived.BigQuiet
import Derived.StillTailTactics
set_option maxRecDepth 100000
set_option linter.unusedVariables false
set_option linter.unusedSimpArgs false
set_option maxHeartbeats 32000000
namespace Go.Proofs.YtlgajongmkhcnaaGreatDoor
section
open Go.RowKit Go.Sort Go.Shelf Go.IntWalk
theorem Z6K {mn cents p c : Int} (h0 : 0 <= cents /\ cents <= 1000000) (hp : 0 <= p) (hc : c <= 1000000) : -1 <= Z0j mn cents p c /\ Z0j mn cents p c <= 1000000000000 := by
 unfold Z0j
 split
 ·omega
 ·have h1 : 0 <= (c - p) * cents := Kdk (by omega) h0.1
  have h2 : (c - p) * cents <= 1000000 * 1000000 := Int.mul_le_mul (by omega) h0.2 h0.1 (by omega)
  omega
def Z1n (C : List Int) (mn cents : Int) (p : Nat) : List Int := (List.range p).map (fun q => Z11 C mn cents q (C.length - q)) ++ List.replicate (C.length - p) (-1)
theorem Z2d (C : List Int) (mn cents : Int) {p : Nat} (h : p <= C.length) : (Z1n C mn cents p).length = C.length := by unfold Z1n; simp; omega
theorem Zbd (C : List Int) (mn cents : Int) : Z1n C mn cents 0 = List.replicate C.length (-1) := by unfold Z1n; simp
theorem Zcr {n p : Nat} (h : p < n) : List.replicate (n - p) (-1 : Int) = -1 :: List.replicate (n - (p + 1)) (-1) := by
 rw [show n - p = (n - (p + 1)) + 1 by omega, List.replicate_succ]
theorem Z86 (C : List Int) (mn cents : Int) {p : Nat} (h : p < C.length) : (Z1n C mn cents p).set p (Z11 C mn cents p (C.length - p)) = Z1n C mn cents (p + 1) := by
 unfold Z1n
 rw [Kc2 _ _ (by simp), Z7, Kay, Kb3, Kaq, ZD, Kbc]
 congr 1
 rw [Zcr h]
 simp
theorem Z5R (C : List Int) (mn cents : Int) {p : Nat} (h : p < C.length) : (Z1n C mn cents p).set p (Z11 C mn cents p 0) = Z1n C mn cents p := by
 have e : Z11 C mn cents p 0 = -1 := by unfold Z11; simp
 rw [e]
 unfold Z1n
 rw [Kc2 _ _ (by simp), Z7, Kay, Kb3]
 congr 1
 rw [Zcr h]
 simp
theorem Z9W (C : List Int) (mn cents : Int) (last : Bool) (h : 0 < C.length) : (Z1n C mn cents (if last then 1 else C.length)).take (if last then 1 else C.length) = Z1z C last mn cents := by
 have h1 : (if last then 1 else C.length) <= C.length := by split <;> omega
 unfold Z1n Z1z
 rw [Kdo (by simp), Kas (by simp)]
theorem SavAt.of_blocks {w w' : World} {X Y : Nat} {p m c : Int} (h : SavAt w X Y p m c) (hX : w'.1[X]? = w.1[X]?) (hY : w'.1[Y]? = w.1[Y]?) : SavAt w' X Y p m c :=
 ⟨(Kak (w := w) hX).trans h.1, (Kak (w := w) hY).trans h.2.1, (Kak (w := w) hY).trans h.2.2⟩
theorem SavAt.set {w : World} {X Y : Nat} {p m c : Int} (h : SavAt w X Y p m c) {a : Addr} (hX : X ≠ a.block) (hY : Y ≠ a.block) (v : Value) : SavAt (w.setCell a v) X Y p m c :=
 h.of_blocks (ZA _ _ _ _ hX) (ZA _ _ _ _ hY)
theorem SavAt.new (w : World) (l : Lev) (sv : Value) (p : Int) : SavAt ((w.alloc (Z6c l sv)).alloc (.cells #[.int .i64 p] 3)) (w.1.size + 1) w.1.size p l.min l.cents := by
 have e : (w.alloc (Z6c l sv)).1.size = w.1.size + 1 := by simp
 have h1 : ((w.alloc (Z6c l sv)).alloc (.cells #[.int .i64 p] 3)).1[w.1.size]? = some (Z6c l sv) := (((Z9 _ (w.alloc (Z6c l sv))).alloc (Z1 _) _).block w.1.size (by omega)).trans (Z02 _ _)
 have h2 : ((w.alloc (Z6c l sv)).alloc (.cells #[.int .i64 p] 3)).1[w.1.size + 1]? = some (.cells #[.int .i64 p] 3) := by rw [<- e]; exact Z02 _ _
 obtain ⟨x0, x1, x2, x3, x4⟩ := Zgw h1
 exact ⟨Kaa _ _ 0 _ _ _ h2, x3, x4⟩
theorem Zdk (T BB TB PB base : Nat) (v vg : Value) (Gs : List Grp) (tabs : Nat -> List Int) (m : Nat) (ps : List Int) (g : Nat) (ls : List Lev) (lv : Nat) (C : List Int) (w : World) (h : TreeW w T BB TB PB base v vg Gs tabs m ps) (hg : g < Gs.length)
 (hr : RdLevs w v ls) (pD : lv < ls.length) (qA : Gs[g].lvl = (lv : Int)) (rK : ls.length <= 1000) (qB : 0 <= ls[lv].cents /\ ls[lv].cents <= 1000000)
 (hC : 1 <= C.length /\ C.length <= 5000) (rL : ∀ x ∈ C, -1 <= x /\ x <= 1000000000000)
 (rM : ∀ W, Below w.1.size w W -> Calls Tryz.prog 99 #[.pointer (some ⟨T, 0, none⟩), .int .i64 g] W fun e w' => ∃ a cap, e = .returned (.slice a C.length cap) /\ Below W.1.size W w' /\ RowJ w' base (.slice a C.length cap) C) :
 Calls Tryz.prog 63 #[.pointer (some ⟨T, 0, none⟩), .int .i64 g] w fun e w' => ∃ a cap, e = .returned (.slice a (Z1z C (decide (lv + 1 = ls.length)) ls[lv].min ls[lv].cents).length cap) /\ Below w.1.size w w' /\
  RowJ w' base (.slice a (Z1z C (decide (lv + 1 = ls.length)) ls[lv].min ls[lv].cents).length cap) (Z1z C (decide (lv + 1 = ls.length)) ls[lv].min ls[lv].cents) := by
 obtain ⟨l1, l2, l3, l4, l5⟩ := h.lt
 obtain ⟨c0, c1, c2, c3, c4⟩ := h.tr.c
 obtain ⟨ag, cg, rfl, pN⟩ := h.gr
 obtain ⟨gg, og, rfl, sO, rN⟩ := pN (by omega)
 obtain ⟨gsv, sP, g0, g1, g2, g3⟩ := rN g hg
 rw [qA] at g0
 obtain ⟨al, cl, rfl, pY⟩ := hr
 obtain ⟨gl, ol, rfl, rA, rO⟩ := pY (by omega)
 obtain ⟨lsv, sR, qS⟩ := rO lv pD
 obtain ⟨ai, ci, rfl, _⟩ := sP
 obtain ⟨al', cl', rfl, _⟩ := sR
 obtain ⟨l, hl⟩ : ∃ l, l = ls[lv] := ⟨_, rfl⟩
 rw [<- hl] at qS qB ⊢
 have qC := Z0 (Z9W C l.min l.cents (decide (lv + 1 = ls.length)) (by omega))
 obtain ⟨R, hR⟩ : ∃ R, R = Z1z C (decide (lv + 1 = ls.length)) l.min l.cents := ⟨_, rfl⟩
 rw [<- hR] at qC ⊢
 clear hR
 obtain ⟨n1, rP⟩ : ∃ n, n = Gs[g].items.length := ⟨_, rfl⟩
 obtain ⟨n2, rQ⟩ : ∃ n, n = l.labs.length := ⟨_, rfl⟩
 rw [<- rP] at g3
 rw [<- rQ] at qS
 obtain ⟨nm, rR⟩ : ∃ n, n = Gs[g].name := ⟨_, rfl⟩
 obtain ⟨up, rS⟩ : ∃ n, n = Gs[g].up := ⟨_, rfl⟩
 rw [<- rR] at g1
 rw [<- rS] at g2
 have rT := Z0 rM
 have rU := Z0 rL
 clear pN rN pY rO hl rP rR rS rM rL c2 c3 c4 h
 obtain ⟨w1, sS⟩ : ∃ w1 : World, w1 = w.alloc (.cells #[.int .i64 lv, .string nm, .int .i64 up, .slice ai n1 ci] 107) := ⟨_, rfl⟩
 go_enter Tryz.func63, Tryz.ntmps63
 go_wp2_with (first
  | (go_at_call 99; refine (rT.out _ ((Z9 _ w).alloc (Z1 _) _)).mono ?_; rintro e w2 ⟨ac, cc, rfl, qT, rV⟩)
  | (go_at_call 100; refine (Z5n (-1) C.length w2.1.size 0 1 _ (by omega) (by simp [go_sem]) (by simp)).mono ?_; rintro e w3 ⟨gr, rfl, rW, rX, rY⟩))
 have pO : Below w.1.size w w2 := Z0l (Z9 _ w) (Z1 _) qT
 have tA : w.1.size + 1 <= w2.1.size := by have := qT.size; simp at this; exact this
 have pL : Below w2.1.size w2 w3 := Z0l (Z9 _ w2) (Z1 _) rY
 have t0 : w2.cell? ⟨T, 0, none⟩ = some (.slice (some ⟨gl, ol, none⟩) ls.length cl) := (pO.cell (p := ⟨T, 0, none⟩) (by show T < _; omega)).trans c0
 have bx : w2.cell? ⟨w.1.size, 0, none⟩ = some (.int .i64 lv) := (qT.cell (p := ⟨w.1.size, 0, none⟩) (by simp)).trans (Kaa _ _ 0 _ _ _ (Z02 w _))
 have lat := qS.below pO rA
 have rZ : gl < w2.1.size := ZH rA pO.size
 have sT := rV.rd
 obtain ⟨ac', cc', sA, pF⟩ := sT
 have q1 : ac = ac' := by injection sA
 subst q1
 obtain ⟨ga, oa, rfl, pP, sB⟩ := pF (by omega)
 have sC := Z0 sB
 have tB : w2.1.size < gr := by simp at rW; omega
 have I0 : IntsAt w3 gr (Z1n C l.min l.cents 0) := by rw [Zbd]; exact rX
 have qU : T < w2.1.size := by omega
 have qD : Hid (∀ (p : Int) (W : World), Calls Tryz.prog 101 #[.agg #[.string l.name, .int .i64 l.pre, .slice al' n2 cl', .int .i64 l.min, .int .i64 l.cents], .int .i64 p] W fun e w' => e = .returned (.func (.func 131) #[] #[.pointer (some ⟨W.1.size + 1, 0, none⟩), .pointer (some ⟨W.1.size, 0, none⟩)]) /\
  Below W.1.size W w' /\ SavAt w' (W.1.size + 1) W.1.size p l.min l.cents /\ w'.1.size = W.1.size + 2) := fun p W => by
  refine (Z9T l (.slice al' n2 cl') p W).mono ?_
  rintro e w' ⟨rfl, rfl⟩
  exact ⟨rfl, ((Z9 _ W).alloc (Z1 _) _).alloc (by simp) _, SavAt.new _ _ _ _, by simp⟩
 clear rQ qT rY rV sA pF sB rW rX c0 c1 g0 g1 g2 g3 qS rT sS rA sO
 by_cases sD : lv + 1 = ls.length
 ·have sU := hC.1
  have hq : ((lv : Int) == (ls.length : Int) - 1) = true := by simp; omega
  have u0 := (pL.cell (p := ⟨T, 0, none⟩) qU).trans t0
  have ub := (pL.cell (p := ⟨w.1.size, 0, none⟩) (by show w.1.size < _; omega)).trans bx
  go_quiet (fail)
  clear u0 ub
  have qE : (Z1n C l.min l.cents 1).take 1 = R := by have h := qC.out; simpa [sD] using h
  have qF := Z0 qE
  have pQ : 1 <= C.length := by omega
  clear qE qC
  go_wp2_with fail
  go_loopw [39] (fun i wr => ∃ p : Nat, p <= 1 /\ i = .int .i64 p /\ Below w2.1.size w2 wr /\ IntsAt wr gr (Z1n C l.min l.cents p)) (fun i _ => 1 - (intOf i).toNat)
  case atStart => exact ⟨0, ZE _, rfl, below_drewN pL _, I0⟩
  case round =>
   clear pL I0
   obtain ⟨p, hp, rfl, hB, hI⟩ := hrel
   by_cases pI : p < 1
   ·have u0 := (hB.cell (p := ⟨T, 0, none⟩) qU).trans t0
    have ub := (hB.cell (p := ⟨w.1.size, 0, none⟩) (by show w.1.size < _; omega)).trans bx
    obtain ⟨y0, y1, y2, y3, y4⟩ := lat.below hB rZ
    have qG := hI.lt
    go_wp2_with fail
    go_still_tail 9, (by kernel_rfl)
    change wpList _ _ _ _ _ wr.drew
    go_wp2_with (go_at_call 101; refine (qD.out _ _).mono ?_; rintro e w6 ⟨rfl, pR, qH, rB⟩)
    all_goals
     have qI : Below w2.1.size w2 w6 := Z01 hB.drew hB.drew.size pR
     have pS : IntsAt w6 gr ((Z1n C l.min l.cents p).set p (Z11 C l.min l.cents p 0)) := by rw [Z5R C l.min l.cents (by omega)]; exact (pR.block gr qG).trans hI
     have pT : SavAt w6 (wr.1.size + 1) wr.1.size p l.min l.cents := qH
     have rC := Z2d C l.min l.cents (show p <= C.length by omega)
     have qJ := Z86 C l.min l.cents (show p < C.length by omega)
     have qK := Z0 qJ
     obtain ⟨X, hX⟩ : ∃ X, X = Z1n C l.min l.cents p := ⟨_, rfl⟩
     rw [<- hX] at pS rC qK
     clear hX qJ u0 ub y0 y1 y2 y3 y4 pR qH rB hI hB
     generalize wr.1.size = vx at pT qG ⊢
     go_wp2_with fail
     go_loopw [10] (fun i wq => ∃ k : Nat, p + k <= C.length /\ i = .int .i64 ((p + k : Nat) : Int) /\ Below w2.1.size w2 wq /\ SavAt wq (vx + 1) vx p l.min l.cents /\ IntsAt wq gr (X.set p (Z11 C l.min l.cents p k))) (fun i _ => C.length - (intOf i).toNat)
     case atStart => exact ⟨0, by omega, rfl, qI, pT, pS⟩
     case round =>
      clear qI pT pS
      obtain ⟨k, hk, rfl, hB, hs, hI⟩ := hrel
      obtain ⟨n, hn⟩ : ∃ n, n = p + k := ⟨_, rfl⟩
      rw [<- hn] at hk ⊢
      have HN := Z0 hn
      by_cases pU : n < C.length
      ·have hsv := Z5l (n : Int) (p : Int) l.min l.cents (vx + 1) vx wr hs (by omega) (by omega) qB
       have qL := Z6K (mn := l.min) (p := (p : Int)) (c := (n : Int)) qB (by omega) (by omega)
       have pA := Z3i C l.min l.cents p k
       dsimp only at pA
       rw [<- hn, Z3I pU] at pA
       have cx : wr.cell? ⟨ga, oa + n, none⟩ = some (.int .i64 C[n]) := (hB.cell (p := ⟨ga, oa + n, none⟩) pP).trans (sC.out n pU)
       have rD := rU.out _ (Z4 pU)
       obtain ⟨own, pM⟩ : ∃ o, o = Z0j l.min l.cents (p : Int) (n : Int) := ⟨_, rfl⟩
       obtain ⟨cv, qM⟩ : ∃ o, o = C[n] := ⟨_, rfl⟩
       rw [<- pM] at hsv qL pA
       rw [<- qM] at cx rD pA
       have pV := Z0 hsv
       clear pM qM hsv hn
       by_cases ho : own = -1
       ·rw [if_neg (by intro h; exact h.1 ho)] at pA
        have pC := Z0 pA
        have qN : (own != -1) = false := by simp [ho]
        clear pA
        go_wp2_with (go_at_call 131; refine pV.out.mono ?_; rintro e w7 ⟨rfl, h7⟩; obtain rfl : wr = w7 := h7)
        go_roundw
        case rel => exact ⟨k + 1, by have := HN.out; omega, by rw [show p + (k + 1) = n + 1 by (have := HN.out; omega)]; go_num, hB, hs, by rw [pC.out]; exact hI⟩
        case measure => simp [intOf]; omega
       ·have qN : (own != -1) = true := by simp [ho]
        by_cases pJ : cv = -1
        ·rw [if_neg (by intro h; exact h.2 pJ)] at pA
         have pC := Z0 pA
         have pW : (cv != -1) = false := by simp [pJ]
         clear pA
         go_wp2_with (go_at_call 131; refine pV.out.mono ?_; rintro e w7 ⟨rfl, h7⟩; obtain rfl : wr = w7 := h7)
         go_roundw
         case rel => exact ⟨k + 1, by have := HN.out; omega, by rw [show p + (k + 1) = n + 1 by (have := HN.out; omega)]; go_num, hB, hs, by rw [pC.out]; exact hI⟩
         case measure => simp [intOf]; omega
        ·rw [if_pos ⟨ho, pJ⟩] at pA
         have pC := Z0 pA
         have pW : (cv != -1) = true := by simp [pJ]
         clear pA
         have d1 := hI.cell (i := p) (by rw [Kb8]; omega)
         have d2 := hI.free p
         have hd : (X.set p (Z11 C l.min l.cents p k)).getD p (-1) = Z11 C l.min l.cents p k := by
          rw [Z2, Kcw (by omega)]; rfl
         rw [hd] at d1
         obtain ⟨acc, qO⟩ : ∃ a, a = Z11 C l.min l.cents p k := ⟨_, rfl⟩
         rw [<- qO] at d1 pC hI
         clear hd qO
         go_wp2_with (go_at_call 131; refine pV.out.mono ?_; rintro e w7 ⟨rfl, h7⟩; obtain rfl : wr = w7 := h7)
         go_still_tail 14, (by kernel_rfl)
         change wpList _ _ _ _ _ wr.drew
         go_wp2_with fail
         all_goals
          go_wp2_with fail
          go_roundw
          case rel =>
           refine ⟨k + 1, by have := HN.out; omega, by rw [show p + (k + 1) = n + 1 by (have := HN.out; omega)]; go_num, hB.drew.setCell (p := ⟨gr, p, none⟩) (by show w2.1.size <= gr; omega) _, SavAt.set hs (by show vx + 1 ≠ gr; omega) (by show vx ≠ gr; omega) _, ?_⟩
           have h9 := hI.set p (max acc (cv + own))
           rw [List.set_set] at h9
           rw [pC.out]
           exact h9
          case measure => simp [intOf]; omega
      ·have rE : k = C.length - p := by omega
       clear hn
       go_wp2_with fail
       go_roundw
       case rel =>
        refine ⟨p + 1, by omega, by go_num, hB, ?_⟩
        rw [<- qK.out, <- rE]
        exact hI
       case measure => simp [intOf]; omega
   ·have rF : p = 1 := by omega
    go_wp2_with fail
    go_ret
    have pY : R.length = 1 := by rw [<- qF.out, Kax, Z2d C l.min l.cents pQ]; omega
    rw [rF] at hI
    have qP := (RowJ.of_ints (base := base) hI (by omega) C.length).take (k := 1) (cap' := C.length) (by rw [Z2d C l.min l.cents pQ]; exact pQ)
    rw [qF.out] at qP
    rw [pY]
    exact ⟨_, C.length, rfl, pO.trans (hB.mono pO.size), qP⟩
 ·have sU := hC.1
  have hq : ((lv : Int) == (ls.length : Int) - 1) = false := by simp; omega
  have u0 := (pL.cell (p := ⟨T, 0, none⟩) qU).trans t0
  have ub := (pL.cell (p := ⟨w.1.size, 0, none⟩) (by show w.1.size < _; omega)).trans bx
  go_quiet (fail)
  clear u0 ub
  have qE : (Z1n C l.min l.cents C.length).take C.length = R := by have h := qC.out; simpa [sD] using h
  have qF := Z0 qE
  have pQ : C.length <= C.length := by omega
  clear qE qC
  go_wp2_with fail
  go_loopw [39] (fun i wr => ∃ p : Nat, p <= C.length /\ i = .int .i64 p /\ Below w2.1.size w2 wr /\ IntsAt wr gr (Z1n C l.min l.cents p)) (fun i _ => C.length - (intOf i).toNat)
  case atStart => exact ⟨0, ZE _, rfl, below_drewN pL _, I0⟩
  case round =>
   clear pL I0
   obtain ⟨p, hp, rfl, hB, hI⟩ := hrel
   by_cases pI : p < C.length
   ·have u0 := (hB.cell (p := ⟨T, 0, none⟩) qU).trans t0
    have ub := (hB.cell (p := ⟨w.1.size, 0, none⟩) (by show w.1.size < _; omega)).trans bx
    obtain ⟨y0, y1, y2, y3, y4⟩ := lat.below hB rZ
    have qG := hI.lt
    go_wp2_with fail
    go_still_tail 9, (by kernel_rfl)
    change wpList _ _ _ _ _ wr.drew
    go_wp2_with (go_at_call 101; refine (qD.out _ _).mono ?_; rintro e w6 ⟨rfl, pR, qH, rB⟩)
    all_goals
     have qI : Below w2.1.size w2 w6 := Z01 hB.drew hB.drew.size pR
     have pS : IntsAt w6 gr ((Z1n C l.min l.cents p).set p (Z11 C l.min l.cents p 0)) := by rw [Z5R C l.min l.cents (by omega)]; exact (pR.block gr qG).trans hI
     have pT : SavAt w6 (wr.1.size + 1) wr.1.size p l.min l.cents := qH
     have rC := Z2d C l.min l.cents (show p <= C.length by omega)
     have qJ := Z86 C l.min l.cents (show p < C.length by omega)
     have qK := Z0 qJ
     obtain ⟨X, hX⟩ : ∃ X, X = Z1n C l.min l.cents p := ⟨_, rfl⟩
     rw [<- hX] at pS rC qK
     clear hX qJ u0 ub y0 y1 y2 y3 y4 pR qH rB hI hB
     generalize wr.1.size = vx at pT qG ⊢
     go_wp2_with fail
     go_loopw [10] (fun i wq => ∃ k : Nat, p + k <= C.length /\ i = .int .i64 ((p + k : Nat) : Int) /\ Below w2.1.size w2 wq /\ SavAt wq (vx + 1) vx p l.min l.cents /\ IntsAt wq gr (X.set p (Z11 C l.min l.cents p k))) (fun i _ => C.length - (intOf i).toNat)
     case atStart => exact ⟨0, by omega, rfl, qI, pT, pS⟩
     case round =>
      clear qI pT pS
      obtain ⟨k, hk, rfl, hB, hs, hI⟩ := hrel
      obtain ⟨n, hn⟩ : ∃ n, n = p + k := ⟨_, rfl⟩
      rw [<- hn] at hk ⊢
      have HN := Z0 hn
      by_cases pU : n < C.length
      ·have hsv := Z5l (n : Int) (p : Int) l.min l.cents (vx + 1) vx wr hs (by omega) (by omega) qB
       have qL := Z6K (mn := l.min) (p := (p : Int)) (c := (n : Int)) qB (by omega) (by omega)
       have pA := Z3i C l.min l.cents p k
       dsimp only at pA
       rw [<- hn, Z3I pU] at pA
       have cx : wr.cell? ⟨ga, oa + n, none⟩ = some (.int .i64 C[n]) := (hB.cell (p := ⟨ga, oa + n, none⟩) pP).trans (sC.out n pU)
       have rD := rU.out _ (Z4 pU)
       obtain ⟨own, pM⟩ : ∃ o, o = Z0j l.min l.cents (p : Int) (n : Int) := ⟨_, rfl⟩
       obtain ⟨cv, qM⟩ : ∃ o, o = C[n] := ⟨_, rfl⟩
       rw [<- pM] at hsv qL pA
       rw [<- qM] at cx rD pA
       have pV := Z0 hsv
       clear pM qM hsv hn
       by_cases ho : own = -1
       ·rw [if_neg (by intro h; exact h.1 ho)] at pA
        have pC := Z0 pA
        have qN : (own != -1) = false := by simp [ho]
        clear pA
        go_wp2_with (go_at_call 131; refine pV.out.mono ?_; rintro e w7 ⟨rfl, h7⟩; obtain rfl : wr = w7 := h7)
        go_roundw
        case rel => exact ⟨k + 1, by have := HN.out; omega, by rw [show p + (k + 1) = n + 1 by (have := HN.out; omega)]; go_num, hB, hs, by rw [pC.out]; exact hI⟩
        case measure => simp [intOf]; omega
       ·have qN : (own != -1) = true := by simp [ho]
        by_cases pJ : cv = -1
        ·rw [if_neg (by intro h; exact h.2 pJ)] at pA
         have pC := Z0 pA
         have pW : (cv != -1) = false := by simp [pJ]
         clear pA
         go_wp2_with (go_at_call 131; refine pV.out.mono ?_; rintro e w7 ⟨rfl, h7⟩; obtain rfl : wr = w7 := h7)
         go_roundw
         case rel => exact ⟨k + 1, by have := HN.out; omega, by rw [show p + (k + 1) = n + 1 by (have := HN.out; omega)]; go_num, hB, hs, by rw [pC.out]; exact hI⟩
         case measure => simp [intOf]; omega
        ·rw [if_pos ⟨ho, pJ⟩] at pA
         have pC := Z0 pA
         have pW : (cv != -1) = true := by simp [pJ]
         clear pA
         have d1 := hI.cell (i := p) (by rw [Kb8]; omega)
         have d2 := hI.free p
         have hd : (X.set p (Z11 C l.min l.cents p k)).getD p (-1) = Z11 C l.min l.cents p k := by
          rw [Z2, Kcw (by omega)]; rfl
         rw [hd] at d1
         obtain ⟨acc, qO⟩ : ∃ a, a = Z11 C l.min l.cents p k := ⟨_, rfl⟩
         rw [<- qO] at d1 pC hI
         clear hd qO
         go_wp2_with (go_at_call 131; refine pV.out.mono ?_; rintro e w7 ⟨rfl, h7⟩; obtain rfl : wr = w7 := h7)
         go_still_tail 14, (by kernel_rfl)
         change wpList _ _ _ _ _ wr.drew
         go_wp2_with fail
         all_goals
          go_wp2_with fail
          go_roundw
          case rel =>
           refine ⟨k + 1, by have := HN.out; omega, by rw [show p + (k + 1) = n + 1 by (have := HN.out; omega)]; go_num, hB.drew.setCell (p := ⟨gr, p, none⟩) (by show w2.1.size <= gr; omega) _, SavAt.set hs (by show vx + 1 ≠ gr; omega) (by show vx ≠ gr; omega) _, ?_⟩
           have h9 := hI.set p (max acc (cv + own))
           rw [List.set_set] at h9
           rw [pC.out]
           exact h9
          case measure => simp [intOf]; omega
      ·have rE : k = C.length - p := by omega
       clear hn
       go_wp2_with fail
       go_roundw
       case rel =>
        refine ⟨p + 1, by omega, by go_num, hB, ?_⟩
        rw [<- qK.out, <- rE]
        exact hI
       case measure => simp [intOf]; omega
   ·have rF : p = C.length := by omega
    go_wp2_with fail
    go_ret
    have pY : R.length = C.length := by rw [<- qF.out, Kax, Z2d C l.min l.cents pQ]; omega
    rw [rF] at hI
    have qP := (RowJ.of_ints (base := base) hI (by omega) C.length).take (k := C.length) (cap' := C.length) (by rw [Z2d C l.min l.cents pQ]; exact pQ)
    rw [qF.out] at qP
    rw [pY]
    exact ⟨_, C.length, rfl, pO.trans (hB.mono pO.size), qP⟩
end
section
open Go.RowKit
def Z0C (ls : List Lev) : List (Int × Int) := ls.map (fun l => (l.min, l.cents))
theorem Z3x (ls : List Lev) : (Z0C ls).length = ls.length := by unfold Z0C; simp
theorem Z5g (ls : List Lev) (cs : List ByteArray) {a b : Nat} (h : a <= b) : Z0h ls cs a <= Z0h ls cs b := by
 induction b with
 | zero => obtain rfl : a = 0 := (by omega); exact Z1 _
 | succ b ih =>
  by_cases e : a = b + 1
  ·subst e; exact Z1 _
  ·exact Kaw (ih (by omega)) (Kbr _ _)
theorem Z45 (ls : List Lev) (cs : List ByteArray) : ∀ k g, g < Z0h ls cs k -> ∃ m j, m < k /\ j < (nm ls cs m).length /\ g = Z0h ls cs m + j
 | 0, g, h => absurd h (Ka2 _)
 | k + 1, g, h => by
  by_cases hg : g < Z0h ls cs k
  ·obtain ⟨m, j, h1, h2, h3⟩ := Z45 ls cs k g hg
   exact ⟨m, j, by omega, h2, h3⟩
  ·have h' : g < Z0h ls cs k + (nm ls cs k).length := h
   exact ⟨k, g - Z0h ls cs k, by omega, by omega, by omega⟩
theorem ZeQ {ls : List Lev} {cs : List ByteArray} {m m' j j' : Nat} (h : j < (nm ls cs m).length) (h' : j' < (nm ls cs m').length) (e : Z0h ls cs m + j = Z0h ls cs m' + j') : m = m' /\ j = j' := by
 rcases Nat.lt_trichotomy m m' with hm | hm | hm
 ·have h1 : Z0h ls cs m + (nm ls cs m).length <= Z0h ls cs m' := Z5g ls cs (show m + 1 <= m' from hm)
  omega
 ·subst hm; exact ⟨rfl, by omega⟩
 ·have h1 : Z0h ls cs m' + (nm ls cs m').length <= Z0h ls cs m := Z5g ls cs (show m' + 1 <= m from hm)
  omega
theorem Zft (ls : List Lev) (cs : List ByteArray) (m : Nat) : StrictB (nm ls cs m) := Z3t _
theorem Ziy {ls : List Lev} {cs : List ByteArray} {m j : Nat} (h : j < (nm ls cs m).length) : idx (nm ls cs m)[j] (nm ls cs m) = j := Z7k (Zft ls cs m) h
theorem Zfv {ls : List Lev} {cs : List ByteArray} {m j : Nat} (h : j < (nm ls cs m).length) : (nm ls cs m)[j] ∈ nm ls cs m := Z4 h
theorem Zfw {ls : List Lev} {cs : List ByteArray} {m j j' : Nat} (h : j < (nm ls cs m).length) (h' : j' < (nm ls cs m).length) (e : (nm ls cs m)[j] = (nm ls cs m)[j']) : j = j' := by
 have h1 := Ziy h
 rw [e, Ziy h'] at h1
 exact h1.symm
theorem ZhE {ls : List Lev} {cs : List ByteArray} {m : Nat} {u : ByteArray} (h : u ∈ nm ls cs m) : (nm ls cs m)[idx u (nm ls cs m)]'(Z3m h) = u := by
 have := ZfP h
 rw [Z3 (Z3m h)] at this
 exact Kav this
def pG (ls : List Lev) (cs : List ByteArray) : List PGrp := Z0n (Z16 ls cs ls.length)
theorem Zfn (ls : List Lev) (cs : List ByteArray) : (pG ls cs).length = Z0h ls cs ls.length := by unfold pG; rw [Z1W, Z9i]
theorem Zbr {ls : List Lev} {cs : List ByteArray} {m j : Nat} (hm : m < ls.length) (hj : j < (nm ls cs m).length) : Z0c (pG ls cs) (Z0h ls cs m + j) = ⟨m, if m + 1 < ls.length then (Zis ls cs m (nm ls cs m)[j] : Int) else -1, itm ls cs m (nm ls cs m)[j]⟩ := by
 have hg := ZcU ls cs ls.length m j hm hj
 obtain ⟨pI, he⟩ := Kam.1 hg
 unfold pG
 rw [Z2F pI, he]
 rfl
theorem Zj9 {ls : List Lev} {cs : List ByteArray} {m j : Nat} (hm : m < ls.length) (hj : j < (nm ls cs m).length) : Z0h ls cs m + j < (pG ls cs).length := by
 rw [Zfn]
 have h1 : Z0h ls cs m + (nm ls cs m).length <= Z0h ls cs ls.length := Z5g ls cs (show m + 1 <= ls.length from hm)
 omega
variable {ls : List Lev} {cs : List ByteArray}
theorem Zb5 (h : Z0g ls = true) (hc : ∀ c ∈ cs, Z0G c = true) (hp : ∀ l ∈ ls, ∀ c ∈ cs, l.pre <= c.size) {m j : Nat} (hm : m + 1 < ls.length) (hj : j < (nm ls cs m).length) :
 ∃ J, ∃ hJ : J < (nm ls cs (m + 1)).length, Zis ls cs m (nm ls cs m)[j] = Z0h ls cs (m + 1) + J /\ ∀ q (hq : q < cs.length), Z0e (lv ls m) cs[q] = (nm ls cs m)[j] -> Z0e (lv ls (m + 1)) cs[q] = (nm ls cs (m + 1))[J] := by
 obtain ⟨i, hi, hh, pN⟩ := Z7m (Zfv hj)
 have pB : Z0e (lv ls (m + 1)) (Z7n ls cs m (nm ls cs m)[j]) ∈ nm ls cs (m + 1) := by rw [hh]; exact Zfu hi
 refine ⟨_, Z3m pB, rfl, fun q hq he => ?_⟩
 rw [ZhE pB, hh]
 rw [Zam hm]
 rw [Zam (by omega)] at he pN
 exact Z8g h (hc _ (Z4 hq)) (hc _ (Z4 hi)) (fun l hl => hp l hl _ (Z4 hq)) (fun l hl => hp l hl _ (Z4 hi)) m hm (he.trans pN.symm)
theorem Z2g (h : Z0g ls = true) (hc : ∀ c ∈ cs, Z0G c = true) (hp : ∀ l ∈ ls, ∀ c ∈ cs, l.pre <= c.size) {M J x : Nat} (hM : M < ls.length) (hJ : J < (nm ls cs M).length) (hx : x ∈ Z05 (pG ls cs) (Z0h ls cs M + J)) :
 ∃ m j, ∃ hj : j < (nm ls cs m).length, m + 1 = M /\ x = Z0h ls cs m + j /\ Zis ls cs m (nm ls cs m)[j] = Z0h ls cs M + J /\ ∀ q (hq : q < cs.length), Z0e (lv ls m) cs[q] = (nm ls cs m)[j] -> Z0e (lv ls M) cs[q] = (nm ls cs M)[J] := by
 obtain ⟨h1, h2⟩ := Z2X.1 hx
 rw [Zfn] at h1
 obtain ⟨m, j, hm, hj, rfl⟩ := Z45 ls cs _ _ h1
 rw [Zbr hm hj] at h2
 dsimp only at h2
 by_cases hk : m + 1 < ls.length
 ·rw [if_pos hk] at h2
  obtain ⟨J', hJ', e1, e2⟩ := Zb5 h hc hp hk hj
  rw [e1] at h2
  have h3 : Z0h ls cs (m + 1) + J' = Z0h ls cs M + J := by omega
  obtain ⟨rfl, rfl⟩ := ZeQ hJ' hJ h3
  exact ⟨m, j, hj, rfl, rfl, e1, e2⟩
 ·rw [if_neg hk] at h2
  omega
theorem Z1M {ls : List Lev} {cs : List ByteArray} {m j : Nat} (hm : m < ls.length) (hj : j < (nm ls cs m).length) {i : Int} : i ∈ (Z0c (pG ls cs) (Z0h ls cs m + j)).items ↔ ∃ q : Nat, ∃ hq : q < cs.length, Z0e (lv ls m) cs[q] = (nm ls cs m)[j] /\ i = q := by
 rw [Zbr hm hj]
 exact Z3B
theorem Z9j (h : Z0g ls = true) (hc : ∀ c ∈ cs, Z0G c = true) (hp : ∀ l ∈ ls, ∀ c ∈ cs, l.pre <= c.size) : Forest3 (Z0C ls) (pG ls cs) cs.length := by
 have pE : ∀ g, g < (pG ls cs).length -> ∃ m j, m < ls.length /\ j < (nm ls cs m).length /\ g = Z0h ls cs m + j := fun g hg => Z45 ls cs _ g (by rw [<- Zfn]; exact hg)
 have qQ := Z3x ls
 have qR := Z0y h
 have rG : ∀ m j (hm : m < ls.length) (hj : j < (nm ls cs m).length), (Z0c (pG ls cs) (Z0h ls cs m + j)).items.Nodup := fun m j hm hj => by
  rw [Zbr hm hj]
  exact (Z7f ls cs m _).imp (fun a e => by omega)
 have pH : ∀ m j (hm : m < ls.length) (hj : j < (nm ls cs m).length), (Z0c (pG ls cs) (Z0h ls cs m + j)).lvl = (m : Int) := fun m j hm hj => by rw [Zbr hm hj]
 refine ⟨⟨⟨?_, ?_, ?_, ?_, ?_, ?_⟩, ?_, ?_, ?_⟩, ?_, ?_, ?_⟩
 ·intro g hg
  obtain ⟨m, j, hm, hj, rfl⟩ := pE g hg
  rw [pH m j hm hj]
  omega
 ·intro g hg x hx
  obtain ⟨M, J, hM, hJ, rfl⟩ := pE g hg
  obtain ⟨m, j, hj, rfl, rfl, _, _⟩ := Z2g h hc hp hM hJ hx
  have h1 : Z0h ls cs (m + 1) = Z0h ls cs m + (nm ls cs m).length := rfl
  omega
 ·intro g hg sV
  obtain ⟨M, J, hM, hJ, rfl⟩ := pE g hg
  rw [pH M J hM hJ] at sV
  obtain ⟨m, rfl⟩ : ∃ m, M = m + 1 := ⟨M - 1, by omega⟩
  have sE : ∀ q (hq : q < cs.length), Z0e (lv ls (m + 1)) cs[q] = (nm ls cs (m + 1))[J] -> ∃ j, ∃ hj : j < (nm ls cs m).length, Z0e (lv ls m) cs[q] = (nm ls cs m)[j] /\ Z0h ls cs m + j ∈ Z05 (pG ls cs) (Z0h ls cs (m + 1) + J) := fun q hq he => by
   have pB : Z0e (lv ls m) cs[q] ∈ nm ls cs m := Zfu hq
   refine ⟨_, Z3m pB, (ZhE pB).symm, ?_⟩
   refine Z2X.2 ⟨Zj9 (by omega) (Z3m pB), ?_⟩
   rw [Zbr (by omega) (Z3m pB)]
   dsimp only
   rw [if_pos hM]
   obtain ⟨J', hJ', e1, e2⟩ := Zb5 h hc hp hM (Z3m pB)
   rw [e1]
   have h4 := e2 q hq (ZhE pB).symm
   rw [he] at h4
   rw [Zfw hJ hJ' h4]
  refine ⟨?_, ?_⟩
  ·rw [Kch ?_ (rG _ _ hM hJ)]
   ·intro i
    rw [Z1M hM hJ, Ka5]
    constructor
    ·rintro ⟨x, hx, hi⟩
     obtain ⟨m', j, hj, e0, rfl, _, e2⟩ := Z2g h hc hp hM hJ hx
     obtain rfl : m' = m := by omega
     obtain ⟨q, hq, e3, rfl⟩ := (Z1M (by omega) hj).1 hi
     exact ⟨q, hq, e2 q hq e3, rfl⟩
    ·rintro ⟨q, hq, e3, rfl⟩
     obtain ⟨j, hj, e4, e5⟩ := sE q hq e3
     exact ⟨_, e5, (Z1M (by omega) hj).2 ⟨q, hq, e4, rfl⟩⟩
   ·refine Z53 (Z1U _ _) (fun x hx => ?_) (fun x hx y hy i h1 h2 => ?_)
    ·obtain ⟨m', j, hj, e0, rfl, _, e2⟩ := Z2g h hc hp hM hJ hx
     exact rG _ _ (by omega) hj
    ·obtain ⟨m', j, hj, e0, rfl, _, _⟩ := Z2g h hc hp hM hJ hx
     obtain ⟨m2, j2, sF, e02, rfl, _, _⟩ := Z2g h hc hp hM hJ hy
     obtain rfl : m' = m := by omega
     obtain rfl : m2 = m' := by omega
     obtain ⟨q, hq, e3, rfl⟩ := (Z1M (by omega) hj).1 h1
     obtain ⟨q2, pW, e32, e33⟩ := (Z1M (by omega) sF).1 h2
     obtain rfl : q = q2 := by omega
     rw [Zfw hj sF (e3.symm.trans e32)]
  ·obtain ⟨i, hi, _, pN⟩ := Z7m (Zfv hJ)
   obtain ⟨j, hj, _, e5⟩ := sE i hi pN
   exact List.ne_nil_of_mem e5
 ·intro g hg x hx
  obtain ⟨M, J, hM, hJ, rfl⟩ := pE g hg
  obtain ⟨m, j, hj, rfl, rfl, _, _⟩ := Z2g h hc hp hM hJ hx
  rw [pH _ _ hM hJ, pH _ _ (by omega) hj]
  omega
 ·intro g hg
  obtain ⟨m, j, hm, hj, rfl⟩ := pE g hg
  rw [Zbr hm hj]
  exact Z9g (Zfv hj)
 ·intro l hl
  unfold Z0C at hl
  obtain ⟨l', hl', rfl⟩ := Kae.1 hl
  obtain ⟨i, hi, rfl⟩ := Kau.1 hl'
  obtain ⟨_, _, ⟨_, pD, _, _⟩, _⟩ := Z0I.1 h
  obtain ⟨hh, _⟩ := Z1a.1 (pD i hi hi)
  unfold Z4h at hh
  rw [ZF, Kab] at hh
  exact hh.2.2.2.1
 ·intro g hg
  obtain ⟨m, j, hm, hj, rfl⟩ := pE g hg
  exact rG m j hm hj
 ·intro g hg g' hg' he i h1 h2
  obtain ⟨m, j, hm, hj, rfl⟩ := pE g hg
  obtain ⟨m', j', hm', hj', rfl⟩ := pE g' hg'
  rw [pH _ _ hm hj, pH _ _ hm' hj'] at he
  obtain rfl : m = m' := by omega
  obtain ⟨q, hq, e3, rfl⟩ := (Z1M hm hj).1 h1
  obtain ⟨q2, pW, e32, e33⟩ := (Z1M hm hj').1 h2
  obtain rfl : q = q2 := by omega
  rw [Zfw hj hj' (e3.symm.trans e32)]
 ·intro g hg i hi
  obtain ⟨m, j, hm, hj, rfl⟩ := pE g hg
  obtain ⟨q, hq, _, rfl⟩ := (Z1M hm hj).1 hi
  omega
 ·intro g hg pX
  obtain ⟨m, j, hm, hj, rfl⟩ := pE g hg
  rw [pH _ _ hm hj, qQ]
  by_cases hk : m + 1 < ls.length
  ·exfalso
   obtain ⟨J', hJ', e1, e2⟩ := Zb5 h hc hp hk hj
   refine pX _ (Zj9 hk hJ') (Z2X.2 ⟨hg, ?_⟩)
   rw [Zbr hm hj]
   dsimp only
   rw [if_pos hk, e1]
  ·omega
 ·intro g hg hl
  obtain ⟨m, j, hm, hj, rfl⟩ := pE g hg
  rw [pH _ _ hm hj, qQ] at hl
  unfold Z2L
  rw [pH _ _ hm hj]
  obtain ⟨_, _, ⟨_, pD, _, _⟩, _⟩ := Z0I.1 h
  obtain ⟨_, hh⟩ := Z1a.1 (pD m hm hm)
  rw [Kac (by omega)] at hh
  simp only [if_true] at hh
  unfold Z0C
  rw [Z2, Kal, Kar, Z3 hm]
  show ls[m].min <= 0
  omega
 ·intro i h0 hn
  have hm : ls.length - 1 < ls.length := by omega
  have hq : i.toNat < cs.length := by omega
  have pB : Z0e (lv ls (ls.length - 1)) cs[i.toNat] ∈ nm ls cs (ls.length - 1) := Zfu hq
  refine ⟨_, Zj9 hm (Z3m pB), ?_, (Z1M hm (Z3m pB)).2 ⟨i.toNat, hq, (ZhE pB).symm, by omega⟩⟩
  rw [pH _ _ hm (Z3m pB), qQ]
  omega
end
section
structure TB (N : Nat) (t : List Int) : Prop where
 l1 : 1 <= t.length
 l2 : t.length <= N + 1
 ok : ∀ x ∈ t, -1 <= x
 up : ∀ p, p < t.length -> ent t p <= 1000000 * ((N : Int) - p)
theorem TB.zero : TB 0 [0] := ⟨by simp, by simp, by simp, fun p hp => by
 obtain rfl : p = 0 := by simpa using hp
 show (0 : Int) <= _
 omega⟩
theorem TB.join {N M : Nat} {a b : List Int} (ha : TB N a) (hb : TB M b) : TB (N + M) (Z31 a b) := by
 have hl := Zau ha.ok hb.ok
 have h1 := ha.l1
 have h2 := ha.l2
 have h3 := hb.l1
 have h4 := hb.l2
 refine ⟨by omega, by omega, ZcO ha.ok hb.ok, fun p hp => ?_⟩
 rcases Z9f ha.ok hb.ok p with h0 | ⟨i, j, ⟨q1, q2, _, _⟩, rfl, hv⟩
 ·rw [h0]
  omega
 ·rw [hv]
  have := ha.up i q1
  have := hb.up j q2
  omega
theorem TB.mono {N M : Nat} {a : List Int} (ha : TB N a) (h : N <= M) : TB M a := ⟨ha.l1, by have := ha.l2; omega, ha.ok, fun p hp => by have := ha.up p hp; omega⟩
theorem TB.le {N : Nat} {a : List Int} (ha : TB N a) (hN : N <= 2000) : 1 <= a.length /\ a.length <= 5000 /\ ∀ x ∈ a, -1 <= x /\ x <= 1000000000000 := by
 refine ⟨ha.l1, by have := ha.l2; omega, fun x hx => ⟨ha.ok x hx, ?_⟩⟩
 obtain ⟨i, hi, rfl⟩ := Kau.1 hx
 have := ha.up i hi
 rw [Z3I hi] at this
 omega
theorem TB.merged {ts : List (List Int)} {N : Nat -> Nat} (h : ∀ i, i < ts.length -> TB (N i) (Z0E ts i)) : ∀ k, k <= ts.length -> TB (sQ ts.length N k) (Z06 ts k)
 | 0, _ => TB.zero
 | k + 1, hk => by
  have e : Z06 ts (k + 1) = Z31 (Z0E ts (ts.length - 1 - k)) (Z06 ts k) := rfl
  rw [e]
  unfold sQ
  rw [Nat.add_comm]
  exact TB.join (h _ (by omega)) (TB.merged h k (by omega))
theorem TB.table {N : Nat} {come : List Int} (h : TB N come) (last : Bool) (mn cents : Int) (hc : 0 <= cents /\ cents <= 1000000) : TB N (Z1z come last mn cents) := by
 have h1 := h.l1
 have h2 := h.l2
 have ht := ZgX come last mn cents h.ok (by omega) hc.1
 have hl := Z9I come last mn cents
 refine ⟨ht.2, by rw [hl]; split <;> omega, ht.1, fun p hp => ?_⟩
 rw [hl] at hp
 rw [ZaI come last mn cents hp]
 have tC : p < come.length := by
  split at hp <;> omega
 rcases Z9u come mn cents p h.ok hc.1 (come.length - p) with h0 | ⟨j, hj, h3, h4, h5⟩
 ·rw [h0]; omega
 ·rw [h5]
  have h6 := h.up (p + j) (by omega)
  have h7 : Z0j mn cents (p : Nat) (p + j : Nat) <= 1000000 * (j : Int) := by
   unfold Z0j at h3 ⊢
   split at h3
   ·exact absurd rfl h3
   ·rename_i hn
    rw [if_neg hn]
    have e : ((p + j : Nat) : Int) - (p : Int) = j := by omega
    rw [e, Int.mul_comm]
    exact Int.mul_le_mul_of_nonneg_right hc.2 (by omega)
  omega
theorem Zb6 {α : Type} (l : List Nat) (f : Nat -> List α) : (l.flatMap f).length = (l.map (fun h => (f h).length)).sum := by
 induction l with
 | nil => rfl
 | cons a r ih => rw [Kao, ZC, ih, Kan, Ka7]
theorem Zk3 {l : List Nat} {f : Nat -> Nat} (h : ∀ x ∈ l, 1 <= f x) : l.length <= (l.map f).sum := by
 induction l with
 | nil => exact ZE _
 | cons a r ih =>
  rw [Kan, Ka7, Ka9]
  have := h a Kaf
  have := ih (fun x hx => h x (Kaj _ hx))
  omega
theorem ZbB {ls : List (Int × Int)} {gs : List PGrp} (hF : Forest ls gs) (hc : ∀ l ∈ ls, l.2 <= 1000000) {g : Nat} (hg : g < gs.length) : 0 <= (Z2L ls gs g).2 /\ (Z2L ls gs g).2 <= 1000000 := by
 refine ⟨Z3Q hF hg, ?_⟩
 obtain ⟨a, b⟩ := hF.lvl g hg
 have hi : (Z0c gs g).lvl.toNat < ls.length := by omega
 unfold Z2L
 rw [Z2, Z3 hi]
 exact hc _ (Z4 hi)
theorem ZaG (n p : Nat) (hp : p < (List.replicate n (-1 : Int) ++ [0]).length) : ent (List.replicate n (-1) ++ [0]) p <= 1000000 * ((n : Int) - p) := by
 have hl : (List.replicate n (-1 : Int) ++ [0]).length = n + 1 := by simp
 by_cases h : ent (List.replicate n (-1) ++ [0]) p = -1
 ·rw [h]; omega
 ·obtain ⟨rfl, h2⟩ := ZaH n p h
  rw [h2]; omega
theorem Z6E {ls : List (Int × Int)} {gs : List PGrp} (hF : Forest ls gs) {g : Nat} (hg : g < gs.length) (hl : 0 < (Z0c gs g).lvl) : ((Z05 gs g).map (fun h => (Z0c gs h).items.length)).sum = (Z0c gs g).items.length := by
 rw [<- Zb6]
 exact (hF.parts g hg hl).1.length_eq
theorem ZiS {ls : List (Int × Int)} {gs : List PGrp} (hF : Forest ls gs) {g : Nat} (hg : g < gs.length) (hl : 0 < (Z0c gs g).lvl) : (Z05 gs g).length <= (Z0c gs g).items.length := by
 rw [<- Z6E hF hg hl]
 refine Zk3 (fun x hx => ?_)
 have h1 := hF.below g hg x hx
 exact Kcr.2 (hF.some_ x (by omega))
theorem Z9N {ls : List (Int × Int)} {gs : List PGrp} {g i : Nat} (hi : i < (Z05 gs g).length) : Z0E (Z0b ls gs g) i = Z17 ls gs ((Z05 gs g).getD i 0) := by
 unfold Z0E Z0b
 rw [Z2, Kal, Z2, Z3 hi]
 rfl
theorem Zai {ls : List (Int × Int)} {gs : List PGrp} (hF : Forest ls gs) {g : Nat} (hg : g < gs.length) (hl : 0 < (Z0c gs g).lvl) (ih : ∀ h, h < g -> TB (Z0c gs h).items.length (Z17 ls gs h)) :
 ∀ k, k <= (Z0b ls gs g).length -> TB (Z0c gs g).items.length (Z06 (Z0b ls gs g) k) := by
 intro k hk
 have qR : (Z0b ls gs g).length = (Z05 gs g).length := by unfold Z0b; simp
 have := TB.merged (ts := Z0b ls gs g) (N := fun i => (Z0c gs ((Z05 gs g).getD i 0)).items.length) (fun i hi => by
  rw [qR] at hi
  rw [Z9N hi]
  refine ih _ (hF.below g hg _ ?_)
  rw [Z2, Z3 hi]
  exact Z4 hi) k hk
 refine this.mono ?_
 have h1 := ZeV (Z0b ls gs g).length (fun i => (Z0c gs ((Z05 gs g).getD i 0)).items.length) k hk
 have h2 := Z18 (Z05 gs g) (fun h => (Z0c gs h).items.length)
 rw [<- qR] at h2
 have h3 := Z6E hF hg hl
 rw [h2] at h1
 omega
theorem Zgh {ls : List (Int × Int)} {gs : List PGrp} (hF : Forest ls gs) {g : Nat} (hg : g < gs.length) (ih : ∀ h, h < g -> TB (Z0c gs h).items.length (Z17 ls gs h)) : TB (Z0c gs g).items.length (Z1c ls gs g) := by
 unfold Z1c Z23
 by_cases h0 : (Z0c gs g).lvl = 0
 ·rw [if_pos h0]
  refine ⟨by simp, by simp, fun x hx => ?_, fun p hp => ZaG _ p hp⟩
  rcases ZG.1 hx with hx | hx
  ·rw [(List.mem_replicate.1 hx).2]; decide
  ·obtain rfl := ZI.1 hx; decide
 ·rw [if_neg h0]
  have hl : 0 < (Z0c gs g).lvl := by have := (hF.lvl g hg).1; omega
  have pK := (hF.parts g hg hl).2
  have hl' : (Z0b ls gs g).length ≠ 0 := by unfold Z0b; rw [Z7]; exact fun h => pK (Kag.1 h)
  rw [if_neg hl']
  exact Zai hF hg hl ih _ (Z1 _)
theorem Z9J {ls : List (Int × Int)} {gs : List PGrp} (hF : Forest ls gs) (hc : ∀ l ∈ ls, l.2 <= 1000000) : ∀ g, g < gs.length -> TB (Z0c gs g).items.length (Z17 ls gs g) := by
 intro g
 induction g using Nat.strongRecOn with
 | ind g ih =>
  intro hg
  rw [Z4s hF hg]
  exact (Zgh hF hg (fun h hh => ih h hh (by omega))).table _ _ _ (ZbB hF hc hg)
theorem ZeJ {ls : List (Int × Int)} {gs : List PGrp} (hF : Forest ls gs) (hc : ∀ l ∈ ls, l.2 <= 1000000) (hi : ∀ g, g < gs.length -> (Z0c gs g).items.length <= 2000) {g : Nat} (hg : g < gs.length) (hl : 0 < (Z0c gs g).lvl) : MOk (Z0b ls gs g) := by
 have qR : (Z0b ls gs g).length = (Z05 gs g).length := by unfold Z0b; simp
 refine ⟨?_, fun t ht => ?_, fun k hk => ?_⟩
 ·rw [qR]
  have := ZiS hF hg hl
  have := hi g hg
  omega
 ·obtain ⟨h, hh, rfl⟩ := Kae.1 ht
  have pI := hF.below g hg h hh
  exact (Z9J hF hc h (by omega)).le (hi h (by omega))
 ·exact (Zai hF hg hl (fun h hh => Z9J hF hc h (by omega)) k hk).le (hi g hg)
end
section
def ZcR (a rest : List Int) (fits : Int -> Int -> Bool) (i : Nat) : Bool :=
 decide (a.getD i (-1) ≠ -1) && (List.range rest.length).any (fun j => decide (rest.getD j (-1) ≠ -1) && fits (i + j : Nat) (a.getD i (-1) + rest.getD j (-1)))
theorem Zkn {a rest : List Int} {fits : Int -> Int -> Bool} {i : Nat} (hi : i < a.length) (h0 : ∀ i', i' < i -> ZcR a rest fits i' = false) (h1 : ZcR a rest fits i = true) : Z8F a rest fits = i := by
 unfold Z8F
 have : (List.range a.length).find? (ZcR a rest fits) = some i := by
  rw [Kdl]
  refine ⟨h1, i, by simpa using hi, by simp, fun j hj => ?_⟩
  rw [Kbv, h0 j hj]; rfl
 unfold ZcR at this
 rw [this]; rfl
theorem Zkl {a rest : List Int} {fits : Int -> Int -> Bool} (h0 : ∀ i', i' < a.length -> ZcR a rest fits i' = false) : Z8F a rest fits = a.length - 1 := by
 unfold Z8F
 have : (List.range a.length).find? (ZcR a rest fits) = none := by
  rw [List.find?_eq_none]
  intro x hx
  rw [h0 x (Ka8.1 hx)]
  exact Bool.false_ne_true
 unfold ZcR at this
 rw [this]; rfl
theorem Zkm (a rest : List Int) (fits : Int -> Int -> Bool) (h : 1 <= a.length) : Z8F a rest fits < a.length := by
 unfold Z8F
 cases hf : (List.range a.length).find? (fun i => decide (a.getD i (-1) ≠ -1) && (List.range rest.length).any (fun j => decide (rest.getD j (-1) ≠ -1) && fits (i + j : Nat) (a.getD i (-1) + rest.getD j (-1)))) with
 | none => show a.length - 1 < _; omega
 | some x => exact Ka8.1 (Kc6 hf)
theorem ZhU {a rest : List Int} {fits : Int -> Int -> Bool} {i : Nat} (h : ent a i = -1) : ZcR a rest fits i = false := by
 unfold ZcR
 unfold ent at h
 rw [h]; rfl
theorem Zjm {a rest : List Int} {fits : Int -> Int -> Bool} {i j : Nat} (h : ent a i ≠ -1) (hj : j < rest.length) (h2 : ent rest j ≠ -1) (h3 : fits (i + j : Nat) (ent a i + ent rest j) = true) : ZcR a rest fits i = true := by
 unfold ZcR
 unfold ent at *
 rw [ZF, Kab, Kbp]
 exact ⟨h, j, Ka8.2 hj, by rw [ZF, Kab]; exact ⟨h2, h3⟩⟩
theorem Zki {a rest : List Int} {fits : Int -> Int -> Bool} {i : Nat} (h : ∀ j, j < rest.length -> ent rest j ≠ -1 -> fits (i + j : Nat) (ent a i + ent rest j) = false) : ZcR a rest fits i = false := by
 unfold ZcR
 unfold ent at *
 rw [Bool.and_eq_false_iff]
 right
 rw [Kb4]
 intro j hj hh
 rw [ZF, Kab] at hh
 rw [h j (Ka8.1 hj) hh.1] at hh
 cases hh.2
def Zjq (mn cents P most come saved : Int) (q below : Int) : Bool := decide (Z0j mn cents P (come + q) ≠ -1) && decide (saved + below + Z0j mn cents P (come + q) = most)
def ZbX (mn cents P most : Int) (ts : List (List Int)) (k : Nat) : Nat := Z8F (Z0E ts k) (Z06 ts (ts.length - 1 - k)) (Zjq mn cents P most (Z1k mn cents P most ts k).1 (Z1k mn cents P most ts k).2.1)
theorem Z56 (mn cents P most : Int) (ts : List (List Int)) (k : Nat) : Z1k mn cents P most ts (k + 1) = ((Z1k mn cents P most ts k).1 + ZbX mn cents P most ts k, (Z1k mn cents P most ts k).2.1 + ent (Z0E ts k) (ZbX mn cents P most ts k), (Z1k mn cents P most ts k).2.2 ++ [ZbX mn cents P most ts k]) := by
 rw [Z1k]
 generalize hd : Z1k mn cents P most ts k = d
 obtain ⟨come, saved, out⟩ := d
 unfold ZbX
 rw [hd]
 rfl
theorem ZbW (mn cents P most : Int) (ts : List (List Int)) : ∀ k, (Z1k mn cents P most ts k).2.2.length = k
 | 0 => rfl
 | k + 1 => by rw [Z56]; dsimp only; rw [ZC, ZbW mn cents P most ts k]; rfl
theorem Zgd (mn cents P most : Int) (ts : List (List Int)) (i : Nat) : ∀ k, i < k -> (Z1k mn cents P most ts k).2.2.getD i 0 = ZbX mn cents P most ts i
 | 0, h => absurd h (Ka2 _)
 | k + 1, h => by
  rw [Z56]
  dsimp only
  by_cases e : i = k
  ·subst e; rw [Z3H (ZbW mn cents P most ts i)]
  ·rw [Z3G (by rw [ZbW]; omega)]; exact Zgd mn cents P most ts i k (by omega)
theorem Z9s {mn cents P most : Int} {ts : List (List Int)} (hM : MOk ts) {k : Nat} (hk : k < ts.length) : ZbX mn cents P most ts k < (Z0E ts k).length := by
 refine Zkm _ _ _ ?_
 have : Z0E ts k ∈ ts := by unfold Z0E; rw [Z2, Z3 hk]; exact Z4 hk
 exact (hM.one _ this).1
theorem ZeA {ts : List (List Int)} {k : Nat} (hk : k < ts.length) : Z0E ts k ∈ ts := by unfold Z0E; rw [Z2, Z3 hk]; exact Z4 hk
theorem ZiI {l : List Int} {i : Nat} (h : ∀ x ∈ l, -1 <= x /\ x <= 1000000000000) : -1 <= ent l i /\ ent l i <= 1000000000000 := by
 by_cases hi : i < l.length
 ·rw [Z3I hi]; exact h _ (Z4 hi)
 ·unfold ent; rw [Z2, Kbx (by omega)]; exact ⟨by decide, by decide⟩
theorem ZaK {mn cents P most : Int} {ts : List (List Int)} (hM : MOk ts) : ∀ k, k <= ts.length -> (Z1k mn cents P most ts k).1 <= k * 5000 /\ -(k : Int) <= (Z1k mn cents P most ts k).2.1 /\ (Z1k mn cents P most ts k).2.1 <= k * 1000000000000
 | 0, _ => ⟨Z1 _, Kbi _, Kbi _⟩
 | k + 1, hk => by
  obtain ⟨a, b, c⟩ := ZaK hM (mn := mn) (cents := cents) (P := P) (most := most) k (by omega)
  rw [Z56]
  dsimp only
  have h1 := Z9s (mn := mn) (cents := cents) (P := P) (most := most) hM (show k < ts.length by omega)
  have h2 := hM.one _ (ZeA (show k < ts.length by omega))
  have h3 := ZiI (i := ZbX mn cents P most ts k) h2.2.2
  refine ⟨by omega, by omega, by omega⟩
def ZgO (subs : List Nat) (p : Nat -> Nat) (f : Nat -> Int) (k : Nat) : Nat -> Int := fun h => match (subs.take k).idxOf? h with
 | some i => (p i : Int)
 | none => f h
theorem ZeK (subs : List Nat) (p : Nat -> Nat) (f : Nat -> Int) : ZgO subs p f 0 = f := rfl
theorem ZbL {subs : List Nat} {x k : Nat} (hd : subs.Nodup) (hk : k < subs.length) : (subs.take (k + 1)).idxOf? x = if x = subs[k] then some k else (subs.take k).idxOf? x := by
 have hd' : (subs.take (k + 1)).Nodup := hd.sublist (List.take_sublist _ _)
 by_cases e : x = subs[k]
 ·rw [if_pos e, e]
  have := Z3S hd' (i := k) (by rw [Kax]; omega)
  rw [List.getElem_take] at this
  exact this
 ·rw [if_neg e]
  by_cases hm : x ∈ subs.take k
  ·obtain ⟨i, hi, rfl⟩ := Kau.1 hm
   rw [Kax] at hi
   have h1 := Z3S hd' (i := i) (by rw [Kax]; omega)
   have h2 := Z3S (hd.sublist (List.take_sublist k subs)) (i := i) (by rw [Kax]; omega)
   rw [List.getElem_take] at h1 h2 ⊢
   rw [h1, h2]
  ·rw [Z50 hm, Z50]
   rw [Z8 hk, ZG, ZI]
   exact fun h => h.elim hm e
theorem ZeL {subs : List Nat} (p : Nat -> Nat) (f : Nat -> Int) {k : Nat} (hd : subs.Nodup) (hk : k < subs.length) : ZgO subs p f (k + 1) = fun h => if h = subs[k] then (p k : Int) else ZgO subs p f k h := by
 funext h
 unfold ZgO
 rw [ZbL hd hk]
 by_cases e : h = subs[k]
 ·rw [if_pos e, if_pos e]
 ·rw [if_neg e, if_neg e]
def Z88 (f : Nat -> Int) (n : Nat) : List Int := (List.range n).map f
theorem Z4z (f : Nat -> Int) (n : Nat) : (Z88 f n).length = n := by unfold Z88; simp
theorem Zcn {f : Nat -> Int} {n i : Nat} (h : i < n) : (Z88 f n).getD i (-1) = f i := by
 unfold Z88
 rw [Z2, Kal, Kb2 h]; rfl
theorem Zha (f : Nat -> Int) {n i : Nat} (h : i < n) (x : Int) : (Z88 f n).set i x = Z88 (fun j => if j = i then x else f j) n := by
 unfold Z88
 apply Kcf
 ·simp
 ·intro j h1 h2
  rw [List.getElem_set, Kba, Kba, Kbv]
  by_cases e : i = j
  ·rw [if_pos e, if_pos e.symm]
  ·rw [if_neg e, if_neg (fun h => e h.symm)]
theorem Zhb (x : Int) (n : Nat) : List.replicate n x = Z88 (fun _ => x) n := by
 unfold Z88
 apply Kcf
 ·simp
 ·intro j h1 h2; simp
theorem Z8j (ls : List (Int × Int)) (gs : List PGrp) (tabs : List (List Int)) (k : Nat) : Z1L ls gs tabs (k + 1) =
 ZgO (Z05 gs (gs.length - 1 - k)) (ZbX (Z2L ls gs (gs.length - 1 - k)).1 (Z2L ls gs (gs.length - 1 - k)).2 (Z1L ls gs tabs k (gs.length - 1 - k)) ((tabs.getD (gs.length - 1 - k) []).getD (Z1L ls gs tabs k (gs.length - 1 - k)).toNat (-1)) ((Z05 gs (gs.length - 1 - k)).map (fun h => tabs.getD h []))) (Z1L ls gs tabs k) (Z05 gs (gs.length - 1 - k)).length := by
 rw [Z4b]
 funext h
 unfold ZgO
 rw [Kat]
 by_cases hm : h ∈ Z05 gs (gs.length - 1 - k)
 ·obtain ⟨i, hi, rfl⟩ := Kau.1 hm
  rw [Z3S (Z1U _ _) hi]
  dsimp only
  unfold Z71
  rw [Zgd _ _ _ _ _ i _ hi]
 ·rw [Z50 hm]
end
section
open Go.RowKit Go.Sort Go.Shelf
theorem ZfK {ls : List Lev} {Gs : List Grp} {g lv : Nat} (hg : g < Gs.length) (pD : lv < ls.length) (he : Gs[g].lvl = (lv : Int)) : Z2L (Z0C ls) (Z0n Gs) g = (ls[lv].min, ls[lv].cents) := by
 unfold Z2L
 rw [Z2F hg]
 show (Z0C ls).getD (Gs[g].lvl).toNat (0, 0) = _
 rw [he]
 unfold Z0C
 rw [Z2, Kal, Kar, Z3 pD]
 rfl
theorem Z4C {ls : List Lev} (hc : ∀ l ∈ ls, 0 <= l.cents /\ l.cents <= 1000000) : ∀ l ∈ Z0C ls, l.2 <= 1000000 := fun l hl => by
 unfold Z0C at hl
 obtain ⟨l', hl', rfl⟩ := Kae.1 hl
 exact (hc l' hl').2
theorem Z9h {Gs : List Grp} (hi : ∀ x ∈ Gs, x.items.length <= 2000) : ∀ g, g < (Z0n Gs).length -> (Z0c (Z0n Gs) g).items.length <= 2000 := fun g hg => by
 rw [Z1W] at hg
 rw [Z2F hg]
 exact hi _ (Z4 hg)
theorem Zey (T BB TB PB base : Nat) (v vg : Value) (Gs : List Grp) (ps : List Int) (g : Nat) (ls : List Lev) (w : World) (h : TreeW w T BB TB PB base v vg Gs (Z17 (Z0C ls) (Z0n Gs)) g ps) (hF : Forest (Z0C ls) (Z0n Gs)) (hg : g < Gs.length) (hn : Gs.length <= 100000)
 (hr : RdLevs w v ls) (rK : ls.length <= 1000) (hc : ∀ l ∈ ls, 0 <= l.cents /\ l.cents <= 1000000) (hi : ∀ x ∈ Gs, x.items.length <= 2000) :
 Calls Tryz.prog 63 #[.pointer (some ⟨T, 0, none⟩), .int .i64 g] w fun e w' => ∃ a cap, e = .returned (.slice a (Z17 (Z0C ls) (Z0n Gs) g).length cap) /\ Below w.1.size w w' /\
  RowJ w' base (.slice a (Z17 (Z0C ls) (Z0n Gs) g).length cap) (Z17 (Z0C ls) (Z0n Gs) g) := by
 have pZ : g < (Z0n Gs).length := by rw [Z1W]; exact hg
 have pP := Z2F hg
 have qQ := Z3x ls
 obtain ⟨l0, l1⟩ := hF.lvl g pZ
 rw [pP] at l0 l1
 have l0' : 0 <= Gs[g].lvl := l0
 have l1' : Gs[g].lvl < ((Z0C ls).length : Int) := l1
 obtain ⟨lv, qA⟩ : ∃ lv : Nat, Gs[g].lvl = (lv : Int) := ⟨_, (Ka3 l0').symm⟩
 have pD : lv < ls.length := by omega
 have sW : Z17 (Z0C ls) (Z0n Gs) g = Z1z (Z1c (Z0C ls) (Z0n Gs) g) (decide (lv + 1 = ls.length)) ls[lv].min ls[lv].cents := by
  rw [Z4s hF pZ, ZfK hg pD qA, pP]
  congr 1
  rw [decide_eq_decide]
  show Gs[g].lvl = _ ↔ _
  rw [qA, qQ]
  omega
 have sX : Z1c (Z0C ls) (Z0n Gs) g = Z23 Gs[g].lvl Gs[g].items.length ((Z05 (Z0n Gs) g).map (Z17 (Z0C ls) (Z0n Gs))) := by
  unfold Z1c Z0b
  rw [pP]; rfl
 have hi' := Z9h hi
 have hC := (Zgh hF pZ (fun h hh => Z9J hF (Z4C hc) h (by omega))).le (hi' g pZ)
 rw [sW]
 refine Zdk T BB TB PB base v vg Gs (Z17 (Z0C ls) (Z0n Gs)) g ps g ls lv (Z1c (Z0C ls) (Z0n Gs) g) w h hg hr pD qA rK (hc _ (Z4 pD)) ⟨hC.1, hC.2.1⟩ hC.2.2 (fun W hW => ?_)
 rw [sX]
 refine Zi3 T BB TB PB base v vg Gs (Z17 (Z0C ls) (Z0n Gs)) g ps g W (h.below hW) hg hn (by have := hi _ (Z4 hg); omega) (fun x hx => hF.below g pZ x hx) (by omega) (fun pK => ?_)
 refine ZeJ hF (Z4C hc) hi' pZ ?_
 rw [pP]
 show 0 < Gs[g].lvl
 omega
end
section
open Go.RowKit Go.Sort Go.Shelf
structure FitAt (w : World) (SB CB VB MB X Y : Nat) (mn cents P come saved most : Int) : Prop where
 s : w.cell? ⟨SB, 0, none⟩ = some (.func (.func 131) #[] #[.pointer (some ⟨X, 0, none⟩), .pointer (some ⟨Y, 0, none⟩)])
 c : w.cell? ⟨CB, 0, none⟩ = some (.int .i64 come)
 v : w.cell? ⟨VB, 0, none⟩ = some (.int .i64 saved)
 m : w.cell? ⟨MB, 0, none⟩ = some (.int .i64 most)
 a : SavAt w X Y P mn cents
def ZkQ (SB CB VB MB : Nat) : Value := .func (.func 104) #[] #[.pointer (some ⟨SB, 0, none⟩), .pointer (some ⟨CB, 0, none⟩), .pointer (some ⟨VB, 0, none⟩), .pointer (some ⟨MB, 0, none⟩)]
theorem Zjp (q b : Int) (SB CB VB MB X Y : Nat) (mn cents P come saved most : Int) (w : World) (h : FitAt w SB CB VB MB X Y mn cents P come saved most)
 (hp : 0 <= P /\ P <= 1000000) (hc : 0 <= come + q /\ come + q <= 1000000) (pF : 0 <= cents /\ cents <= 1000000) (hs : -10000000000000000 <= saved /\ saved <= 10000000000000000) (hb : -10000000000000000 <= b /\ b <= 10000000000000000) :
 Calls Tryz.prog 104 #[.int .i64 q, .int .i64 b, .pointer (some ⟨SB, 0, none⟩), .pointer (some ⟨CB, 0, none⟩), .pointer (some ⟨VB, 0, none⟩), .pointer (some ⟨MB, 0, none⟩)] w fun e w' => e = .returned (.bool (Zjq mn cents P most come saved q b)) /\ w = w' := by
 obtain ⟨h1, h2, h3, h4, h5⟩ := h
 have hsv := Z5l (come + q) P mn cents X Y w h5 hp hc pF
 have qL : -1 <= Z0j mn cents P (come + q) /\ Z0j mn cents P (come + q) <= 1000000000000 := by
  unfold Z0j
  split
  ·omega
  ·have k1 : 0 <= (come + q - P) * cents := Kdk (by omega) pF.1
   have k2 : (come + q - P) * cents <= 1000000 * 1000000 := Int.mul_le_mul (by omega) pF.2 pF.1 (by omega)
   omega
 unfold Zjq
 obtain ⟨own, pM⟩ : ∃ o, o = Z0j mn cents P (come + q) := ⟨_, rfl⟩
 rw [<- pM] at hsv qL ⊢
 have qD := Z0 hsv
 clear pM hsv h5
 go_enter Tryz.func104, Tryz.ntmps104
 by_cases ho : own = -1
 ·have qN : (own != -1) = false := by simp [ho]
  go_wp2_with (go_at_call 131; refine qD.out.mono ?_; rintro e w7 ⟨rfl, h7⟩; obtain rfl : w = w7 := h7)
  go_ret
  simp [ho]
 ·have qN : (own != -1) = true := by simp [ho]
  go_wp2_with (go_at_call 131; refine qD.out.mono ?_; rintro e w7 ⟨rfl, h7⟩; obtain rfl : w = w7 := h7)
  go_ret
  simp [ho]
  rfl
theorem Zjr (xs ys : List Int) (va vb : Value) (SB CB VB MB X Y : Nat) (mn cents P come saved most : Int) (w : World) (h : FitAt w SB CB VB MB X Y mn cents P come saved most)
 (hx : RdInts w va xs) (hy : RdInts w vb ys) (h1 : 1 <= xs.length /\ xs.length <= 5000) (h2 : 1 <= ys.length /\ ys.length <= 5000) (bx : ∀ x ∈ xs, -1 <= x /\ x <= 1000000000000) (by_ : ∀ y ∈ ys, -1 <= y /\ y <= 1000000000000)
 (hp : 0 <= P /\ P <= 1000000) (hc : 0 <= come /\ come <= 900000) (pF : 0 <= cents /\ cents <= 1000000) (hs : -10000000000000000 <= saved /\ saved <= 10000000000000000) :
 Calls Tryz.prog 105 #[va, vb, ZkQ SB CB VB MB] w fun e w' => e = .returned (.int .i64 (Z8F xs ys (Zjq mn cents P most come saved) : Nat)) /\ w = w' := by
 obtain ⟨a, ca, rfl, sG⟩ := hx
 obtain ⟨b, cb, rfl, sH⟩ := hy
 obtain ⟨gx, ox, rfl, tD, sI⟩ := sG (by omega)
 obtain ⟨gy, oy, rfl, tE, sJ⟩ := sH (by omega)
 have HX := Z0 sI
 have HY := Z0 sJ
 have sY := Z0 bx
 have sZ := Z0 by_
 have sK : Hid (∀ q b : Int, 0 <= q /\ q <= 10000 -> -10000000000000000 <= b /\ b <= 10000000000000000 -> Calls Tryz.prog 104 #[.int .i64 q, .int .i64 b, .pointer (some ⟨SB, 0, none⟩), .pointer (some ⟨CB, 0, none⟩), .pointer (some ⟨VB, 0, none⟩), .pointer (some ⟨MB, 0, none⟩)] w fun e w' => e = .returned (.bool (Zjq mn cents P most come saved q b)) /\ w = w') :=
  fun q b hq hb => Zjp q b SB CB VB MB X Y mn cents P come saved most w h hp (by omega) pF hs hb
 obtain ⟨F, hF⟩ : ∃ F, F = Zjq mn cents P most come saved := ⟨_, rfl⟩
 rw [<- hF] at sK ⊢
 have sL := Z0 (fun i (hi : i < xs.length) => Zkn (a := xs) (rest := ys) (fits := F) hi)
 have sM := Z0 (Zkl (a := xs) (rest := ys) (fits := F))
 obtain ⟨N, hN⟩ : ∃ N, N = Z8F xs ys F := ⟨_, rfl⟩
 rw [<- hN] at sL sM ⊢
 clear hF hN sG sH sI sJ bx by_ h hp hc pF hs
 unfold ZkQ
 go_enter Tryz.func105, Tryz.ntmps105
 go_wp2_with fail
 go_loopw [13] (fun i wr => ∃ k : Nat, k <= xs.length /\ i = .int .i64 k /\ w = wr /\ ∀ i', i' < k -> ZcR xs ys F i' = false) (fun i _ => xs.length - (intOf i).toNat)
 case atStart => exact ⟨0, ZE _, rfl, rfl, fun i' h => absurd h (Ka2 _)⟩
 case round =>
  obtain ⟨k, hk, rfl, hW, pX⟩ := hrel
  subst hW
  have HB := Z0 pX
  clear pX
  by_cases pI : k < xs.length
  ·have c1 := HX.out k pI
   have bxk := sY.out _ (Z4 pI)
   have rH := Z3I pI
   obtain ⟨x, hx⟩ : ∃ x, x = xs[k] := ⟨_, rfl⟩
   rw [<- hx] at c1 bxk rH
   have qV := Z0 rH
   clear hx rH
   by_cases qW : x = -1
   ·have hq : (x == -1) = true := by simp [qW]
    go_wp2_with fail
    go_roundw
    case rel =>
     refine ⟨k + 1, by omega, by go_num, (by first | rfl | trivial), fun i' h' => ?_⟩
     by_cases e : i' = k
     ·subst e; exact ZhU (qV.out.trans qW)
     ·exact HB.out i' (by omega)
    case measure => simp [intOf]; omega
   ·have hq : (x == -1) = false := by simp [qW]
    go_wp2_with fail
    go_loopw [22] (fun j wq => ∃ m : Nat, m <= ys.length /\ j = .int .i64 m /\ w = wq /\ ∀ j', j' < m -> ent ys j' ≠ -1 -> F (k + j' : Nat) (x + ent ys j') = false) (fun j _ => ys.length - (intOf j).toNat)
    case atStart => exact ⟨0, ZE _, rfl, rfl, fun i' h => absurd h (Ka2 _)⟩
    case round =>
     obtain ⟨m, hm, rfl, hW, pX⟩ := hrel
     subst hW
     have HM := Z0 pX
     clear pX
     by_cases qX : m < ys.length
     ·have c2 := HY.out m qX
      have byk := sZ.out _ (Z4 qX)
      have rI := Z3I qX
      obtain ⟨y, hy⟩ : ∃ y, y = ys[m] := ⟨_, rfl⟩
      rw [<- hy] at c2 byk rI
      have qY := Z0 rI
      clear hy rI
      by_cases qZ : y = -1
      ·have pW : (y != -1) = false := by simp [qZ]
       go_wp2_with fail
       go_roundw
       case rel =>
        refine ⟨m + 1, by omega, by go_num, (by first | rfl | trivial), fun j' h' pK => ?_⟩
        by_cases e : j' = m
        ·subst e; exact absurd (qY.out.trans qZ) pK
        ·exact HM.out j' (by omega) pK
       case measure => simp [intOf]; omega
      ·have pW : (y != -1) = true := by simp [qZ]
       have rJ := sK.out ((k : Int) + (m : Int)) (x + y) (by omega) (by omega)
       obtain ⟨f, hf⟩ : ∃ f, f = F ((k : Int) + (m : Int)) (x + y) := ⟨_, rfl⟩
       rw [<- hf] at rJ
       have sN := Z0 rJ
       have HF := Z0 hf
       clear hf rJ
       cases f
       ·go_wp2_with (go_at_call 104; refine sN.out.mono ?_; rintro e w7 ⟨rfl, h7⟩; obtain rfl : w = w7 := h7)
        go_roundw
        case rel =>
         refine ⟨m + 1, by omega, by go_num, (by first | rfl | trivial), fun j' h' pK => ?_⟩
         by_cases e : j' = m
         ·subst e; rw [qY.out, Kc3]; exact HF.out.symm
         ·exact HM.out j' (by omega) pK
        case measure => simp [intOf]; omega
       ·go_wp2_with (go_at_call 104; refine sN.out.mono ?_; rintro e w7 ⟨rfl, h7⟩; obtain rfl : w = w7 := h7)
        go_ret
        have := sL.out k pI HB.out (Zjm (by rw [qV.out]; exact qW) qX (by rw [qY.out]; exact qZ) (by rw [qV.out, qY.out, Kc3]; exact HF.out.symm))
        rw [this]
        exact ⟨rfl, rfl⟩
     ·go_wp2_with fail
      go_roundw
      case rel =>
       refine ⟨k + 1, by omega, by go_num, (by first | rfl | trivial), fun i' h' => ?_⟩
       by_cases e : i' = k
       ·subst e; exact Zki (fun j hj pK => by rw [qV.out]; exact HM.out j (by omega) pK)
       ·exact HB.out i' (by omega)
      case measure => simp [intOf]; omega
  ·go_wp2_with fail
   go_ret
   rw [sM.out (fun i' h' => HB.out i' (by omega)), Int.ofNat_sub h1.1]
   exact ⟨rfl, rfl⟩
end
end Go.Proofs.YtlgajongmkhcnaaGreatDoor
