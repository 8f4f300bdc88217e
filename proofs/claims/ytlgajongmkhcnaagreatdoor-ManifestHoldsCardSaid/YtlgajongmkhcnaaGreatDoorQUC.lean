import Derived.RangeFuncNested
import Derived.RangeFuncBound
import Derived.RangeFuncCalls
import Derived.RangeFuncLeaves
import Derived.Shelf.Abstract
import Derived.Shelf.RegionOpen
import Derived.WalkKit
import Derived.OwnWalkIn
import Derived.TacticsInMore
import Derived.LoopNIn
import Derived.LoopIn
import Derived.Test.YtlgajongmkhcnaaGreatDoorQUB
import Derived.Test.YtlgajongmkhcnaaGreatDoorQU7
import Derived.Test.YtlgajongmkhcnaaGreatDoorQU8
import Derived.Deep.DeepCutAuto
import Derived.Deep.CutBlock
import Derived.BigQuiet
import Derived.Test.YtlgajongmkhcnaaGreatDoorQU5
import Derived.Test.YtlgajongmkhcnaaGreatDoorQU3
import Derived.Test.YtlgajongmkhcnaaGreatDoorQU2
import Derived.OwnWalk
import Derived.Test.YtlgajongmkhcnaaGreatDoorQU0
import Derived.BigRegion
set_option maxRecDepth 100000
set_option linter.unusedVariables false
set_option linter.unusedSimpArgs false
set_option maxHeartbeats 32000000
namespace Go.Proofs.YtlgajongmkhcnaaGreatDoor
section
open Go.RowKit Go.Shelf
def Zir {β : Type} (Bs : Nat) (J : β -> World -> Prop) : Prop :=
 ∀ s A B row, J s A -> World.grownBy A B row -> (∀ r, row = some r -> r = Bs) -> J s B
def Zkw {α : Type} (P : Program) (gf : Nat) (lb : Array Value) (encs : α -> Array Value) (Kp : World -> World -> Prop) (S : List α -> World -> Prop) (Sp : List α -> Prop) (Bs : Nat) (w : World) : Prop :=
 ∀ (l : Nat) (J Jx : List α -> World -> Prop) (W : World), Below w.1.size w W -> Zir Bs J -> Zir Bs Jx ->
  (∀ pre x W1, J pre W1 -> YieldAt Fence.wide 0 P l (encs x) W1 fun e W' =>
   (e = .returned (.bool true) /\ J (pre ++ [x]) W' /\ Kp W1 W') \/ (e = .returned (.bool false) /\ Jx (pre ++ [x]) W')) ->
  J [] W -> CallsIn Fence.wide 0 P gf (#[.func (.yield l) #[] #[]] ++ lb) W fun e W' => (∃ v, e = .returned v) /\ ((∃ xs, S xs W' /\ J xs W') \/ ∃ pre, Sp pre /\ Jx pre W')
theorem Z7o {A B : World} {row : Option Nat} {Bs k : Nat} {o : Obj} (hg : A.grownBy B row) (hr : ∀ r, row = some r -> r = Bs) (hk : A.1[k]? = some o) (pQ : k ≠ Bs) : B.1[k]? = some o :=
 (hg.block k (Z5.1 hk).1 (fun e => pQ (hr k e.symm))).trans hk
def Kept (D : Nat) (lp : Loop) (W : World) : Prop := W.1[D + 1]? = some (.loop lp) /\ W.1[D]? = some (.deferred (some []))
theorem Kept.grown {D Bs : Nat} {lp : Loop} {A B : World} {row : Option Nat} (h : Kept D lp A) (hB : Bs < D) (hg : A.grownBy B row) (hr : ∀ r, row = some r -> r = Bs) : Kept D lp B :=
 ⟨Z7o hg hr h.1 (by omega), Z7o hg hr h.2 (by omega)⟩
theorem Kept.put {D : Nat} {lp lp' : Loop} {W : World} (h : Kept D lp W) : Kept D lp' (W.putObj (D + 1) (.loop lp')) :=
 ⟨World.putObj_heap_same (Z5.1 h.1).1, (World.putObj_heap_other (by omega)).trans h.2⟩
theorem Kept.keeps {D : Nat} {lp : Loop} {W W' : World} (h : Kept D lp W) (hk : KeepsFrom D W W') : Kept D lp W' :=
 ⟨hk.same _ _ (by omega) h.1 rfl, hk.same _ _ (Z1 _) h.2 rfl⟩
theorem Z2u {P : Program} {α : Type} {g : Operand} {ps : Array Tmp} {assign body : Code} {Q : Exit -> Act -> World -> Prop} {a : Act} {w : World}
 {gf : Nat} {lb : Array Value} (hg : a.eval g = .func (.func gf) #[] lb) (eg : ∀ args w, (callFunc gf args).run P w = .ok (.enter gf args) w)
 {encs : α -> Array Value} {Kp : World -> World -> Prop} {S : List α -> World -> Prop} {Sp : List α -> Prop} {Bs : Nat} (qY : Bs < w.1.size) (iE : Zkw P gf lb encs Kp S Sp Bs w)
 (iF : OwnFrom w.1.size S) (uQ : ∀ {A B C : World}, Kp A B -> Kp B C -> Kp A C) (wS : ∀ (W : World) (l : Nat) (o o' : Obj), w.1.size <= l -> W.1[l]? = some o -> o.isCells = false -> Kp W (W.putObj l o')) (uR : ∀ x, (encs x).size = ps.size)
 (I : List α -> World -> Prop) (Ix : Code -> List α -> World -> Prop) (hI : OwnFrom w.1.size I) (tA : ∀ c, OwnFrom w.1.size (Ix c)) (iG : Zir Bs I) (iH : ∀ c, Zir Bs (Ix c)) (h0 : I [] w)
 (Ax : α -> Act -> World -> Prop) (iI : ∀ x a', OwnFrom w.1.size (fun (_ : Unit) W => Ax x a' W))
 (iJ : ∀ (l : Nat) (pre : List α) (x : α) (W : World) (K : Act -> World -> Prop), I pre W -> (∀ a' W', KeepsFrom w.1.size W W' -> Kp W W' -> I pre W' -> Ax x a' W' -> K a' W') ->
  assign.wpIn (Fence.wide.inRound l) 0 P (Exit.then K (fun _ _ _ => False)) { tmps := (ps.zip (encs x)).foldl (fun t (p, v) => t.setIfInBounds p v) a.tmps, defers := [] } W)
 (iK : ∀ (l : Nat) (pre : List α) (x : α) (a' : Act) (W : World), I pre W -> Ax x a' W -> body.wpIn (Fence.wide.inRound l) 0 P (ownPostG w.1.size Kp I Ix (pre ++ [x]) W) a' W)
 (iL : ∀ (D : Nat) (xs : List α) (W : World), w.1.size <= D -> S xs W -> I xs W -> W.1[D]? = some (.deferred (some [])) -> Q .normal { a with defers := { target := .collected D, args := #[] } :: a.defers } W)
 (iM : ∀ (D : Nat) (c : Code) (pre : List α) (W : World), w.1.size <= D -> Sp pre -> Ix c pre W -> W.1[D]? = some (.deferred (some [])) -> c.wpIn Fence.wide 0 P Q { a with defers := { target := .collected D, args := #[] } :: a.defers } W) :
 (Code.rangeFunc g ps assign body).wpIn Fence.wide 0 P Q a w := by
 refine wpIn_rangeFunc ?_
 intro fn iN
 rw [show (Fence.wide).round = none from rfl]
 generalize hD : w.1.size = D at *
 let rec0 : LoopState -> Option Code -> Loop := fun st pe => { state := st, pending := pe, fn, tmps := a.tmps, params := ps, assign, body, defers := D }
 have uS := run_enterLoop_outer (P := P) (w := w) fn a.tmps ps assign body
 rw [hD] at uS
 generalize qH : (w.alloc (.deferred (some []))).alloc (.loop { state := .ready, pending := none, fn, tmps := a.tmps, params := ps, assign, body, defers := D }) = W1 at uS
 have iO : Kept D (rec0 .ready none) W1 := by
  rw [<- qH]
  constructor
  ·have := World.alloc_heap_new (w.alloc (.deferred (some []))) (.loop (rec0 .ready none))
   rw [Z6, hD] at this
   exact this
  ·have := (ZB (w.alloc (.deferred (some []))) (.loop (rec0 .ready none)) w.1.size (by simp)).trans (World.alloc_heap_new w _)
   rw [hD] at this
   exact this
 have iP : I [] W1 := by rw [<- qH]; exact hI.alloc _ (hI.alloc _ h0)
 have pA : Below w.1.size w W1 := by rw [<- qH]; exact ((Z9 _ w).alloc (Z1 _) _).alloc (by simp) _
 refine ⟨D + 1, _, W1, { target := .fn (.func gf) lb, args := #[.func (.yield (D + 1)) #[] #[]] }, W1, gf, #[.func (.yield (D + 1)) #[] #[]] ++ lb, W1, uS, ?_, ?_, ?_, ?_, ?_⟩
 ·simp only [resolve, hg]
  simp [go_sem]
 ·intro f' _; trivial
 ·simp [invoke, go_sem, eg]
 ·intro h; cases h
 refine (iE (D + 1) (fun pre W => I pre W /\ Kept D (rec0 .ready none) W) (fun pre W => ∃ c, Ix c pre W /\ Kept D (rec0 .done (some c)) W) W1 pA
  (fun s A B row hs pE hr => ⟨iG s A B row hs.1 pE hr, hs.2.grown qY pE hr⟩)
  (fun s A B row hs pE hr => by obtain ⟨c, hc, hk⟩ := hs; exact ⟨c, iH c s A B row hc pE hr, hk.grown qY pE hr⟩) ?_ ⟨iP, iO⟩).mono ?_
 ·rintro pre x W ⟨hi, hk⟩
  have hy := run_yield (P := P) (args := encs x) hk.1 (uR x)
  refine ⟨fn, _, assign, body, hy, roundIn_of_wpIn iN (iJ _ pre x W _ hi ?_)⟩
  intro a' Wa iQ iR iS tB
  have sB := hk.keeps iQ
  refine ⟨_, run_beginRound sB.1 rfl, ?_⟩
  have tC : Kept D { rec0 .ready none with state := .busy } (Wa.putObj (D + 1) (.loop { rec0 .ready none with state := .busy })) := sB.put
  refine wpIn_mono (iK _ pre x a' _ (hI.putObj _ iS (by omega) sB.1 rfl) ((iI x a').putObj (s := ()) _ tB (by omega) sB.1 rfl)) ?_
  have iT : Kp W (Wa.putObj (D + 1) (.loop { rec0 .ready none with state := .busy })) := uQ iR (wS _ _ _ _ (by omega) sB.1 rfl)
  rintro e a3 W3 hp
  cases e with
  | normal =>
   have pL := tC.keeps hp.1
   exact ⟨_, _, run_endRound (P := P) none pL.1, .inl ⟨rfl, ⟨hI.putObj _ hp.2.2 (by omega) pL.1 rfl, pL.put⟩, uQ iT (uQ hp.2.1 (wS _ _ _ _ (by omega) pL.1 rfl))⟩⟩
  | ret => have pL := tC.keeps hp.1; exact ⟨_, _, run_endRound (P := P) (some .ret) pL.1, .inr ⟨rfl, .ret, (tA _).putObj _ hp.2 (by omega) pL.1 rfl, pL.put⟩⟩
  | exit id => have pL := tC.keeps hp.1; exact ⟨_, _, run_endRound (P := P) (some (.exit id)) pL.1, .inr ⟨rfl, .exit id, (tA _).putObj _ hp.2 (by omega) pL.1 rfl, pL.put⟩⟩
  | goto t => have pL := tC.keeps hp.1; exact ⟨_, _, run_endRound (P := P) (some (.goto t)) pL.1, .inr ⟨rfl, .goto t, (tA _).putObj _ hp.2 (by omega) pL.1 rfl, pL.put⟩⟩
  | panic ch => exact hp.elim
  | outgrown => exact hp.elim
 ·rintro e W2 ⟨⟨v, rfl⟩, (⟨xs, hS, hi, hk⟩ | ⟨pre, iU, c, hi, hk⟩)⟩
  ·exact ⟨none, _, run_endLoop (P := P) hk.1 (by simp [rec0]), iL _ xs _ (Z1 _) (iF.putObj _ hS (by omega) hk.1 rfl) (hI.putObj _ hi (by omega) hk.1 rfl) hk.put.2⟩
  ·exact ⟨some c, _, run_endLoop (P := P) hk.1 (by simp [rec0]), iM _ c pre _ (Z1 _) iU ((tA c).putObj _ hi (by omega) hk.1 rfl) hk.put.2⟩
end
section
open Go.RowKit Go.Sort
theorem Z8w (i : Nat) (x : Int) (b : List Int) (k : Nat) (l : List Int) : (Z4Z i x b k l).length = l.length := by
 induction k with
 | zero => rfl
 | succ k ih => rw [Z4g]; dsimp only; split <;> simp [ih]
theorem Z5E (a b : List Int) (k : Nat) : (Z2C a b k).length = a.length + b.length - 1 := by
 induction k with
 | zero => simp [Z2C]
 | succ k ih => rw [Z4f]; split <;> simp [ih, Z8w]
theorem Z3I {l : List Int} {i : Nat} (h : i < l.length) : ent l i = l[i] := by unfold ent; rw [Z2, Z3 h]; rfl
theorem ZhR (xs ys : List Int) (va vb : Value) (w : World) (hx : RdInts w va xs) (hy : RdInts w vb ys) (h1 : 1 <= xs.length) (h2 : 1 <= ys.length) (h3 : xs.length + ys.length <= 100000)
 (bx : ∀ x ∈ xs, -1 <= x /\ x <= 1000000000000) (by_ : ∀ y ∈ ys, -1 <= y /\ y <= 1000000000000) :
 Calls Tryz.prog 133 #[va, vb] w fun e w' => ∃ g, e = .returned (.slice (some ⟨g, 0, none⟩) (xs.length + ys.length - 1) (xs.length + ys.length - 1)) /\ w.1.size <= g /\ IntsAt w' g (Z31 xs ys) /\ Below w.1.size w w' := by
 obtain ⟨a, ca, rfl, tB⟩ := hx
 obtain ⟨b, cb, rfl, wT⟩ := hy
 obtain ⟨gx, ox, rfl, iV, qZ⟩ := tB (by omega)
 obtain ⟨gy, oy, rfl, iW, wU⟩ := wT (by omega)
 have HX := Z0 qZ
 have HY := Z0 wU
 have pK := Z0 bx
 have iX := Z0 by_
 clear tB wT qZ wU bx by_
 obtain ⟨n, hn⟩ : ∃ n, n = xs.length + ys.length - 1 := ⟨_, rfl⟩
 rw [<- hn]
 have sC : ((xs.length : Int) + (ys.length : Int) - 1) = (n : Int) := by omega
 have iY := Z0 sC
 clear sC
 go_enter Tryz.func133, Tryz.ntmps133
 go_wp2_with (go_at_call 100; rw [iY.out]; refine (Z5n (-1) n w.1.size 0 1 _ (by omega) (by simp [go_sem]) (by simp)).mono ?_; rintro e w1 ⟨g, rfl, hg, hI, hb⟩)
 have hB : Below w.1.size w w1 := Z0l (Z9 _ w) (Z1 _) hb
 have hg' : w.1.size <= g := by simp at hg; omega
 clear hg hb
 have rA : IntsAt w1 g (Z2C xs ys 0) := by unfold Z2C; rw [<- hn]; exact hI
 clear hI
 go_loopw [20] (fun i wr => ∃ k : Nat, k <= xs.length /\ i = .int .i64 k /\ Below w.1.size w wr /\ IntsAt wr g (Z2C xs ys k)) (fun i _ => xs.length - (intOf i).toNat)
 case atStart => exact ⟨0, ZE _, rfl, hB, rA⟩
 case round =>
  clear hB rA
  obtain ⟨k, hk, rfl, hB, hI⟩ := hrel
  by_cases pB : k < xs.length
  ·have c1 : wr.cell? ⟨gx, ox + k, none⟩ = some (.int .i64 xs[k]) := (hB.cell (p := ⟨gx, ox + k, none⟩) iV).trans (HX.out k pB)
   have bxk := pK.out _ (Z4 pB)
   have hs := Z4f xs ys k
   have tD := Z5E xs ys k
   rw [Z3I pB] at hs
   obtain ⟨x, hx⟩ : ∃ x, x = xs[k] := ⟨_, rfl⟩
   rw [<- hx] at c1 bxk hs
   clear hx
   by_cases qM : x = -1
   ·rw [if_pos qM] at hs
    have hq : (x == -1) = true := by simp [qM]
    have HS := Z0 hs
    clear hs
    go_wp2_with fail
    go_roundw
    case rel => exact ⟨k + 1, by omega, by go_num, hB, by rw [HS.out]; exact hI⟩
    case measure => simp [intOf]; omega
   ·rw [if_neg qM] at hs
    have hq : (x == -1) = false := by simp [qM]
    have HS := Z0 hs
    clear hs
    go_wp2_with fail
    obtain ⟨L, hL⟩ : ∃ L, L = Z2C xs ys k := ⟨_, rfl⟩
    rw [<- hL] at hI tD HS
    clear hL
    go_loopw [29] (fun j wq => ∃ m : Nat, m <= ys.length /\ j = .int .i64 m /\ Below w.1.size w wq /\ IntsAt wq g (Z4Z k x ys m L)) (fun j _ => ys.length - (intOf j).toNat)
    case atStart => exact ⟨0, ZE _, rfl, hB, hI⟩
    case round =>
     clear hB hI c1
     obtain ⟨m, hm, rfl, hB, hI⟩ := hrel
     by_cases uT : m < ys.length
     ·have c2 : wr.cell? ⟨gy, oy + m, none⟩ = some (.int .i64 ys[m]) := (hB.cell (p := ⟨gy, oy + m, none⟩) iW).trans (HY.out m uT)
      have byk := iX.out _ (Z4 uT)
      have hs := Z4g k x ys m L
      have iZ := Z8w k x ys m L
      dsimp only at hs
      rw [Z3I uT] at hs
      obtain ⟨y, hy⟩ : ∃ y, y = ys[m] := ⟨_, rfl⟩
      rw [<- hy] at c2 byk hs
      clear hy
      by_cases tE : y = -1
      ·rw [if_pos tE] at hs
       have wV : (y != -1) = false := by simp [tE]
       have tF := Z0 hs
       clear hs
       go_wp2_with fail
       go_roundw
       case rel => exact ⟨m + 1, by omega, by go_num, hB, by rw [tF.out]; exact hI⟩
       case measure => simp [intOf]; omega
      ·rw [if_neg tE] at hs
       have wV : (y != -1) = true := by simp [tE]
       have tF := Z0 hs
       clear hs
       obtain ⟨M, hM⟩ : ∃ M, M = Z4Z k x ys m L := ⟨_, rfl⟩
       rw [<- hM] at hI iZ tF
       clear hM
       have c3 := hI.cell (i := k + m) (by omega)
       have c4 := hI.free (k + m)
       obtain ⟨z, hz⟩ : ∃ z, z = M.getD (k + m) (-1) := ⟨_, rfl⟩
       rw [<- hz] at c3
       have HZ := Z0 hz
       clear hz
       go_wp2_with fail
       go_roundw
       case rel => exact ⟨m + 1, by omega, by go_num, hB.setCell (p := ⟨g, k + m, none⟩) hg' _, by rw [tF.out, show ent M (k + m) = z from HZ.out.symm]; exact hI.set _ _⟩
       case measure => simp [intOf]; omega
     ·obtain rfl : m = ys.length := by omega
      go_wp2_with fail
      go_roundw
      case rel => exact ⟨k + 1, by omega, by go_num, hB, by rw [HS.out]; exact hI⟩
      case measure => simp [intOf]; omega
  ·obtain rfl : k = xs.length := by omega
   go_wp2_with fail
   go_ret
   exact ⟨g, by rw [hn]; rfl, hg', hI, hB⟩
end
section
open Go.RowKit Go.Sort Go.Shelf Go.IntWalk
attribute [local go_sem] Oper.semAt_some
def SavAt (w : World) (X Y : Nat) (passes mn cents : Int) : Prop :=
 w.cell? ⟨X, 0, none⟩ = some (.int .i64 passes) /\ w.cell? ⟨Y, 3, none⟩ = some (.int .i64 mn) /\ w.cell? ⟨Y, 4, none⟩ = some (.int .i64 cents)
theorem SavAt.below {w w' : World} {X Y B : Nat} {p m c : Int} (h : SavAt w X Y p m c) (hb : Below B w w') (hX : X < B) (hY : Y < B) : SavAt w' X Y p m c :=
 ⟨(hb.cell (p := ⟨X, 0, none⟩) hX).trans h.1, (hb.cell (p := ⟨Y, 3, none⟩) hY).trans h.2.1, (hb.cell (p := ⟨Y, 4, none⟩) hY).trans h.2.2⟩
theorem Z5l (come passes mn cents : Int) (X Y : Nat) (w : World) (h : SavAt w X Y passes mn cents) (hp : 0 <= passes /\ passes <= 1000000) (hc : 0 <= come /\ come <= 1000000) (pC : 0 <= cents /\ cents <= 1000000) :
 Calls Tryz.prog 131 #[.int .i64 come, .pointer (some ⟨X, 0, none⟩), .pointer (some ⟨Y, 0, none⟩)] w fun e w' => e = .returned (.int .i64 (Z0j mn cents passes come)) /\ w = w' := by
 obtain ⟨c1, c2, c3⟩ := h
 unfold Z0j
 obtain ⟨t, ht⟩ : ∃ t, t = come - passes := ⟨_, rfl⟩
 rw [<- ht]
 have jA : 0 <= t -> 0 <= t * cents /\ t * cents <= 1000000000000 := fun h0 => by
  refine ⟨Kdk h0 pC.1, ?_⟩
  have h1 : t * cents <= 1000000 * 1000000 := Int.mul_le_mul (by omega) pC.2 pC.1 (by omega)
  omega
 have HT := Z0 ht
 by_cases h1 : t < 0
 ·rw [if_pos (.inl h1)]
  go_enter Tryz.func131, Tryz.ntmps131
  go_wp2_with fail
  rw [<- HT.out]
  go_wp2_with fail
  go_ret
  exact ⟨rfl, rfl⟩
 ·by_cases h2 : 0 < t /\ t < mn
  ·rw [if_pos (.inr h2)]
   obtain ⟨h2, h3⟩ := h2
   go_enter Tryz.func131, Tryz.ntmps131
   go_wp2_with fail
   rw [<- HT.out]
   go_wp2_with fail
   go_ret
   exact ⟨rfl, rfl⟩
  ·rw [if_neg (by omega)]
   obtain ⟨wW, jB⟩ := jA (by omega)
   by_cases h4 : 0 < t
   ·have h5 : ¬ t < mn := by omega
    go_enter Tryz.func131, Tryz.ntmps131
    go_wp2_with fail
    rw [<- HT.out]
    go_wp2_with fail
    go_ret
    exact ⟨Z6N (k := .i64) (wrap64_in _ (by omega)), rfl⟩
   ·go_enter Tryz.func131, Tryz.ntmps131
    go_wp2_with fail
    rw [<- HT.out]
    go_wp2_with fail
    go_ret
    exact ⟨Z6N (k := .i64) (wrap64_in _ (by omega)), rfl⟩
def KC (Lb : Nat) (A B : World) : Prop := A.1.size <= B.1.size /\ ∀ k c t fr, (k ≠ Lb \/ t ≠ 35) -> A.1[k]? = some (.cells c t fr) -> B.1[k]? = some (.cells c t fr)
theorem KC.trans {Lb : Nat} {A B C : World} (h : KC Lb A B) (h' : KC Lb B C) : KC Lb A C :=
 ⟨Kaw h.1 h'.1, fun k c t fr hk ha => h'.2 k c t fr hk (h.2 k c t fr hk ha)⟩
theorem KC.below {Lb : Nat} {A B : World} (h : Below A.1.size A B) : KC Lb A B :=
 ⟨h.size, fun k c t fr _ ha => (h.block k (Z5.1 ha).1).trans ha⟩
theorem KC.put {Lb : Nat} {W : World} {l : Nat} {o o' : Obj} (hl : W.1[l]? = some o) (ho : o.isCells = false) : KC Lb W (W.putObj l o') := by
 have hg := grownBy_putObj' W l o'
 refine ⟨hg.size, fun k c t fr _ ha => (hg.block k (Z5.1 ha).1 (fun e => ?_)).trans ha⟩
 cases e
 rw [hl] at ha; cases ha; cases ho
theorem RowJ.kc {Lb base : Nat} {A B : World} {v : Value} {zs : List Int} (h : RowJ A base v zs) (hk : KC Lb A B) : RowJ B base v zs := by
 obtain ⟨a, cap, hv, hc⟩ := h
 refine ⟨a, cap, hv, fun h0 => ?_⟩
 obtain ⟨g, off, cur, ha, hb, hh, pC⟩ := hc h0
 exact ⟨g, off, cur, ha, hb, hk.2 g cur _ _ (.inr (by decide)) hh, pC⟩
def RdRowsX (Lb : Nat) (w : World) (base : Nat) (v : Value) (ts : List (List Int)) : Prop := RdRows w base v ts /\ ∀ g off n c, 0 < ts.length -> v = .slice (some ⟨g, off, none⟩) n c -> g ≠ Lb
theorem RdRowsX.kc {Lb base : Nat} {A B : World} {v : Value} {ts : List (List Int)} (h : RdRowsX Lb A base v ts) (hk : KC Lb A B) : RdRowsX Lb B base v ts := by
 obtain ⟨⟨a, cap, hv, hc⟩, pQ⟩ := h
 refine ⟨⟨a, cap, hv, fun h0 => ?_⟩, pQ⟩
 obtain ⟨g, off, ha, ⟨cur, hg⟩, pC⟩ := hc h0
 have hg' := hk.2 g cur _ _ (.inl (pQ g off _ _ h0 (by rw [hv, ha]))) hg
 refine ⟨g, off, ha, ⟨cur, hg'⟩, fun i hi => ?_⟩
 obtain ⟨u, h1, h2⟩ := pC i hi
 refine ⟨u, ?_, h2.kc hk⟩
 rw [Kaa B g (off + i) _ _ _ hg', <- Kaa A g (off + i) _ _ _ hg]
 exact h1
theorem RdRowsX.below {Lb base : Nat} {A B : World} {v : Value} {ts : List (List Int)} (h : RdRowsX Lb A base v ts) (hb : Below A.1.size A B) : RdRowsX Lb B base v ts := ⟨h.1.below hb, h.2⟩
theorem Boxed.kc {Lb C : Nat} {A B : World} {t : TypeId} {v : Value} (h : Boxed A C t v) (hk : KC Lb A B) (hC : C ≠ Lb) : Boxed B C t v := hk.2 C _ _ _ (.inl hC) h
structure Yld (n : Nat) where
 i : Nat
 hi : i < n
 a : Option Addr
 len : Nat
 cap : Nat
def Yld.sl {n : Nat} (x : Yld n) : Value := .slice x.a x.len x.cap
def MergS (base : Nat) (ts : List (List Int)) (xs : List (Yld ts.length)) (W : World) : Prop :=
 xs.length = ts.length /\ ∀ k (h : k < xs.length), xs[k].i = ts.length - 1 - k /\ RowJ W base xs[k].sl (Z06 ts (k + 1))
theorem MergS.own (base B : Nat) (ts : List (List Int)) : OwnFrom B (MergS base ts) := fun s W W' row hs hg hr =>
 ⟨hs.1, fun k h => ⟨(hs.2 k h).1, (hs.2 k h).2.kept hg (fun g e => .inr (fun cur fr hh => by
  obtain ⟨_, o, ho, hc⟩ := hr g e
  rw [hh] at ho; cases ho; cases hc))⟩⟩
structure MOk (ts : List (List Int)) : Prop where
 n : ts.length <= 5000
 one : ∀ t ∈ ts, 1 <= t.length /\ t.length <= 5000 /\ ∀ x ∈ t, -1 <= x /\ x <= 1000000000000
 all : ∀ k, k <= ts.length -> 1 <= (Z06 ts k).length /\ (Z06 ts k).length <= 5000 /\ ∀ x ∈ Z06 ts k, -1 <= x /\ x <= 1000000000000
theorem Z5Z (B base Lb : Nat) (v : Value) (ts : List (List Int)) (w : World) (hM : MOk ts) (hb : Boxed w B 109 v) (hR : RdRowsX Lb w base v ts) (hL : B ≠ Lb) (uU : base <= w.1.size) :
 Zkw Tryz.prog 132 #[.pointer (some ⟨B, 0, none⟩)] (fun x : Yld ts.length => #[.int .i64 x.i, x.sl]) (KC Lb) (MergS base ts) (fun _ => True) B w := by
 intro l J Jx W hW hJ jC hY h0
 replace hb : Boxed W B 109 v := (hW.block _ hb.lt).trans hb
 replace hR := hR.below hW
 replace uU : base <= W.1.size := Kaw uU hW.size
 clear hW
 have HY := Z0 hY
 have HJ := Z0 hJ
 have HM := Z0 hM
 have hn := hM.n
 obtain ⟨a, cap, rfl⟩ : ∃ a cap, v = .slice a ts.length cap := by obtain ⟨⟨a, cap, hv, _⟩, _⟩ := hR; exact ⟨a, cap, hv⟩
 refine callsIn_of_wp Tryz.func132 rfl trivial ?_ rfl
 simp only [Tryz.ntmps132, List.size_toArray, Ka9, List.length_nil, Nat.reduceAdd, Nat.reduceSub, Array.replicate_succ, Array.replicate_zero, List.push_toArray, List.append_toArray, Kca, Kc9]
 have wX := hJ _ _ _ none h0 (World.grownBy_alloc W (.cells #[.int .i64 0] 3) none) (fun _ e => by cases e)
 have rA : IntsAt (W.alloc (.cells #[.int .i64 0] 3)) W.1.size (Z06 ts 0) := Z02 _ _
 have wY : RowJ (W.alloc (.cells #[.int .i64 0] 3)) base (.slice (some ⟨W.1.size, 0, none⟩) 1 1) (Z06 ts 0) := RowJ.of_ints rA uU 1
 have pG := hb.alloc (.cells #[.int .i64 0] 3)
 have tG := hR.below ((Z9 _ W).alloc (Z1 _) (.cells #[.int .i64 0] 3))
 have sD : base <= (W.alloc (.cells #[.int .i64 0] 3)).1.size := by simp; omega
 have c1 := pG.cell
 clear hY hJ jC hM h0 hb rA hR
 gi_wp2_with fail
 clear c1
 gi_loopw [3, 4] (fun tb i wr => ∃ r : Nat, r <= ts.length /\ i = .int .i64 ((r : Int) - 1) /\ base <= wr.1.size /\ Boxed wr B 109 (.slice a ts.length cap) /\ RdRowsX Lb wr base (.slice a ts.length cap) ts /\ RowJ wr base tb (Z06 ts (ts.length - r)) /\
  ∃ pre : List (Yld ts.length), J pre wr /\ pre.length = ts.length - r /\ ∀ k (h : k < pre.length), pre[k].i = ts.length - 1 - k /\ RowJ wr base pre[k].sl (Z06 ts (k + 1))) (fun _ i _ => (intOf i + 1).toNat)
 case atStart => exact ⟨ts.length, Z1 _, rfl, sD, pG, tG, by rw [Kb3]; exact wY, [], wX, by simp, fun k h => absurd h (by simp)⟩
 case round =>
  clear sD pG tG wY wX
  obtain ⟨r, hr, rfl, hz, hb, hR, hT, pre, hj, tH, uV⟩ := hrel
  rcases r with _ | m
  ·gi_wp2_with fail
   go_end0
   refine ⟨⟨_, rfl⟩, .inl ⟨pre, ⟨by rw [tH, Nat.sub_zero], uV⟩, hj⟩⟩
  ·have e1 : (((m + 1 : Nat) : Int) - 1) = (m : Int) := by omega
   rw [e1]
   have c1 := hb.cell
   have hm : m < ts.length := by omega
   have hR' := hR
   obtain ⟨⟨a', cap', hv, hc⟩, _⟩ := hR'
   injection hv with q1 q2 q3
   subst q1; subst q3
   obtain ⟨g, off, rfl, ⟨cur, hg⟩, pC⟩ := hc (by omega)
   obtain ⟨u, cu, hu⟩ := pC m hm
   clear pC hc
   have wZ : Z06 ts (ts.length - m) = Z31 ts[m] (Z06 ts (ts.length - (m + 1))) := by
    rw [show ts.length - m = (ts.length - (m + 1)) + 1 by omega]
    show Z31 (ts.getD (ts.length - 1 - (ts.length - (m + 1))) []) _ = _
    rw [show ts.length - 1 - (ts.length - (m + 1)) = m by omega, Z2, Z3 hm]
    rfl
   have jD : Hid (Calls Tryz.prog 133 #[u, u3] wr fun e w' => ∃ (g L : Nat) (hi : m < ts.length), e = .returned (.slice (some ⟨g, 0, none⟩) L L) /\ RowJ w' base (.slice (some ⟨g, 0, none⟩) L L) (Z06 ts (ts.length - m)) /\ Below wr.1.size wr w') := by
    obtain ⟨l1, l2, l3⟩ := HM.out.one _ (Z4 hm)
    obtain ⟨k1, k2, k3⟩ := HM.out.all (ts.length - (m + 1)) (by omega)
    refine (ZhR ts[m] (Z06 ts (ts.length - (m + 1))) u u3 wr hu.rd hT.rd l1 k1 (by omega) l3 k3).mono ?_
    rintro e w' ⟨g, rfl, hg, hI, hb⟩
    refine ⟨g, _, hm, rfl, ?_, hb⟩
    rw [wZ]
    have jE : (Z31 ts[m] (Z06 ts (ts.length - (m + 1)))).length = ts[m].length + (Z06 ts (ts.length - (m + 1))).length - 1 := Z5E _ _ _
    rw [<- jE]
    exact RowJ.of_ints hI (by omega) _
   clear hu wZ e1
   have HT := Z0 hT
   have xA := Z0 uV
   have xB := Z0 tH
   have sE := Z0 hg
   clear hT uV tH hg
   gi_wp2_with (refine ⟨trivial, rfl, ?_⟩; gi_at_call 133; refine (callsIn_wide.2 jD.out).mono ?_; rintro e w1 ⟨g1, L, hi, rfl, xC, pA⟩; have jF := HJ.out _ _ _ none hj (Z0a pA) (fun _ e => by cases e); obtain ⟨fn, tmps, assign, body, hy, xD⟩ := HY.out _ ⟨m, hi, some ⟨g1, 0, none⟩, L, L⟩ _ jF; dsimp only [Yld.sl] at hy; have jG := Z0 xD; clear xD)
   refine ⟨rfl, jG.out.mono ?_⟩
   rintro e W3 (⟨rfl, jH, pL⟩ | ⟨rfl, jI⟩)
   ·have tI := (KC.below (Lb := Lb) pA).trans pL
    gi_wp2_with fail
    go_roundw
    case rel =>
     refine ⟨m, by omega, by go_num, Kaw hz tI.1, Boxed.kc hb tI hL, hR.kc tI, xC.kc pL, _, jH, by rw [ZC, xB.out]; simp; omega, fun k h => ?_⟩
     have tH := xB.out
     by_cases hk : k < pre.length
     ·rw [Kbl hk]
      exact ⟨(xA.out k hk).1, (xA.out k hk).2.kc tI⟩
     ·have jJ : k = pre.length := by rw [ZC] at h; simp at h; omega
      subst jJ
      rw [Kb7 (Z1 _)]
      simp only [Kb3, List.getElem_cons_zero]
      refine ⟨by omega, ?_⟩
      rw [show pre.length + 1 = ts.length - m by omega]
      exact xC.kc pL
    case measure => simp [intOf]
   ·gi_wp2_with fail
    refine bodyPost_ret (results_none rfl _ _ _) rfl ?_
    exact ⟨⟨_, rfl⟩, .inr ⟨_, trivial, jI⟩⟩
theorem Z8p (a : Option Addr) (n c : Nat) (w : World) : Calls Tryz.prog 102 #[.slice a n c] w fun e w' => e = .returned (.func (.func 132) #[] #[.pointer (some ⟨w.1.size, 0, none⟩)]) /\ w.alloc (.cells #[.slice a n c] 109) = w' := by
 go_enter Tryz.func102, Tryz.ntmps102
 go_wp2
 go_ret
 exact ⟨rfl, rfl⟩
theorem Z9T (l : Lev) (sv : Value) (passes : Int) (w : World) : Calls Tryz.prog 101 #[lvA l sv, .int .i64 passes] w fun e w' => e = .returned (.func (.func 131) #[] #[.pointer (some ⟨w.1.size + 1, 0, none⟩), .pointer (some ⟨w.1.size, 0, none⟩)]) /\
 (w.alloc (Z6c l sv)).alloc (.cells #[.int .i64 passes] 3) = w' := by
 unfold lvA Z6c
 go_enter Tryz.func101, Tryz.ntmps101
 go_wp2
 go_ret
 exact ⟨rfl, rfl⟩
end
section
open Go.RowKit Go.Sort Go.Shelf Go.IntWalk
theorem Tryz.infoSl : (Tryz.prog.info? 35).map (fun i => (i.zero, i.size, i.bytes)) = some (some (.slice none 0 0), 1, 24) := by kernel_rfl
def pOf (x : Grp) : PGrp := ⟨x.lvl, x.up, x.items⟩
def Z0n (Gs : List Grp) : List PGrp := Gs.map pOf
theorem Z1W (Gs : List Grp) : (Z0n Gs).length = Gs.length := by unfold Z0n; simp
theorem Z2F {Gs : List Grp} {g : Nat} (h : g < Gs.length) : Z0c (Z0n Gs) g = pOf Gs[g] := by
 unfold Z0c Z0n
 rw [Z2, Kal, Z3 h]
 rfl
def TreeAt (w : World) (T : Nat) (v vg : Value) (n BB TB PB : Nat) : Prop :=
 w.1[T]? = some (.cells #[v, vg, .slice (some ⟨BB, 0, none⟩) n n, .slice (some ⟨TB, 0, none⟩) n n, .slice (some ⟨PB, 0, none⟩) n n] 153 (0, 0))
structure TreeW (w : World) (T BB TB PB base : Nat) (v vg : Value) (Gs : List Grp) (tabs : Nat -> List Int) (m : Nat) (ps : List Int) : Prop where
 tr : TreeAt w T v vg Gs.length BB TB PB
 bl : ∃ f : Nat -> Value, w.rowIs BB 35 Gs.length f /\ ∀ g, g < Gs.length -> RowJ w base (f g) ((Z05 (Z0n Gs) g).map Int.ofNat)
 tb : ∃ f : Nat -> Value, w.rowIs TB 35 Gs.length f /\ ∀ g, g < m -> RowJ w base (f g) (tabs g)
 pv : IntsAt w PB ps
 pl : ps.length = Gs.length
 lt : T < base /\ BB < base /\ TB < base /\ PB < base /\ base <= w.1.size
 ne : T ≠ BB /\ T ≠ TB /\ T ≠ PB /\ BB ≠ TB /\ BB ≠ PB /\ TB ≠ PB
 gr : RdGrps w vg Gs
theorem Z12 {w w' : World} {b : Nat} {t : TypeId} {n : Nat} {f : Nat -> Value} {B : Nat} (h : w.rowIs b t n f) (hb : Below B w w') (hB : b < B) : w'.rowIs b t n f := h.of_block (hb.block b hB)
theorem TreeW.below {w w' : World} {T BB TB PB base : Nat} {v vg : Value} {Gs : List Grp} {tabs : Nat -> List Int} {m : Nat} {ps : List Int} (h : TreeW w T BB TB PB base v vg Gs tabs m ps) (hb : Below w.1.size w w') : TreeW w' T BB TB PB base v vg Gs tabs m ps := by
 obtain ⟨l1, l2, l3, l4, l5⟩ := h.lt
 obtain ⟨f, f1, f2⟩ := h.bl
 obtain ⟨k, k1, k2⟩ := h.tb
 exact ⟨(hb.block T (by omega)).trans h.tr, ⟨f, Z12 f1 hb (by omega), fun g hg => (f2 g hg).below hb⟩, ⟨k, Z12 k1 hb (by omega), fun g hg => (k2 g hg).below hb⟩,
  (hb.block PB (by omega)).trans h.pv, h.pl, ⟨l1, l2, l3, l4, Kaw l5 hb.size⟩, h.ne, h.gr.below hb⟩
theorem TreeAt.c {w : World} {T : Nat} {v vg : Value} {n BB TB PB : Nat} (h : TreeAt w T v vg n BB TB PB) : w.cell? ⟨T, 0, none⟩ = some v /\ w.cell? ⟨T, 1, none⟩ = some vg /\ w.cell? ⟨T, 2, none⟩ = some (.slice (some ⟨BB, 0, none⟩) n n) /\
 w.cell? ⟨T, 3, none⟩ = some (.slice (some ⟨TB, 0, none⟩) n n) /\ w.cell? ⟨T, 4, none⟩ = some (.slice (some ⟨PB, 0, none⟩) n n) :=
 ⟨Kaa w T 0 _ _ _ h, Kaa w T 1 _ _ _ h, Kaa w T 2 _ _ _ h, Kaa w T 3 _ _ _ h, Kaa w T 4 _ _ _ h⟩
theorem Z42 (w : World) (u : Value) (T : TypeId) : ∀ j x, ([u])[j]? = some x -> (w.alloc (.cells #[u] T)).cell? ((⟨w.1.size, 0, none⟩ : Addr).add j) = some x := Z0f w [u] T
theorem Za8 (T BB TB PB base : Nat) (v vg : Value) (Gs : List Grp) (tabs : Nat -> List Int) (m : Nat) (ps : List Int) (g : Nat) (w : World) (h : TreeW w T BB TB PB base v vg Gs tabs m ps) (hg : g < Gs.length) (hn : Gs.length <= 100000)
 (qN : ∀ x ∈ Z05 (Z0n Gs) g, x < m) (hm : m <= Gs.length) :
 Calls Tryz.prog 103 #[.pointer (some ⟨T, 0, none⟩), .int .i64 g] w fun e w' => ∃ a cap, e = .returned (.slice a (Z05 (Z0n Gs) g).length cap) /\ Below w.1.size w w' /\
  RdRows w' base (.slice a (Z05 (Z0n Gs) g).length cap) ((Z05 (Z0n Gs) g).map tabs) /\ ∀ b off, a = some ⟨b, off, none⟩ -> w.1.size <= b := by
 obtain ⟨l1, l2, l3, l4, l5⟩ := h.lt
 obtain ⟨fB, f1, f2⟩ := h.bl
 obtain ⟨fT, k1, k2⟩ := h.tb
 obtain ⟨c0, c1, c2, c3, c4⟩ := h.tr.c
 have qC := f2 g hg
 have cb := f1.cell hg
 have jK : (Z05 (Z0n Gs) g).length <= 100000 := by
  unfold Z05
  refine Kaw (Kbw _ _) ?_
  rw [Kay, Z1W]; exact hn
 obtain ⟨subs, hS⟩ : ∃ s, s = Z05 (Z0n Gs) g := ⟨_, rfl⟩
 rw [<- hS] at qC qN jK ⊢
 clear hS
 obtain ⟨aB, capB, tJ⟩ := qC.len
 rw [tJ] at cb
 rw [Z7] at cb tJ
 have xE := qC.rd
 rw [tJ] at xE
 obtain ⟨a', cap', hv', pC⟩ := xE
 have q1 : aB = a' := by injection hv'
 subst q1
 clear hv' tJ qC f2
 obtain ⟨j0, hj⟩ := info_parts Tryz.infoSl
 have HJ := Z0 hj
 have jL := Z0 pC
 have xF := Z0 k2
 have xG := Z0 qN
 clear hj pC k2 qN c0 c1 c4 h f1
 go_enter Tryz.func103, Tryz.ntmps103
 go_wp2_with fail
 go_loopw [5, 16] (fun lv i wr => ∃ k : Nat, k <= subs.length /\ i = .int .i64 k /\ Below w.1.size w wr /\ wr.ownsRow w.1.size 35 1 lv k ((subs.take k).map fT)) (fun _ i _ => subs.length - (intOf i).toNat)
 case atStart => exact ⟨0, ZE _, rfl, Z9 _ _, Kbb _ _ _ _⟩
 case round =>
  clear c2 cb
  obtain ⟨k, hk, rfl, hB, hO⟩ := hrel
  by_cases pB : k < subs.length
  ·obtain ⟨gb, ob, rfl, sF, xH⟩ := jL.out (by rw [Z7]; omega)
   have cs : wr.cell? ⟨gb, ob + k, none⟩ = some (.int .i64 (subs[k] : Int)) := (hB.cell (p := ⟨gb, ob + k, none⟩) sF).trans (by rw [xH k (by rw [Z7]; exact pB), Kba]; rfl)
   have xI := xG.out _ (Z4 pB)
   have xJ : (subs.take (k + 1)).map fT = (subs.take k).map fT ++ [fT subs[k]] := by rw [Z8 pB, ZD]; rfl
   have uW := Z0 xJ
   have c3' : wr.cell? ⟨T, 3, none⟩ = some (.slice (some ⟨TB, 0, none⟩) Gs.length Gs.length) := (hB.cell (p := ⟨T, 3, none⟩) (by show T < _; omega)).trans c3
   have ct : wr.cell? ⟨TB, subs[k], none⟩ = some (fT subs[k]) := (hB.cell (p := ⟨TB, subs[k], none⟩) (by show TB < _; omega)).trans (k1.cell (by omega))
   obtain ⟨at_, capt, uX⟩ := (xF.out _ xI).len
   rw [uX] at ct
   have rB := Z0 uX
   clear xH xJ uX
   obtain ⟨s, hs⟩ : ∃ s, s = subs[k] := ⟨_, rfl⟩
   rw [<- hs] at cs ct xI rB uW
   clear hs
   have sG : s < Gs.length := by omega
   obtain ⟨tl, qI⟩ : ∃ t, t = (tabs s).length := ⟨_, rfl⟩
   rw [<- qI] at ct rB
   clear qI
   have hO' := hO
   rcases Joins.ownsRow_forms hO' with ⟨rfl, hp⟩ | ⟨g2, cap2, rfl⟩
   ·have HP := Z0 hp
    clear hp
    go_wp2_with (at_builtin; refine wpList_append_own _ rfl _ _ 109 rfl w.1.size 35 j0 (.slice none 0 0) 1 24 Tryz.underlying109 HJ.out.1 HJ.out.2.1 HJ.out.2.2.1 HJ.out.2.2.2 rfl (by decide) _ _ _ rfl (hO.alloc _) ⟨wr.1.size, 0, none⟩ 1 1 [.slice at_ tl capt] rfl rfl (Z42 _ _ _) (by simp [Value.oneCell']) (by unfold maxLen; omega) (by omega) (by have := hB.size; simp; omega) ?_; intro v' w5 uY rO _)
    go_roundw
    case rel =>
     refine ⟨k + 1, by omega, by go_num, ?_, ?_⟩
     ·exact (hB.alloc hB.size _).grown rO (by have := hB.size; simp; omega) (fun r e => by have := (hO.lt r e).1; omega)
     ·rw [uW.out, rB.out]
      exact uY
    case measure => simp [intOf]; omega
   ·go_wp2_with (at_builtin; refine wpList_append_own _ rfl _ _ 109 rfl w.1.size 35 j0 (.slice none 0 0) 1 24 Tryz.underlying109 HJ.out.1 HJ.out.2.1 HJ.out.2.2.1 HJ.out.2.2.2 rfl (by decide) _ _ _ rfl (hO.alloc _) ⟨wr.1.size, 0, none⟩ 1 1 [.slice at_ tl capt] rfl rfl (Z42 _ _ _) (by simp [Value.oneCell']) (by unfold maxLen; omega) (by omega) (by have := hB.size; simp; omega) ?_; intro v' w5 uY rO _)
    go_roundw
    case rel =>
     refine ⟨k + 1, by omega, by go_num, ?_, ?_⟩
     ·exact (hB.alloc hB.size _).grown rO (by have := hB.size; simp; omega) (fun r e => by have := (hO.lt r e).1; omega)
     ·rw [uW.out, rB.out]
      exact uY
    case measure => simp [intOf]; omega
  ·obtain rfl : k = subs.length := by omega
   rw [Kat] at hO
   have HO := Z0 hO
   rcases Joins.ownsRow_forms hO with ⟨rfl, hp⟩ | ⟨g2, cap2, rfl⟩
   ·go_wp2_with fail
    go_ret
    refine ⟨none, 0, by rw [hp]; rfl, hB, ⟨none, 0, by rw [Z7], fun h0 => by rw [Z7] at h0; omega⟩, fun b off e => by cases e⟩
   ·go_wp2_with fail
    go_ret
    refine ⟨_, cap2, rfl, hB, ⟨_, cap2, by rw [Z7], fun h0 => ?_⟩, fun b off e => by cases e; exact (HO.out.lt g2 rfl).1⟩
    refine ⟨g2, 0, rfl, ?_, fun i hi => ?_⟩
    ·obtain ⟨_, hv | ⟨g3, cap3, cur, e3, pH, jM, _⟩⟩ := HO.out
     ·exact absurd hv.1 (by simp)
     ·injection e3 with e3 _ _
      injection e3 with e3
      injection e3 with e3 _
      subst e3
      exact ⟨cur, jM⟩
    ·rw [Z7] at hi
     refine ⟨fT subs[i], ?_, ?_⟩
     ·rw [Ka0, HO.out.cellAt i (by omega), Kal, Z3 hi]; rfl
     ·rw [Kba]
      exact (xF.out _ (xG.out _ (Z4 hi))).below hB
end
section
open Go.RowKit Go.Sort Go.Shelf Go.IntWalk
attribute [local go_sem] Oper.semAt_some
theorem KC.refl (Lb : Nat) (A : World) : KC Lb A A := ⟨Z1 _, fun _ _ _ _ _ h => h⟩
theorem KC.set {Lb : Nat} {A : World} {v : Value} (u : Value) (h : Boxed A Lb 35 v) : KC Lb A (A.setCell ⟨Lb, 0, none⟩ u) := by
 have hg := grownBy_setCell' A Lb u
 refine ⟨hg.size, fun k c t fr hk ha => ?_⟩
 by_cases e : k = Lb
 ·subst e
  rw [show A.1[k]? = _ from h] at ha
  injection ha with ha
  injection ha with _ ha _
  subst ha
  simp at hk
 ·exact (hg.block k (Z5.1 ha).1 (fun e' => e (by injection e'))).trans ha
def ZbE {n : Nat} (xs : List (Yld n)) : Value := match xs.getLast? with | none => .slice none 0 0 | some x => x.sl
theorem ZdV {n : Nat} (xs : List (Yld n)) (x : Yld n) : ZbE (xs ++ [x]) = x.sl := by unfold ZbE; simp
def ComeI (w : World) {n : Nat} (xs : List (Yld n)) (W : World) : Prop := Boxed W w.1.size 35 (ZbE xs) /\ Below w.1.size w W
theorem ComeI.keep {w A B : World} {n : Nat} {xs : List (Yld n)} {row : Option Nat} (h : ComeI w xs A) (hg : A.grownBy B row) (hr : ∀ r, row = some r -> w.1.size < r) : ComeI w xs B :=
 ⟨h.1.kept hg (fun e => by have := hr _ e.symm; omega), h.2.trans ((Z9 _ A).grown hg h.2.size (fun r e => by have := hr r e; omega))⟩
theorem Zh4 (n : Nat) : (List.replicate (n + 1) (-1 : Int)).set n 0 = List.replicate n (-1) ++ [0] := by
 rw [List.replicate_succ', Kc2 _ _ (by simp)]
 simp
theorem Zgg (T BB TB PB base : Nat) (v vg : Value) (Gs : List Grp) (tabs : Nat -> List Int) (m : Nat) (ps : List Int) (g : Nat) (w : World) (h : TreeW w T BB TB PB base v vg Gs tabs m ps) (hg : g < Gs.length) (hn : Gs.length <= 100000)
 (hl : Gs[g].lvl = 0) (hi : Gs[g].items.length <= 4000) (ts : List (List Int)) :
 Calls Tryz.prog 99 #[.pointer (some ⟨T, 0, none⟩), .int .i64 g] w fun e w' => ∃ a cap, e = .returned (.slice a (Z23 Gs[g].lvl Gs[g].items.length ts).length cap) /\ Below w.1.size w w' /\
  RowJ w' base (.slice a (Z23 Gs[g].lvl Gs[g].items.length ts).length cap) (Z23 Gs[g].lvl Gs[g].items.length ts) := by
 obtain ⟨l1, l2, l3, l4, l5⟩ := h.lt
 obtain ⟨c0, c1, c2, c3, c4⟩ := h.tr.c
 obtain ⟨ag, cg, rfl, pE⟩ := h.gr
 obtain ⟨gg, og, rfl, uZ, qO⟩ := pE (by omega)
 obtain ⟨sv, hsv, g0, g1, g2, g3⟩ := qO g hg
 have rC : Z23 Gs[g].lvl Gs[g].items.length ts = List.replicate Gs[g].items.length (-1) ++ [0] := by unfold Z23; rw [if_pos hl]
 rw [rC]
 rw [hl] at g0
 obtain ⟨x, hx⟩ : ∃ x, x = Gs[g] := ⟨_, rfl⟩
 rw [<- hx] at hsv hi ⊢
 obtain ⟨ai, ci, rfl, _⟩ := hsv
 obtain ⟨n, sC⟩ : ∃ n, n = x.items.length := ⟨_, rfl⟩
 rw [<- sC] at g3 hi ⊢
 have tD : (List.replicate n (-1 : Int) ++ [0]).length = n + 1 := by simp
 rw [tD]
 clear pE qO c0 c2 c3 c4 h g1 g2 hx rC sC hl
 have pG : Below w.1.size w (w.alloc (.cells #[.int .i64 (-1)] 3)) := (Z9 _ w).alloc (Z1 _) _
 have c1' := (pG.cell (p := ⟨T, 1, none⟩) (by show T < _; omega)).trans c1
 have g3' := (pG.cell (p := ⟨gg, og + g * 4 + 3, none⟩) uZ).trans g3
 go_enter Tryz.func99, Tryz.ntmps99
 go_wp2_with (go_at_call 100; refine (Z5n (-1) (n + 1) w.1.size 0 1 _ (by omega) (by simp [go_sem]) (by simp)).mono ?_; rintro e w1 ⟨b, rfl, hb, hI, pA⟩; have d1 := hI.cell (i := n) (by simp); have d2 := hI.free n)
 go_ret
 refine ⟨_, n + 1, rfl, ?_, ?_⟩
 ·exact (Z0l (Z9 _ w) (Z1 _) pA).setCell (p := ⟨b, n, none⟩) (by show w.1.size <= b; simp at hb; omega) _
 ·have := hI.set n 0
  rw [Zh4] at this
  have h2 := RowJ.of_ints this (base := base) (by simp at hb; omega) (n + 1)
  rw [tD] at h2
  exact h2
theorem Zgi (T BB TB PB base : Nat) (v vg : Value) (Gs : List Grp) (tabs : Nat -> List Int) (m : Nat) (ps : List Int) (g : Nat) (w : World) (h : TreeW w T BB TB PB base v vg Gs tabs m ps) (hg : g < Gs.length) (hn : Gs.length <= 100000)
 (hl : Gs[g].lvl ≠ 0) (qN : ∀ x ∈ Z05 (Z0n Gs) g, x < m) (hm : m <= Gs.length) (hM : MOk ((Z05 (Z0n Gs) g).map tabs)) :
 Calls Tryz.prog 99 #[.pointer (some ⟨T, 0, none⟩), .int .i64 g] w fun e w' => ∃ a cap, e = .returned (.slice a (Z23 Gs[g].lvl Gs[g].items.length ((Z05 (Z0n Gs) g).map tabs)).length cap) /\ Below w.1.size w w' /\
  RowJ w' base (.slice a (Z23 Gs[g].lvl Gs[g].items.length ((Z05 (Z0n Gs) g).map tabs)).length cap) (Z23 Gs[g].lvl Gs[g].items.length ((Z05 (Z0n Gs) g).map tabs)) := by
 have rC : Z23 Gs[g].lvl Gs[g].items.length ((Z05 (Z0n Gs) g).map tabs) = if ((Z05 (Z0n Gs) g).map tabs).length = 0 then [] else Z06 ((Z05 (Z0n Gs) g).map tabs) ((Z05 (Z0n Gs) g).map tabs).length := by unfold Z23; rw [if_neg hl]
 obtain ⟨R, hR⟩ : ∃ R, R = Z23 Gs[g].lvl Gs[g].items.length ((Z05 (Z0n Gs) g).map tabs) := ⟨_, rfl⟩
 rw [<- hR] at rC ⊢
 clear hR
 obtain ⟨l1, l2, l3, l4, l5⟩ := h.lt
 obtain ⟨c0, c1, c2, c3, c4⟩ := h.tr.c
 have pE := h.gr
 obtain ⟨ag, cg, rfl, pE⟩ := pE
 obtain ⟨gg, og, rfl, uZ, qO⟩ := pE (by omega)
 obtain ⟨sv, hsv, g0, g1, g2, g3⟩ := qO g hg
 obtain ⟨xx, hx⟩ : ∃ x, x = Gs[g].lvl := ⟨_, rfl⟩
 rw [<- hx] at g0 hl
 have lK : (xx == 0) = false := by simp [hl]
 have pG : Below w.1.size w (w.alloc (.cells #[.slice none 0 0] 35)) := (Z9 _ w).alloc (Z1 _) _
 have HP := Z0 (Za8 T BB TB PB base v _ Gs tabs m ps g (w.alloc (.cells #[.slice none 0 0] 35)) (h.below pG) hg hn qN hm)
 have qI : ((Z05 (Z0n Gs) g).map tabs).length = (Z05 (Z0n Gs) g).length := Z7 _
 obtain ⟨ts, qP⟩ : ∃ ts, ts = (Z05 (Z0n Gs) g).map tabs := ⟨_, rfl⟩
 rw [<- qP] at qI hM HP rC
 have jN := Z0 rC
 clear rC
 obtain ⟨sn, sG⟩ : ∃ n, n = (Z05 (Z0n Gs) g).length := ⟨_, rfl⟩
 rw [<- sG] at qI HP
 clear pE qO c0 c2 c3 c4 h g1 g2 g3 hsv hx qN qP sG
 subst qI
 refine (callsIn_wide (n := 0)).1 ?_
 refine callsIn_of_wp_marks Tryz.func99 rfl trivial ?_ rfl
 simp only [Tryz.ntmps99, List.size_toArray, Ka9, List.length_nil, Nat.reduceAdd, Nat.reduceSub, Array.replicate_succ, Array.replicate_zero, List.push_toArray, List.append_toArray, Kca, Kc9]
 gi_wp2_with (first
  | (refine ⟨trivial, rfl, ?_⟩; gi_at_call 103; refine (callsIn_wide.2 HP.out).mono ?_; rintro e w1 ⟨ap, cp, rfl, pA, xK, vA⟩)
  | (refine ⟨trivial, rfl, ?_⟩; gi_at_call 102; refine (callsIn_wide.2 (Z8p _ _ _ _)).mono ?_; rintro e w2 ⟨rfl, rfl⟩))
 have vB : (w.alloc (.cells #[.slice none 0 0] 35)).1.size = w.1.size + 1 := by simp
 rw [vB] at vA
 have pJ : Below w.1.size w w1 := Z01 pG (by omega) pA
 have sH := pA.size
 rw [vB] at sH
 obtain ⟨W0, sI⟩ : ∃ W0 : World, W0 = w1.alloc (.cells #[.slice ap ts.length cp] 109) := ⟨_, rfl⟩
 have pW : Boxed W0 w1.1.size 109 (.slice ap ts.length cp) := by rw [sI]; exact Boxed.new _ _ _
 have tK : Below w1.1.size w1 W0 := by rw [sI]; exact (Z9 _ w1).alloc (Z1 _) _
 have jO : W0.1.size = w1.1.size + 1 := by rw [sI]; simp
 have rA : ComeI w ([] : List (Yld ts.length)) W0 := by
  refine ⟨?_, Z01 pJ pJ.size tK⟩
  have b0 : Boxed (w.alloc (.cells #[.slice none 0 0] 35)) w.1.size 35 (.slice none 0 0) := Boxed.new _ _ _
  exact ((Z01 (Z9 _ _) (Z1 _) pA).mono (Z1 _) |> fun h => (tK.block w.1.size (by omega)).trans ((h.block w.1.size (by omega)).trans b0))
 have tG : RdRowsX w.1.size W0 base (.slice ap ts.length cp) ts := ⟨xK.below tK, fun b off n c _ e => by
  injection e with e _ _
  have := vA b off e
  omega⟩
 rw [<- sI]
 clear sI tK xK vA pA pG pJ HP vB c1 g0
 generalize w1.1.size = B at pW jO sH ⊢
 have jP := hM
 refine Z2u (gf := 132) (lb := #[.pointer (some ⟨B, 0, none⟩)]) rfl Tryz.call132 (Bs := B) (by omega) (Z5Z B base w.1.size _ ts W0 hM pW tG (by omega) (by omega)) (MergS.own _ _ _)
  (fun h k => h.trans k) (fun W l o o' hl hW hc => KC.put hW hc) (fun _ => rfl)
  (ComeI w) (fun _ _ _ => False)
  (fun s A B' row h hg hr => h.keep hg (fun r e => by obtain ⟨h1, _⟩ := hr r e; omega))
  (fun c s A B' row h _ _ => h)
  (fun s A B' row h hg hr => h.keep hg (fun r e => by have := hr r e; omega))
  (fun c s A B' row h _ _ => h)
  rA
  (fun x a' W => a' = { tmps := #[.pointer (some ⟨T, 0, none⟩), .int .i64 g, undef, undef, .slice none 0 0, undef, .pointer (some ⟨w.1.size, 0, none⟩), undef, x.sl,
   .pointer (some ⟨T, 0, none⟩), .pointer (some ⟨T, 0, none⟩), .pointer (some ⟨T, 1, none⟩), .slice (some ⟨gg, og, none⟩) Gs.length cg, .int .i64 g, .pointer (some ⟨gg, og + g * 4, none⟩), .pointer (some ⟨gg, og + g * 4, none⟩), .int .i64 xx, .bool false,
   undef, undef, undef, undef, undef, undef, undef, undef, undef, undef, undef, undef, undef, undef, undef, undef, undef, undef, .pointer (some ⟨T, 0, none⟩), .int .i64 g, .slice ap ts.length cp,
   .func (.func 132) #[] #[.pointer (some ⟨B, 0, none⟩)], .int .i64 x.i, x.sl, undef, undef], defers := [] })
  (fun x a' s A B' row h _ _ => h) ?assign ?body ?done ?stop
 case assign =>
  intro l pre x W K hi hK
  gi_wp2
  exact hK _ _ (KeepsFrom.refl _ _) (KC.refl _ _) hi rfl
 case body =>
  rintro l pre x a' W hI rfl
  have c1 := hI.1.cell
  have c2 := hI.1.frozen
  obtain ⟨xi, xhi, xa, xl, xc⟩ := x
  dsimp only [Yld.sl]
  gi_wp2_with fail
  exact ⟨(KeepsOthers.setCell _ _ _).from _, KC.set _ hI.1, by rw [ZdV]; exact hI.1.set _, hI.2.setCell (p := ⟨w.1.size, 0, none⟩) (Z1 _) _⟩
 case done =>
  rintro D xs W hD ⟨lL, xL⟩ hI hK
  have c1 := hI.1.cell
  have vC : ∃ a cap, ZbE xs = .slice a R.length cap /\ RowJ W base (ZbE xs) R := by
   rw [jN.out]
   by_cases h0 : ts.length = 0
   ·rw [if_pos h0]
    obtain rfl : xs = [] := Kag.1 (by omega)
    exact ⟨none, 0, rfl, RowJ.nil _ _ _ _⟩
   ·rw [if_neg h0]
    obtain ⟨_, h2⟩ := xL (xs.length - 1) (by omega)
    have e : ZbE xs = (xs[xs.length - 1]'(by omega)).sl := by
     unfold ZbE
     rw [List.getLast?_eq_getElem?, Z3 (by omega)]
    rw [show xs.length - 1 + 1 = ts.length by omega] at h2
    rw [e]
    obtain ⟨a, cap, hv⟩ := h2.len
    exact ⟨a, cap, hv, h2⟩
  obtain ⟨a, cap, hv, qC⟩ := vC
  rw [hv] at c1 qC
  have jQ := Z0 qC
  have xM := hI.2
  clear xL qC hv hM jP
  gi_wp2_with fail
  refine ⟨by simp, .inl ⟨_, _, rfl, run_takeDeferred hK, ?_⟩⟩
  refine ⟨_, results_tmp rfl _ _ _, a, cap, rfl, xM.grown (grownBy_putObj' _ _ _) xM.size (fun k e => by cases e; omega), jQ.out.kept (grownBy_putObj' _ _ _) (fun g e => .inr (fun cur fr hh => ?_))⟩
  cases e
  rw [hK] at hh
  cases hh
 case stop =>
  rintro D c pre W hD hS hX hK
  exact hX.elim
theorem Zi3 (T BB TB PB base : Nat) (v vg : Value) (Gs : List Grp) (tabs : Nat -> List Int) (m : Nat) (ps : List Int) (g : Nat) (w : World) (h : TreeW w T BB TB PB base v vg Gs tabs m ps) (hg : g < Gs.length) (hn : Gs.length <= 100000)
 (hi : Gs[g].items.length <= 4000) (qN : ∀ x ∈ Z05 (Z0n Gs) g, x < m) (hm : m <= Gs.length) (hM : Gs[g].lvl ≠ 0 -> MOk ((Z05 (Z0n Gs) g).map tabs)) :
 Calls Tryz.prog 99 #[.pointer (some ⟨T, 0, none⟩), .int .i64 g] w fun e w' => ∃ a cap, e = .returned (.slice a (Z23 Gs[g].lvl Gs[g].items.length ((Z05 (Z0n Gs) g).map tabs)).length cap) /\ Below w.1.size w w' /\
  RowJ w' base (.slice a (Z23 Gs[g].lvl Gs[g].items.length ((Z05 (Z0n Gs) g).map tabs)).length cap) (Z23 Gs[g].lvl Gs[g].items.length ((Z05 (Z0n Gs) g).map tabs)) := by
 by_cases hl : Gs[g].lvl = 0
 ·exact Zgg T BB TB PB base v vg Gs tabs m ps g w h hg hn hl hi _
 ·exact Zgi T BB TB PB base v vg Gs tabs m ps g w h hg hn hl qN hm (hM hl)
end
section
open Go.RowKit Go.Sort
def Z1e (zs : List Int) (x : Grp) (k : Nat) : Nat := (x.items.take k).countP (fun i => decide (zs.getD i.toNat (-1) = x.lvl))
def ZfA (ls : List Lev) (z : Int) : Int := (ls.getD z.toNat ⟨⟨#[]⟩, 0, [], 0, 0⟩).min
def Z51 (ls : List Lev) (zs : List Int) (x : Grp) : Bool := !(decide (0 < Z1e zs x x.items.length) && decide ((Z1e zs x x.items.length : Int) < ZfA ls x.lvl))
def Z2o (ls : List Lev) (zs : List Int) (Gs : List Grp) : Bool := Gs.all (Z51 ls zs)
theorem Zdj (zs : List Int) (x : Grp) {k : Nat} (h : k < x.items.length) : Z1e zs x (k + 1) = Z1e zs x k + (if zs.getD x.items[k].toNat (-1) = x.lvl then 1 else 0) := by
 unfold Z1e
 rw [Z8 h, List.countP_append, List.countP_singleton]
 simp
theorem ZgW (zs : List Int) (x : Grp) (k : Nat) : Z1e zs x k <= k := by
 unfold Z1e
 refine Kaw (List.countP_le_length) ?_
 rw [Kax]; omega
theorem Zfz {ls : List Lev} {z : Nat} (h : z < ls.length) : ZfA ls (z : Int) = ls[z].min := by
 unfold ZfA
 rw [Kar, Z2, Z3 h]; rfl
theorem Z1Q {m : Mai} (h : Z2c m = true) : m.ps.length <= 2000 /\ ∀ p ∈ m.ps, Z0G p.code = true := by
 unfold Z2c at h
 simp only [ZF, Kab] at h
 have hp : ∀ (l : List Pce) (b : Int), Zcw b l = true -> ∀ p ∈ l, Z0G p.code = true := by
  intro l
  induction l with
  | nil => intro b _ p hp; cases hp
  | cons q r ih =>
   intro b hb p hp
   unfold Zcw at hb
   rw [ZF] at hb
   rcases Kbf.1 hp with rfl | hp
   ·have h1 := hb.1
    unfold pcB at h1
    simp only [ZF] at h1
    exact h1.2.1
   ·exact ih _ hb.2 p hp
 exact ⟨h.2.2.1, hp _ _ h.2.2.2⟩
theorem Z8B (ls : List Lev) (cs : List ByteArray) : (Z16 ls cs ls.length).length <= ls.length * cs.length := by
 have h := (ZbR ls cs ls.length (Z1 _)).1
 rwa [Z3T ls cs ls.length (Z1 _)] at h
open Classical in
noncomputable def Z28 (ls : List Lev) (m : Mai) (zs : List Int) : Bool × Int :=
 if Z0g ls = true /\ Z2c m = true /\ zs.length = m.ps.length /\ Z1j ls.length zs = true then
  (if (Z07 m.ps).any (Z2R ls) = true then (false, 6) else (Z2o ls zs (Z16 ls (Z07 m.ps) ls.length), 0)) else (false, 2)
theorem Zen (ls : List Lev) (v vp vz : Value) (m : Mai) (zs : List Int) (w : World) (hr : RdLevs w v ls) (hf : ∀ l ∈ ls, Z0K l) (hl : ls.length <= 100000) (qD : RdPces w vp m.ps) (h8 : 0 <= m.cls /\ m.cls <= 255 /\ 0 <= m.ctr /\ m.ctr <= 255)
 (jR : m.origin.size <= maxLen) (xN : m.ps.length <= 100000) (pO : ∀ p ∈ m.ps, p.code.size <= maxLen) (hz : RdInts w vz zs) (sJ : zs.length <= 1000000) :
 Calls Tryz.prog 16 #[v, Z2r m vp, vz] w fun e w' => e = .returned (.tuple #[.bool (Z28 ls m zs).1, .int .i64 (Z28 ls m zs).2]) /\ Below w.1.size w w' := by
 have qQ := Z0 (fun W (hW : Below w.1.size w W) => Z1X ls v W (hr.below hW) hf (by unfold maxLen; omega))
 have pM := Z0 (fun W (hW : Below w.1.size w W) => Z3c m vp W (qD.below hW) h8 jR xN pO)
 have tL := Z0 (fun W (hW : Below w.1.size w W) => Z7y m vp W (qD.below hW) xN)
 have xO : (Z07 m.ps).length = m.ps.length := by unfold Z07; simp
 have qE := Z0 (fun W vc (hW : Below w.1.size w W) (jS : ReadsT W vc (Z07 m.ps)) => Z5G ls v vc (Z07 m.ps) W (hr.below hW) hf (by unfold maxLen; omega) jS (by unfold maxLen; omega) (fun c hc => by
  unfold Z07 at hc
  obtain ⟨p, hp, rfl⟩ := Kae.1 hc
  exact pO p hp))
 have HZ := Z0 hz
 have jT := Z0 hr
 obtain ⟨ap, cp, rfl, _⟩ := qD
 obtain ⟨al, cl, rfl, _⟩ := hr
 obtain ⟨az, cz, rfl, _⟩ := hz
 have sK : Hid (∀ W, Below w.1.size w W -> Calls Tryz.prog 40 #[.slice al ls.length cl, .slice az zs.length cz] W fun e w' => e = .returned (.bool (Z1j ls.length zs)) /\ W = w') := fun W hW => Zbv ls.length al cl zs _ W (HZ.out.below hW) sJ hl
 have rP : Z28 ls m zs = if Z0g ls = true /\ Z2c m = true /\ zs.length = m.ps.length /\ Z1j ls.length zs = true then
  (if (Z07 m.ps).any (Z2R ls) = true then (false, 6) else (Z2o ls zs (Z16 ls (Z07 m.ps) ls.length), 0)) else (false, 2) := by unfold Z28; rfl
 obtain ⟨R, hR⟩ : ∃ R, R = Z28 ls m zs := ⟨_, rfl⟩
 rw [<- hR] at rP ⊢
 have tM : Z2c m = true -> Z0g ls = true -> Z1g ls (Z07 m.ps) = if (Z07 m.ps).any (Z2R ls) = true then ([], 6) else ((gTo ls (Z07 m.ps) ls.length).1, 0) := fun h1 h2 => by
  obtain ⟨k1, k2⟩ := Z1Q h1
  unfold Z1g
  rw [if_neg (by omega), if_pos ⟨h2, fun c hc => by
   unfold Z07 at hc
   obtain ⟨p, hp, rfl⟩ := Kae.1 hc
   exact k2 p hp⟩]
 have vD : Z2c m = true -> m.ps.length <= 2000 := fun h => (Z1Q h).1
 have xP := Z3T ls (Z07 m.ps) ls.length (Z1 _)
 obtain ⟨rb, vE⟩ : ∃ b, b = Z0g ls := ⟨_, rfl⟩
 obtain ⟨mb, xQ⟩ : ∃ b, b = Z2c m := ⟨_, rfl⟩
 obtain ⟨nb, tN⟩ : ∃ b, b = Z1j ls.length zs := ⟨_, rfl⟩
 have xR := Z0 vE
 rw [<- vE] at qQ rP tM
 rw [<- xQ] at pM rP tM vD
 have jU := Z0 tN
 rw [<- tN] at sK rP
 have vF := fun h => Z72 (n := ls.length) (zs := zs) h
 rw [<- tN] at vF
 unfold Z2r at pM tL ⊢
 obtain ⟨cls, ctr, org, ps⟩ := m
 dsimp only at *
 have pG : Below w.1.size w (w.alloc (.cells #[.int .u8 cls, .int .u8 ctr, .string org, .slice ap ps.length cp] 34)) := (Z9 _ w).alloc (Z1 _) _
 have sD : (w.alloc (.cells #[.int .u8 cls, .int .u8 ctr, .string org, .slice ap ps.length cp] 34)).1.size = w.1.size + 1 := Z6 _ _
 have pW : ∀ W, Below (w.1.size + 1) (w.alloc (.cells #[.int .u8 cls, .int .u8 ctr, .string org, .slice ap ps.length cp] 34)) W -> W.cell? ⟨w.1.size, 0, none⟩ = some (.int .u8 cls) /\ W.cell? ⟨w.1.size, 1, none⟩ = some (.int .u8 ctr) /\ W.cell? ⟨w.1.size, 2, none⟩ = some (.string org) /\ W.cell? ⟨w.1.size, 3, none⟩ = some (.slice ap ps.length cp) := fun W hW =>
  ⟨(hW.cell (p := ⟨w.1.size, 0, none⟩) (Ka4 _)).trans (Kaa _ _ 0 _ _ _ (Z02 w _)), (hW.cell (p := ⟨w.1.size, 1, none⟩) (Ka4 _)).trans (Kaa _ _ 1 _ _ _ (Z02 w _)),
   (hW.cell (p := ⟨w.1.size, 2, none⟩) (Ka4 _)).trans (Kaa _ _ 2 _ _ _ (Z02 w _)), (hW.cell (p := ⟨w.1.size, 3, none⟩) (Ka4 _)).trans (Kaa _ _ 3 _ _ _ (Z02 w _))⟩
 have pK := Z0 pW
 have qF := Z0 sD
 have rD := Z0 rP
 have xS := Z0 tM
 have xT := Z0 xP
 have xU := Z0 vD
 have lM := Z0 vF
 have tO := Z0 xO
 clear pW sD rP tM xP vD vF xO hR vE xQ tN hf pO
 cases rb
 ·go_enter Tryz.func16, Tryz.ntmps16
  go_wp2_with (go_at_call 39; refine (qQ.out _ pG).mono ?_; rintro e w1 ⟨rfl, pA⟩)
  go_ret2
  rw [rD.out, if_neg (by simp)]
  exact ⟨rfl, Z01 pG pG.size pA⟩
 ·cases mb
  ·go_enter Tryz.func16, Tryz.ntmps16
   go_wp2_with (first
    | (go_at_call 39; refine (qQ.out _ pG).mono ?_; rintro e w1 ⟨rfl, pA⟩; (rw [qF.out] at pA); have pJ : Below w.1.size w w1 := pG.trans (pA.mono (Kbd _)); obtain ⟨x0, x1, x2, x3⟩ := pK.out w1 pA)
    | (go_at_call 34; refine (pM.out _ pJ).mono ?_; rintro e w2 ⟨rfl, pD⟩))
   go_ret2
   rw [rD.out, if_neg (by simp)]
   exact ⟨rfl, Z01 pJ pJ.size pD⟩
  ·by_cases sL : zs.length = ps.length
   ·have pQ : ((zs.length : Int) != (ps.length : Int)) = false := by rw [sL]; simp
    have xV := Z0 sL
    clear sL
    cases nb
    ·go_enter Tryz.func16, Tryz.ntmps16
     go_wp2_with (first
      | (go_at_call 39; refine (qQ.out _ pG).mono ?_; rintro e w1 ⟨rfl, pA⟩; (rw [qF.out] at pA); have pJ : Below w.1.size w w1 := pG.trans (pA.mono (Kbd _)); obtain ⟨x0, x1, x2, x3⟩ := pK.out w1 pA)
      | (go_at_call 34; refine (pM.out _ pJ).mono ?_; rintro e w2 ⟨rfl, pD⟩; have pR := pA.trans (pD.mono (by have := pA.size; rw [qF.out] at this; exact this)); have pP : Below w.1.size w w2 := pG.trans (pR.mono (Kbd _)); clear x0 x1 x2 x3; obtain ⟨x0, x1, x2, x3⟩ := pK.out w2 pR)
      | (go_at_call 40; refine (sK.out _ pP).mono ?_; rintro e w3 ⟨rfl, hW⟩; obtain rfl : w2 = w3 := hW))
     go_ret2
     rw [rD.out, if_neg (by simp)]
     exact ⟨rfl, pP⟩
    ·have pE := xS.out rfl rfl
     have uR := xU.out rfl
     have tP := xV.out
     by_cases sM : (Z07 ps).any (Z2R ls) = true
     ·rw [if_pos sM] at pE
      have rQ := rD.out
      rw [if_pos ⟨rfl, rfl, tP, rfl⟩, if_pos sM] at rQ
      subst rQ
      rw [pE] at qE
      dsimp only at qE
      clear pE tP
      go_enter Tryz.func16, Tryz.ntmps16
      go_wp2_with (first
       | (go_at_call 39; refine (qQ.out _ pG).mono ?_; rintro e w1 ⟨rfl, pA⟩; (rw [qF.out] at pA); have pJ : Below w.1.size w w1 := pG.trans (pA.mono (Kbd _)); obtain ⟨x0, x1, x2, x3⟩ := pK.out w1 pA)
       | (go_at_call 34; refine (pM.out _ pJ).mono ?_; rintro e w2 ⟨rfl, pD⟩; have pR := pA.trans (pD.mono (by have := pA.size; rw [qF.out] at this; exact this)); have pP : Below w.1.size w w2 := pG.trans (pR.mono (Kbd _)); clear x0 x1 x2 x3; obtain ⟨x0, x1, x2, x3⟩ := pK.out w2 pR)
       | (go_at_call 40; refine (sK.out _ pP).mono ?_; rintro e w3 ⟨rfl, hW⟩; obtain rfl : w2 = w3 := hW)
       | (go_at_call 42; refine (tL.out _ pP).mono ?_; rintro e w3 ⟨u, rfl, pH, tQ⟩; have pX : Below w.1.size w w3 := Z01 pP pP.size pH)
       | (go_at_call 41; refine (qE.out _ _ pX tQ).mono ?_; rintro e w4 ⟨vg, rfl, pY, tR⟩))
      go_ret2
      exact ⟨rfl, Z01 pX pX.size pY⟩
     ·rw [if_neg sM] at pE
      have rQ := rD.out
      rw [if_pos ⟨rfl, rfl, tP, rfl⟩, if_neg sM] at rQ
      rw [pE] at qE
      dsimp only at qE
      have sF := Z8B ls (Z07 ps)
      rw [xT.out] at qE
      dsimp only at qE
      have vG : ∀ x ∈ Z16 ls (Z07 ps) ls.length, x.items.length <= 2000 /\ (∃ mm : Nat, mm < ls.length /\ x.lvl = (mm : Int)) /\ ∀ i ∈ x.items, ∃ q : Nat, q < zs.length /\ i = (q : Int) := fun x hx => by
       obtain ⟨mm, n, tS, _, rfl⟩ := Z2b.1 hx
       refine ⟨?_, ⟨mm, tS, rfl⟩, fun i hi => ?_⟩
       ·have : (itm ls (Z07 ps) mm n).length <= (Z07 ps).length := Z7g ls _ mm n
        have h2 := tO.out
        exact Kaw this (by omega)
       ·obtain ⟨q, hq, _, rfl⟩ := Z3B.1 hi
        have h2 := tO.out
        exact ⟨q, by omega, rfl⟩
      rw [tO.out] at sF
      have tT := (Z0y xR.out.symm).2
      have sN : (Z16 ls (Z07 ps) ls.length).length <= 12000 := Kaw sF (by have : ls.length * ps.length <= 6 * 2000 := Nat.mul_le_mul tT uR; omega)
      obtain ⟨Gs, xW⟩ : ∃ G, G = Z16 ls (Z07 ps) ls.length := ⟨_, rfl⟩
      rw [<- xW] at qE rQ vG sN
      subst rQ
      have jV := Z0 vG
      clear pE xW vG sF tP
      go_enter Tryz.func16, Tryz.ntmps16
      go_wp2_with (first
       | (go_at_call 39; refine (qQ.out _ pG).mono ?_; rintro e w1 ⟨rfl, pA⟩; (rw [qF.out] at pA); have pJ : Below w.1.size w w1 := pG.trans (pA.mono (Kbd _)); obtain ⟨x0, x1, x2, x3⟩ := pK.out w1 pA)
       | (go_at_call 34; refine (pM.out _ pJ).mono ?_; rintro e w2 ⟨rfl, pD⟩; have pR := pA.trans (pD.mono (by have := pA.size; rw [qF.out] at this; exact this)); have pP : Below w.1.size w w2 := pG.trans (pR.mono (Kbd _)); clear x0 x1 x2 x3; obtain ⟨x0, x1, x2, x3⟩ := pK.out w2 pR)
       | (go_at_call 40; refine (sK.out _ pP).mono ?_; rintro e w3 ⟨rfl, hW⟩; obtain rfl : w2 = w3 := hW)
       | (go_at_call 42; refine (tL.out _ pP).mono ?_; rintro e w3 ⟨u, rfl, pH, tQ⟩; have pX : Below w.1.size w w3 := Z01 pP pP.size pH)
       | (go_at_call 41; refine (qE.out _ _ pX tQ).mono ?_; rintro e w4 ⟨vg, rfl, pY, tR⟩; have tU := RdGrps.of_owns tR; obtain ⟨ag, cg, vH⟩ := tR.len; subst vH; clear x0 x1 x2 x3))
      have tV : Below w.1.size w w4 := Z01 pX pX.size pY
      have rE := Z0 tV
      have jW := Z0 tU
      have jX := Z0 (RdLevs.below jT.out tV)
      have jY := Z0 (RdInts.below HZ.out tV)
      clear pA pJ pD pR pP pH tQ pX pY tV tR tU pG sM qQ pM tL qE pK sK rD xS xT xU xR jU tO xV qF
      go_loopw [49] (fun i wr => ∃ k : Nat, k <= Gs.length /\ i = .int .i64 k /\ Below w4.1.size w4 wr /\ ∀ j (hj : j < Gs.length), j < k -> Z51 ls zs Gs[j] = true) (fun i _ => Gs.length - (intOf i).toNat)
      case atStart => exact ⟨0, ZE _, rfl, Z9 _ _, fun j _ h => absurd h (Ka2 _)⟩
      case round =>
       obtain ⟨wo, jZ⟩ : ∃ x, x = wr := ⟨_, rfl⟩
       subst jZ
       obtain ⟨k, hk, rfl, hB, pI⟩ := hrel
       have vI := Z0 pI
       clear pI
       by_cases pB : k < Gs.length
       ·have tU := RdGrps.below jW.out hB
        obtain ⟨ag', cg', vH, pE⟩ := tU
        injection vH with q1 q2 q3
        subst q1
        clear q2 q3
        obtain ⟨gg, og, rfl, uZ, qO⟩ := pE (by omega)
        obtain ⟨sv, hsv, g0, g1, g2, g3⟩ := qO k pB
        obtain ⟨kA, ⟨mm, tS, tW⟩, vJ⟩ := jV.out _ (Z4 pB)
        obtain ⟨x, hx⟩ : ∃ x, x = Gs[k] := ⟨_, rfl⟩
        have HX := Z0 hx
        rw [<- hx] at hsv g0 g1 g2 kA tW vJ
        rw [tW] at g0
        obtain ⟨nm, xX⟩ : ∃ z, z = x.name := ⟨_, rfl⟩
        obtain ⟨up, xY⟩ : ∃ z, z = x.up := ⟨_, rfl⟩
        rw [<- xX] at g1
        rw [<- xY] at g2
        obtain ⟨ai, ci, rfl, xZ⟩ := hsv
        obtain ⟨CG, sO⟩ : ∃ c, c = Obj.cells #[.int .i64 mm, .string nm, .int .i64 up, .slice ai x.items.length ci] 107 (0, 0) := ⟨_, rfl⟩
        have yA : Below wo.1.size wo (wo.alloc CG) := (Z9 _ _).alloc (Z1 _) _
        have q0 : (wo.alloc CG).cell? ⟨wo.1.size, 0, none⟩ = some (.int .i64 mm) := by rw [sO]; exact Kaa _ _ 0 _ _ _ (Z02 wo _)
        have q3 : (wo.alloc CG).cell? ⟨wo.1.size, 3, none⟩ = some (.slice ai x.items.length ci) := by rw [sO]; exact Kaa _ _ 3 _ _ _ (Z02 wo _)
        have tX : Below w4.1.size w4 (wo.alloc CG) := hB.alloc hB.size _
        have vK : (wo.alloc CG).1.size = wo.1.size + 1 := Z6 _ _
        have yB := fun p (hp : p < x.items.length) => Zdj zs x hp
        have kB := Z0 yB
        have yC := Z0 tW
        have kC := Z0 vJ
        have kD := Z0 xZ
        have kE := Z0 q0
        have kF := Z0 vK
        have kG := Z0 yA
        clear yB tW vJ xZ pE qO xX xY hx q0 vK yA
        go_wp2_with fail
        rw [<- sO]
        have lN := Z0 sO
        clear sO
        go_loopw [12, 56] (fun t i wq => ∃ p : Nat, p <= x.items.length /\ i = .int .i64 p /\ t = .int .i64 (Z1e zs x p : Nat) /\ Below (wo.alloc CG).1.size (wo.alloc CG) wq) (fun _ i _ => x.items.length - (intOf i).toNat)
        case atStart => exact ⟨0, ZE _, rfl, by simp [Z1e], Z9 _ _⟩
        case round =>
         clear q3
         obtain ⟨p, hp, rfl, rfl, pS⟩ := hrel
         have vK := kF.out
         have r0 := (pS.cell (p := ⟨wo.1.size, 0, none⟩) (by show wo.1.size < _; omega)).trans kE.out
         have qI := ZgW zs x p
         by_cases vL : p < x.items.length
         ·obtain ⟨gi, oi, rfl, kH, pC⟩ := kD.out (by omega)
          obtain ⟨q, hq, yD⟩ := kC.out _ (Z4 vL)
          have qP := kB.out p vL
          have e1 := pC p vL
          rw [yD] at e1 qP
          have e1' : wr.cell? ⟨gi, oi + p, none⟩ = some (.int .i64 q) := (pS.cell (p := ⟨gi, oi + p, none⟩) (by show gi < _; omega)).trans ((kG.out.cell (p := ⟨gi, oi + p, none⟩) kH).trans e1)
          obtain ⟨az', cz', kI, pO⟩ := jY.out
          injection kI with q1 q2 q3
          subst q1
          clear q2 q3
          obtain ⟨gz, oz, rfl, rR, pO⟩ := pO (by omega)
          have e2 : wr.cell? ⟨gz, oz + q, none⟩ = some (.int .i64 zs[q]) := ((tX.trans (pS.mono tX.size)).cell (p := ⟨gz, oz + q, none⟩) rR).trans (pO q hq)
          rw [Kar, yC.out, Z2, Z3 hq] at qP
          obtain ⟨z, hz⟩ : ∃ z, z = zs[q] := ⟨_, rfl⟩
          rw [<- hz] at e2 qP
          have rF : Z1e zs x (p + 1) = Z1e zs x p + (if z = (mm : Int) then 1 else 0) := qP
          obtain ⟨t, ht⟩ : ∃ t, t = Z1e zs x p := ⟨_, rfl⟩
          rw [<- ht] at rF qI ⊢
          clear qP e1 hz pO pC yD ht
          by_cases rS : z = (mm : Int)
          ·rw [if_pos rS] at rF
           have kJ : (z == (mm : Int)) = true := by simp [rS]
           have HT := Z0 rF
           clear rF rS
           go_wp2_with fail
           go_quiet (fail)
           go_wp2_with fail
           go_roundw
           case rel => exact ⟨p + 1, by omega, by go_num, by rw [HT.out]; go_num, below_drewN pS _⟩
           case measure => simp [intOf]; omega
          ·rw [if_neg rS] at rF
           have kJ : (z == (mm : Int)) = false := by simp [rS]
           have HT := Z0 rF
           clear rF rS
           go_wp2_with fail
           go_quiet (fail)
           go_wp2_with fail
           go_roundw
           case rel => exact ⟨p + 1, by omega, by go_num, by rw [HT.out]; rfl, below_drewN pS _⟩
           case measure => simp [intOf]; omega
         ·obtain rfl : p = x.items.length := by omega
          have yE : Below w4.1.size w4 wr := tX.trans (pS.mono tX.size)
          obtain ⟨al', cl', kK, qG⟩ := RdLevs.below jX.out yE
          injection kK with q1 q2 q3
          subst q1
          clear q2 q3
          obtain ⟨gl, ol, rfl, sN, qG⟩ := qG (by omega)
          obtain ⟨sv, _, _, _, _, l3, _⟩ := qG mm tS
          have tY : Z51 ls zs x = !(decide (0 < Z1e zs x x.items.length) && decide ((Z1e zs x x.items.length : Int) < ls[mm].min)) := by
           unfold Z51
           rw [yC.out, Zfz tS]
          obtain ⟨mn, yF⟩ : ∃ z, z = ls[mm].min := ⟨_, rfl⟩
          rw [<- yF] at l3 tY
          obtain ⟨t, ht⟩ : ∃ t, t = Z1e zs x x.items.length := ⟨_, rfl⟩
          rw [<- ht] at qI tY ⊢
          have vM := Z0 tY
          have vN := Z0 yE
          clear tY yF ht qG
          by_cases h0 : t = 0
          ·have pI : Z51 ls zs x = true := by rw [vM.out, h0]; simp
           have HK := Z0 pI
           have kL : ¬ ((t : Int) > 0) := by omega
           clear pI h0
           go_wp2_with fail
           go_roundw
           case rel =>
            refine ⟨k + 1, by omega, by go_num, vN.out, fun j hj kM => ?_⟩
            by_cases e : j = k
            ·subst e; rw [<- HX.out]; exact HK.out
            ·exact vI.out j hj (by omega)
           case measure => simp [intOf]; omega
          ·have kL : (t : Int) > 0 := by omega
           by_cases yG : (t : Int) < mn
           ·have pI : Z51 ls zs x = false := by rw [vM.out, Kac (by omega), Kac yG]; rfl
            have sP : Z2o ls zs Gs = false := by
             unfold Z2o
             rw [List.all_eq_false]
             exact ⟨Gs[k], Z4 pB, by rw [<- HX.out, pI]; simp⟩
            have vO := Z0 sP
            clear pI sP h0
            go_wp2_with fail
            go_ret2
            rw [vO.out]
            exact ⟨rfl, rE.out.trans (vN.out.mono rE.out.size)⟩
           ·have pI : Z51 ls zs x = true := by rw [vM.out, Kad yG]; simp
            have HK := Z0 pI
            clear pI h0
            go_wp2_with fail
            go_roundw
            case rel =>
             refine ⟨k + 1, by omega, by go_num, vN.out, fun j hj kM => ?_⟩
             by_cases e : j = k
             ·subst e; rw [<- HX.out]; exact HK.out
             ·exact vI.out j hj (by omega)
            case measure => simp [intOf]; omega
       ·obtain rfl : k = Gs.length := by omega
        have sP : Z2o ls zs Gs = true := by
         unfold Z2o
         rw [Kbk]
         intro x hx
         obtain ⟨j, hj, rfl⟩ := Kau.1 hx
         exact vI.out j hj hj
        have vO := Z0 sP
        clear sP
        go_wp2_with fail
        go_ret2
        rw [vO.out]
        exact ⟨rfl, rE.out.trans (hB.mono rE.out.size)⟩
   ·have pQ : ((zs.length : Int) != (ps.length : Int)) = true := by simp; omega
    go_enter Tryz.func16, Tryz.ntmps16
    go_wp2_with (first
     | (go_at_call 39; refine (qQ.out _ pG).mono ?_; rintro e w1 ⟨rfl, pA⟩; (rw [qF.out] at pA); have pJ : Below w.1.size w w1 := pG.trans (pA.mono (Kbd _)); obtain ⟨x0, x1, x2, x3⟩ := pK.out w1 pA)
     | (go_at_call 34; refine (pM.out _ pJ).mono ?_; rintro e w2 ⟨rfl, pD⟩; have pR := pA.trans (pD.mono (by have := pA.size; rw [qF.out] at this; exact this)); have pP : Below w.1.size w w2 := pG.trans (pR.mono (Kbd _)); clear x0 x1 x2 x3; obtain ⟨x0, x1, x2, x3⟩ := pK.out w2 pR))
    go_ret2
    rw [rD.out, if_neg (fun h => sL h.2.2.1)]
    exact ⟨rfl, pP⟩
end
section
open Go.RowKit
theorem Zjf (zs : List Int) (v : Value) (w : World) (hv : RdInts w v zs) (h0 : 0 < zs.length) (hl : zs.length <= 100000) :
 Calls Tryz.prog 73 #[v] w fun e w' => ∃ m, m ∈ zs /\ e = .returned (.int .i64 m) /\ w' = w := by
 obtain ⟨a, ca, rfl, hc⟩ := hv
 obtain ⟨g, off, rfl, hg, pC⟩ := hc h0
 have c0 : w.cell? ⟨g, off, none⟩ = some (.int .i64 (zs[0]'h0)) := pC 0 h0
 have HC := Z0 pC
 have yH := Z0 (Z4 h0)
 clear hc pC
 generalize zs[0] = z0 at c0 yH
 go_enter Tryz.func73, Tryz.ntmps73
 go_wp2_with fail
 go_loop [3, 4] (fun x i => ∃ (k : Nat) (m : Int), 1 <= k /\ k <= zs.length /\ i = .int .i64 k /\ x = .int .i64 m /\ Hid (m ∈ zs)) (fun _ i => zs.length - (intOf i).toNat)
 case atStart => exact ⟨1, z0, Z1 _, h0, rfl, rfl, yH.out⟩
 case round =>
  obtain ⟨k, m, lO, hk, rfl, rfl, HM⟩ := hrel
  by_cases pB : k < zs.length
  ·have c1 := HC.out k pB
   have yI := Z0 (Z4 pB)
   clear HC
   generalize zs[k] = zk at c1 yI
   have d4 : decide ((k : Int) < (zs.length : Int)) = true := Kac (by omega)
   have tZ : Hid (min m zk ∈ zs) := by
    show min m zk ∈ zs
    rcases Int.le_total m zk with h | h
    ·rw [Int.min_eq_left h]; exact HM.out
    ·rw [Int.min_eq_right h]; exact yI.out
   go_wp2_with fail
   go_round
   case rel => exact ⟨k + 1, min m zk, by omega, by omega, by go_num, rfl, tZ.out⟩
   case measure => simp [intOf]; omega
  ·obtain rfl : k = zs.length := by omega
   go_wp2_with fail
   go_ret
   exact ⟨m, HM.out, rfl, rfl⟩
theorem ZeP (s : Stp) (g : Int) (X : Nat) (v : Value) (w : World) (hv : ∃ a n c, v = .slice a n c) (hX : w.cell? ⟨X, 0, none⟩ = some (.int .i64 g)) (vP : X < w.1.size) :
 Calls Tryz.prog 111 #[.agg #[.int .i64 s.grams, v], .pointer (some ⟨X, 0, none⟩)] w fun e w' => e = .returned (.bool (decide (g <= s.grams))) /\ Below w.1.size w w' := by
 obtain ⟨a, n, c, rfl⟩ := hv
 have HB := Z0 ((Z9 _ w).alloc (Z1 _) (.cells #[.int .i64 s.grams, .slice a n c] 95))
 go_enter Tryz.func111, Tryz.ntmps111
 go_wp2_with fail
 go_ret
 exact ⟨rfl, HB.out⟩
theorem Zjk (g : Int) (X : Nat) (xs : List Stp) (v : Value) (w : World) (hr : Z3j w v xs) (hX : w.cell? ⟨X, 0, none⟩ = some (.int .i64 g)) (vP : X < w.1.size) (hl : xs.length <= 1000000) :
 Calls Tryz.prog 112 #[v, .func (Fn.func 111) #[] #[.pointer (some ⟨X, 0, none⟩)]] w fun e w' => e = .returned (.int .i64 (stepOf xs g)) /\ Below w.1.size w w' := by
 obtain ⟨a, cap, rfl, hc⟩ := hr
 have HC := Z0 hc
 have HX := Z0 hX
 have yJ := Z0 vP
 clear hc hX vP
 go_enter Tryz.func112, Tryz.ntmps112
 go_wp2_with fail
 go_loopw [8] (fun i wx => ∃ q : Nat, q <= xs.length /\ i = .int .i64 q /\ Below w.1.size w wx /\ ∀ i (hi : i < xs.length), i < q -> decide (g <= xs[i].grams) = false) (fun i _ => xs.length - (intOf i).toNat)
 case atStart => exact ⟨0, ZE _, rfl, Z9 _ _, fun i _ h => absurd h (Ka2 _)⟩
 case round =>
  obtain ⟨q, hq, rfl, hB, yK⟩ := hrel
  have vQ := Z0 yK
  have HB := Z0 hB
  clear yK
  by_cases pB : q < xs.length
  ·obtain ⟨gx, off, rfl, hg, pC⟩ := HC.out (by omega)
   obtain ⟨s, hs, pN⟩ := pC q pB
   have vR := fun h => ZiE (f := fun s : Stp => decide (g <= s.grams)) pB h (fun i hi yL => vQ.out i hi yL)
   obtain ⟨b, hb⟩ : ∃ b, b = xs[q] := ⟨_, rfl⟩
   have kN := Z0 hb
   rw [<- hb] at hs pN vR
   obtain ⟨asx, csx, rfl, _⟩ := hs
   have f0 : wr.cell? ⟨gx, off + q * 2, none⟩ = some (.int .i64 b.grams) := (hB.cell (p := ⟨gx, off + q * 2, none⟩) hg).trans (pN 0 _ rfl)
   have f1 : wr.cell? ⟨gx, off + q * 2 + 1, none⟩ = some (.slice asx b.cents.length csx) := (hB.cell (p := ⟨gx, off + q * 2 + 1, none⟩) hg).trans (pN 1 _ rfl)
   have yM := ZeP b g X (.slice asx b.cents.length csx) wr ⟨_, _, _, rfl⟩ ((hB.cell (p := ⟨X, 0, none⟩) yJ.out).trans HX.out) (ZH yJ.out hB.size)
   have uA := Z0 yM
   have HY := Z0 vR
   clear yM vR pN pC hb
   cases uB : decide (g <= b.grams)
   ·rw [uB] at uA
    go_wp2_with (go_at_call 111; refine uA.out.mono ?_; rintro e w2 ⟨rfl, pD⟩)
    go_roundw
    case rel =>
     refine ⟨q + 1, by omega, by go_num, Z01 HB.out HB.out.size pD, fun i hi yL => ?_⟩
     by_cases e : i = q
     ·subst e; rw [<- kN.out]; exact uB
     ·exact vQ.out i hi (by omega)
    case measure => simp [intOf]; omega
   ·rw [uB] at uA
    have hy := HY.out uB
    have kO := Z0 hy
    clear hy
    go_wp2_with (go_at_call 111; refine uA.out.mono ?_; rintro e w2 ⟨rfl, pD⟩)
    go_ret
    unfold stepOf
    rw [kO.out]
    exact ⟨rfl, Z01 HB.out HB.out.size pD⟩
  ·have hn := ZcP (f := fun s : Stp => decide (g <= s.grams)) (l := xs) (fun i hi => vQ.out i hi (by omega))
   have HN := Z0 hn
   clear hn
   go_wp2_with fail
   go_ret
   unfold stepOf
   rw [HN.out]
   exact ⟨rfl, HB.out⟩
theorem Zf8 {zn : Nat} {r : Rat} (hr : RatOk zn r) (v : Value) (z g : Int) (w : World) (hv : Z3j w v r.steps) (hz : 1 <= z /\ z <= zn) (lP : zn <= 20) :
 Calls Tryz.prog 75 #[.agg #[.int .u8 r.cls, v, .int .i64 r.bar], .int .i64 z, .int .i64 g] w fun e w' => e = .returned (.tuple #[.int .i64 (Z4B r z g).1, .int .i64 (Z4B r z g).2]) /\ Below w.1.size w w' := by
 obtain ⟨m, rfl⟩ : ∃ m : Nat, z = (m + 1 : Nat) := ⟨(z - 1).toNat, by omega⟩
 have hm : m < zn := by omega
 have uC : Hid (∀ W X, Z3j W v r.steps -> W.cell? ⟨X, 0, none⟩ = some (.int .i64 g) -> X < W.1.size -> Calls Tryz.prog 112 #[v, .func (Fn.func 111) #[] #[.pointer (some ⟨X, 0, none⟩)]] W fun e w' => e = .returned (.int .i64 (stepOf r.steps g)) /\ Below W.1.size W w') :=
  fun W X h1 h2 h3 => Zjk g X r.steps v W h1 h2 h3 (by have := hr.some_; omega)
 have yN := Z0 hv
 have hs := hr.some_
 have yO := Z0 hr.cents
 have uD := Zav (fun s : Stp => decide (g <= s.grams)) r.steps
 have hex : ∃ P, P = Z4B r ((m + 1 : Nat) : Int) g := ⟨_, rfl⟩
 obtain ⟨P, hP⟩ := hex
 rw [<- hP]
 have rT : P = if stepOf r.steps g < 0 then (0, 3) else (Z63 (r.steps.getD (stepOf r.steps g).toNat ⟨0, []⟩) ((m + 1 : Nat) : Int), 0) := hP
 have pF : stepOf r.steps g = ixF (fun s : Stp => decide (g <= s.grams)) r.steps := rfl
 clear hr hP
 have pW : Below w.1.size w ((w.alloc (.cells #[.int .u8 r.cls, v, .int .i64 r.bar] 60)).alloc (.cells #[.int .i64 g] 3)) := ((Z9 _ w).alloc (Z1 _) _).alloc (by simp) _
 have pK := Z0 pW
 obtain ⟨a, ca, rfl, pC⟩ := hv
 have HC := Z0 pC
 clear pW pC
 rcases uD with ⟨h1, _⟩ | ⟨q, hq, h1, _⟩
 ·rw [<- pF] at h1
  rw [h1] at uC rT
  have uE : P = (0, 3) := rT
  clear rT pF h1 HC
  go_enter Tryz.func75, Tryz.ntmps75
  go_wp2_with (go_at_call 112; refine (uC.out _ _ (yN.out.below pK.out) (by simp [go_sem]) (by simp)).mono ?_; rintro e w2 ⟨rfl, pD⟩)
  go_ret2
  rw [uE]
  exact ⟨rfl, pK.out.trans (pD.mono pK.out.size)⟩
 ·rw [<- pF] at h1
  rw [h1] at uC rT
  obtain ⟨gx, off, rfl, hg, pN⟩ := HC.out (by omega)
  obtain ⟨sv, hsv, uD⟩ := pN q hq
  obtain ⟨q1, _⟩ := yO.out _ (Z4 hq)
  obtain ⟨ax, cx, rfl, yP⟩ := hsv
  have rG : m < r.steps[q].cents.length := by omega
  obtain ⟨gc, oc, rfl, kP, pC⟩ := yP (Nat.lt_of_le_of_lt (ZE _) rG)
  have x1 := uD 1 _ rfl
  have x2 : w.cell? ⟨gc, oc + m, none⟩ = some (.int .i64 (r.steps[q].cents[m]'rG)) := pC m rG
  have uE : P = (r.steps[q].cents[m]'rG, 0) := by
   rw [rT, if_neg (by omega), Kar, Z2, Z3 hq]
   unfold Z63
   rw [show (((m + 1 : Nat) : Int) - 1).toNat = m by omega, Z2, Kcu, Z3 rG]
   rfl
  clear rT pF h1 HC pN uD yP pC yO
  obtain ⟨ce, yQ⟩ : ∃ ce, ce = r.steps[q].cents[m]'rG := ⟨_, rfl⟩
  rw [<- yQ] at x2 uE
  have x1' : w.cell? ⟨gx, off + q * 2 + 1, none⟩ = some (.slice (some ⟨gc, oc, none⟩) zn cx) := by rw [<- q1]; exact x1
  clear yQ x1 q1 rG
  have wV : q < r.steps.length := hq
  have jB : IntKind.i64.wrap (((m + 1 : Nat) : Int) - 1) = (m : Int) := by rw [IntWalk.i64_in _ (by omega)]; omega
  go_enter Tryz.func75, Tryz.ntmps75
  go_wp2_with (go_at_call 112; refine (uC.out _ _ (yN.out.below pK.out) (by simp [go_sem]) (by simp)).mono ?_; rintro e w2 ⟨rfl, pD⟩; obtain ⟨k1, k2, k3, k4⟩ := Z4r pD; have y1 := Kaa _ _ 1 _ _ _ k1; have y2 := (k4.cell (p := ⟨gx, off + q * 2 + 1, none⟩) hg).trans x1'; have y3 := (k4.cell (p := ⟨gc, oc + m, none⟩) kP).trans x2; have kQ := Z0 k4; clear pD k1 k2 k4)
  go_ret2
  rw [uE]
  exact ⟨rfl, kQ.out⟩
theorem ZaP {l : List Rat} (ha : l.Pairwise (fun a b => a.cls ≠ b.cls)) {k j : Nat} (hk : k < l.length) (hj : j < l.length) (h : l[k].cls = l[j].cls) : k = j := by
 rcases Nat.lt_trichotomy k j with e | e | e
 ·exact absurd h (Kb1.1 ha k j hk hj e)
 ·exact e
 ·exact absurd h.symm (Kb1.1 ha j k hj hk e)
theorem results_cell_tmp {fn : Func} {p u : Tmp} {ty : TypeId} (h : fn.results = #[.cell p ty, .tmp u]) (tmps : Array Value) (w : World) (g : Nat) (x : Value)
 (hp : tmps.getD p undef = .pointer (some ⟨g, 0, none⟩)) (hL : (loadVar ty ⟨g, 0, none⟩).run Tryz.prog w = .ok x w) : (results fn tmps).run Tryz.prog w = .ok (.tuple #[x, tmps.getD u undef]) w := by
 have hp' : tmps[p]?.getD undef = .pointer (some ⟨g, 0, none⟩) := by simpa using hp
 simp [results, h, hp', asAddr, hL, Result.andThen]
theorem Zh5 {w : World} {g : Nat} {a b c a' b' c' : Value} {t : TypeId} {fr : Nat × Nat} (h : w.1[g]? = some (.cells #[a, b, c] t fr)) :
 (((w.setCell ⟨g, 0, none⟩ a').setCell ⟨g, 1, none⟩ b').setCell ⟨g, 2, none⟩ c').1[g]? = some (.cells #[a', b', c'] t fr) := by
 simp [World.setCell, Kap, h]
theorem Z3M {B : Nat} {w w' : World} {g : Nat} {a b c : Value} (h : Below B w w') (hg : B <= g) : Below B w (((w'.setCell ⟨g, 0, none⟩ a).setCell ⟨g, 1, none⟩ b).setCell ⟨g, 2, none⟩ c) :=
 ((h.setCell (p := ⟨g, 0, none⟩) hg _).setCell (p := ⟨g, 1, none⟩) hg _).setCell (p := ⟨g, 2, none⟩) hg _
theorem Z03 {w : World} {g j : Nat} {cs : Array Value} {t : TypeId} (h : w.1[g]? = some (.cells cs t (0, 0))) : w.frozen? ⟨g, j, none⟩ = false := by simp [World.frozen?, h]
def Zka (r : Rat) (sv : Value) : Value := .agg #[.int .u8 r.cls, sv, .int .i64 r.bar]
theorem Z8b {T : Tar} {vr vz : Value} (c : Int) (w : World) (h : RdTar w vr vz T) (hl : T.rates.length <= 20) {q : Nat} (hq : q < T.rates.length) (hc : T.rates[q].cls = c) (hn : ∀ i (hi : i < T.rates.length), i < q -> T.rates[i].cls ≠ c) :
 Calls Tryz.prog 36 #[.agg #[vr, vz], .int .u8 c] w fun e w' => ∃ sv, e = .returned (.tuple #[Zka T.rates[q] sv, .bool true]) /\ Below w.1.size w w' /\ Z3j w' sv T.rates[q].steps := by
 obtain ⟨a, ca, rfl, pC⟩ := h.r
 obtain ⟨az, cz, rfl, _⟩ := h.z
 obtain ⟨g, off, rfl, hg, pF⟩ := pC (by omega)
 have rH := Z0 pF
 have HN := Z0 hn
 have HC := Z0 hc
 clear h pC pF hn hc
 have pW : Below w.1.size w ((w.alloc (.cells #[.slice (some ⟨g, off, none⟩) T.rates.length ca, .slice az T.zones.length cz] 29)).alloc (.cells #[.int .u8 0, .slice none 0 0, .int .i64 0] 60)) := ((Z9 _ w).alloc (Z1 _) _).alloc (by simp) _
 obtain ⟨t1, t2, t3, t4⟩ := Z25 (w := w) (A := .cells #[.slice (some ⟨g, off, none⟩) T.rates.length ca, .slice az T.zones.length cz] 29) (B := .cells #[.int .u8 0, .slice none 0 0, .int .i64 0] 60) rfl
 have pK := Z0 pW
 have uF := Z0 t2
 have lQ := Z0 t3
 clear pW t1 t2 t3 t4
 unfold Zka
 go_enter Tryz.func36, Tryz.ntmps36
 go_wp2_with fail
 go_loopw [11] (fun i wr => ∃ k : Nat, k <= q /\ i = .int .i64 k /\ Below w.1.size w wr /\ wr.1[w.1.size + 1]? = some (.cells #[.int .u8 0, .slice none 0 0, .int .i64 0] 60 (0, 0))) (fun i _ => T.rates.length - (intOf i).toNat)
 case atStart => exact ⟨0, ZE _, rfl, pK.out, uF.out⟩
 case round =>
  obtain ⟨k, hk, rfl, hb, h1⟩ := hrel
  have pB : k < T.rates.length := by omega
  obtain ⟨sv, hsv, pT⟩ := rH.out k pB
  obtain ⟨c0, c1, c2⟩ := pT.below hb hg
  have pE : g < wr.1.size := by have := hb.size; omega
  have pU := (Z5.1 h1).1
  have d4 : decide ((k : Int) < (T.rates.length : Int)) = true := Kac (by omega)
  have rU := Z0 hsv
  obtain ⟨sa, sc, rfl, _⟩ := hsv
  have HB := Z0 hb
  have H1 := Z0 h1
  by_cases e : k = q
  ·subst e
   have qG := HC.out
   clear pT rH HN HC hb h1
   generalize kR : T.rates[k] = r at c0 c1 c2 rU qG ⊢
   have d5 : (r.cls == c) = true := by rw [qG]; simp
   have z0 := Kaa _ _ 0 _ _ _ H1.out
   have z1 := Kaa _ _ 1 _ _ _ H1.out
   have z2 := Kaa _ _ 2 _ _ _ H1.out
   have y0 := Z03 (j := 0) H1.out
   have y1 := Z03 (j := 1) H1.out
   have y2 := Z03 (j := 2) H1.out
   go_wp2_with fail
   refine bodyPost_ret (results_cell_tmp rfl _ _ (w.1.size + 1) _ rfl (run_loadVar_row _ _ _ _ _ _ _ ((ZB _ _ _ (by simp [World.setCell]; omega)).trans (Zh5 H1.out)) Tryz.underlying60 rfl (by kernel_rfl))) rfl ?_
   have HF := (Z3M (g := w.1.size + 1) (a := .int .u8 c) (b := .slice sa r.steps.length sc) (c := .int .i64 r.bar) HB.out (Kbd w.1.size)).alloc (by simp [World.setCell]; omega) (.cells #[.int .u8 c, .slice sa r.steps.length sc, .int .i64 r.bar] 60)
   exact ⟨_, rfl, HF, rU.out.below HF⟩
  ·have pQ := HN.out k pB (by omega)
   clear pT rH HN HC hb h1
   generalize T.rates[k] = r at c0 c1 c2 rU pQ
   have d5 : (r.cls == c) = false := by rw [beq_eq_false_iff_ne]; exact pQ
   go_wp2_with fail
   go_roundw
   case rel => exact ⟨k + 1, by omega, by go_num, HB.out.alloc HB.out.size _, (ZB _ _ _ pU).trans H1.out⟩
   case measure => simp [intOf]; omega
theorem ZaV {T : Tar} {vr vz : Value} (c : Int) (w : World) (h : RdTar w vr vz T) (hl : T.rates.length <= 20) {q : Nat} (hq : q < T.rates.length) (hc : T.rates[q].cls = c) (hn : ∀ i (hi : i < T.rates.length), i < q -> T.rates[i].cls ≠ c) :
 Calls Tryz.prog 66 #[.agg #[vr, vz], .int .u8 c] w fun e w' => e = .returned (.int .i64 T.rates[q].bar) /\ Below w.1.size w w' := by
 obtain ⟨a, ca, rfl, pC⟩ := h.r
 obtain ⟨az, cz, rfl, _⟩ := h.z
 obtain ⟨g, off, rfl, hg, pF⟩ := pC (by omega)
 have rH := Z0 pF
 have HN := Z0 hn
 have HC := Z0 hc
 clear h pC pF hn hc
 have pK := Z0 ((Z9 _ w).alloc (Z1 _) (.cells #[.slice (some ⟨g, off, none⟩) T.rates.length ca, .slice az T.zones.length cz] 29))
 go_enter Tryz.func66, Tryz.ntmps66
 go_wp2_with fail
 go_loopw [10] (fun i wr => ∃ k : Nat, k <= q /\ i = .int .i64 k /\ Below w.1.size w wr) (fun i _ => T.rates.length - (intOf i).toNat)
 case atStart => exact ⟨0, ZE _, rfl, pK.out⟩
 case round =>
  obtain ⟨k, hk, rfl, hb⟩ := hrel
  have pB : k < T.rates.length := by omega
  obtain ⟨sv, hsv, pT⟩ := rH.out k pB
  obtain ⟨c0, c1, c2⟩ := pT.below hb hg
  have pE : g < wr.1.size := by have := hb.size; omega
  have d4 : decide ((k : Int) < (T.rates.length : Int)) = true := Kac (by omega)
  obtain ⟨sa, sc, rfl, _⟩ := hsv
  have HB := Z0 hb
  by_cases e : k = q
  ·subst e
   have qG := HC.out
   clear pT rH HN HC hb
   generalize kR : T.rates[k] = r at c0 c1 c2 qG ⊢
   have d5 : (r.cls == c) = true := by rw [qG]; simp
   go_wp2_with fail
   go_ret
   exact ⟨rfl, HB.out.alloc HB.out.size _⟩
  ·have pQ := HN.out k pB (by omega)
   clear pT rH HN HC hb
   generalize T.rates[k] = r at c0 c1 c2 pQ
   have d5 : (r.cls == c) = false := by rw [beq_eq_false_iff_ne]; exact pQ
   go_wp2_with fail
   go_roundw
   case rel => exact ⟨k + 1, by omega, by go_num, HB.out.alloc HB.out.size _⟩
   case measure => simp [intOf]; omega
theorem Z8d (s p : ByteArray) (w : World) : Calls Tryz.prog 113 #[.string s, .string p] w fun e w' => e = .returned (.bool (Z69 p s)) /\ w' = w := Tryz.strings_HasPrefix s p w
theorem Z6x {fr till : ByteArray} {b r : Zn} (h : (Z69 r.fr fr && Z69 r.till till) = false) : Z1J fr till b r = b := by unfold Z1J; rw [h]; rfl
theorem Z2t {fr till : ByteArray} {b r : Zn} (h : Z69 r.fr fr = true) (h' : Z69 r.till till = true) (hc : b.zone = 0 \/ b.fr.size < r.fr.size \/ (r.fr.size = b.fr.size /\ b.till.size < r.till.size)) : Z1J fr till b r = r := by
 unfold Z1J; rw [h, h', Bool.and_self, if_pos rfl, if_pos hc]
theorem Z4n {fr till : ByteArray} {b r : Zn} (hc : ¬ (b.zone = 0 \/ b.fr.size < r.fr.size \/ (r.fr.size = b.fr.size /\ b.till.size < r.till.size))) : Z1J fr till b r = b := by
 unfold Z1J
 by_cases h : (Z69 r.fr fr && Z69 r.till till) = true
 ·rw [if_pos h, if_neg hc]
 ·rw [if_neg h]
def znO (z : Zn) : Obj := .cells #[.string z.fr, .string z.till, .int .i64 z.zone] 93
theorem Zdf (l : List Zn) (v : Value) (fr till : ByteArray) (w : World) (hv : RdZones w v l) (hl : l.length <= 500) (sH : ∀ r ∈ l, r.fr.size <= 1000 /\ r.till.size <= 1000) :
 Calls Tryz.prog 76 #[v, .string fr, .string till] w fun e w' => e = .returned (.int .i64 (Z5c l fr till)) /\ Below w.1.size w w' := by
 obtain ⟨a, ca, rfl, pC⟩ := hv
 have HC := Z0 pC
 have yR := Z0 sH
 have vS := Z0 ((Z9 _ w).alloc (Z1 _) (.cells #[.string ⟨#[]⟩, .string ⟨#[]⟩, .int .i64 0] 93))
 clear pC sH
 unfold Z5c
 go_enter Tryz.func76, Tryz.ntmps76
 go_wp2_with fail
 go_loopw [14] (fun i wr => ∃ (k : Nat) (b : Zn), k <= l.length /\ i = .int .i64 k /\ Below w.1.size w wr /\ wr.1[w.1.size]? = some (znO b) /\ Hid (b = Z2N l fr till k) /\ b.fr.size <= 1000 /\ b.till.size <= 1000) (fun i _ => l.length - (intOf i).toNat)
 case atStart => exact ⟨0, ZkY, ZE _, rfl, vS.out, Z02 w _, rfl, ZE _, ZE _⟩
 case round =>
  obtain ⟨k, b, hk, rfl, hb, h1, qR, b1, b2⟩ := hrel
  have pU := (Z5.1 h1).1
  have HB := Z0 hb
  have H1 := Z0 h1
  unfold znO at h1
  have z0 := Kaa _ _ 0 _ _ _ h1
  have z1 := Kaa _ _ 1 _ _ _ h1
  have z2 := Kaa _ _ 2 _ _ _ h1
  by_cases pB : k < l.length
  ·obtain ⟨g, off, rfl, hg, pF⟩ := HC.out (by omega)
   obtain ⟨c0, c1, c2⟩ := (pF k pB).below hb hg
   have pE : g < wr.1.size := by have := hb.size; omega
   have d4 : decide ((k : Int) < (l.length : Int)) = true := Kac (by omega)
   have pZ := Z0 (Z6w l fr till k pB)
   obtain ⟨r1, r2⟩ := yR.out _ (Z4 pB)
   have y0 := Z03 (j := 0) h1
   have y1 := Z03 (j := 1) h1
   have y2 := Z03 (j := 2) h1
   have H1' := Z0 h1
   clear pF HC yR hb h1
   generalize l[k] = r at c0 c1 c2 pZ r1 r2
   have qJ := Z0 (fun W => Z8d fr r.fr W)
   have pV := Z0 (fun W => Z8d till r.till W)
   cases rI : Z69 r.fr fr
   ·rw [rI] at qJ
    go_wp2_with (first | (go_at_call 113; refine (pV.out _).mono ?_; rintro e w3 ⟨rfl, rfl⟩) | (go_at_call 113; refine (qJ.out _).mono ?_; rintro e w2 ⟨rfl, rfl⟩))
    go_roundw
    case rel => exact ⟨k + 1, b, by omega, by go_num, HB.out.alloc HB.out.size _, (ZB _ _ _ pU).trans H1.out, (by show b = _; rw [pZ.out, <- qR.out]; exact (Z6x (by rw [rI]; rfl)).symm), b1, b2⟩
    case measure => simp [intOf]; omega
   ·rw [rI] at qJ
    cases rV : Z69 r.till till
    ·rw [rV] at pV
     go_wp2_with (first | (go_at_call 113; refine (pV.out _).mono ?_; rintro e w3 ⟨rfl, rfl⟩) | (go_at_call 113; refine (qJ.out _).mono ?_; rintro e w2 ⟨rfl, rfl⟩))
     go_roundw
     case rel => exact ⟨k + 1, b, by omega, by go_num, HB.out.alloc HB.out.size _, (ZB _ _ _ pU).trans H1.out, (by show b = _; rw [pZ.out, <- qR.out]; exact (Z6x (by rw [rI, rV]; rfl)).symm), b1, b2⟩
     case measure => simp [intOf]; omega
    ·rw [rV] at pV
     by_cases e1 : b.zone = 0
     ·have d1 : (b.zone == 0) = true := by rw [e1]; rfl
      go_wp2_with (first | (go_at_call 113; refine (pV.out _).mono ?_; rintro e w3 ⟨rfl, rfl⟩) | (go_at_call 113; refine (qJ.out _).mono ?_; rintro e w2 ⟨rfl, rfl⟩))
      go_roundw
      case rel => exact ⟨k + 1, r, by omega, by go_num, (Z3M HB.out (Z1 _)).alloc (by simp [World.setCell]; exact HB.out.size) _, (ZB _ _ _ (by simp [World.setCell]; exact pU)).trans (Zh5 H1'.out), (by show r = _; rw [pZ.out, <- qR.out]; exact (Z2t rI rV (.inl e1)).symm), r1, r2⟩
      case measure => simp [intOf]; omega
     ·have d1 : (b.zone == 0) = false := by rw [beq_eq_false_iff_ne]; exact e1
      by_cases e2 : b.fr.size < r.fr.size
      ·have d2 : decide ((b.fr.size : Int) < (r.fr.size : Int)) = true := Kac (by omega)
       go_wp2_with (first | (go_at_call 113; refine (pV.out _).mono ?_; rintro e w3 ⟨rfl, rfl⟩) | (go_at_call 113; refine (qJ.out _).mono ?_; rintro e w2 ⟨rfl, rfl⟩))
       go_roundw
       case rel => exact ⟨k + 1, r, by omega, by go_num, (Z3M HB.out (Z1 _)).alloc (by simp [World.setCell]; exact HB.out.size) _, (ZB _ _ _ (by simp [World.setCell]; exact pU)).trans (Zh5 H1'.out), (by show r = _; rw [pZ.out, <- qR.out]; exact (Z2t rI rV (.inr (.inl e2))).symm), r1, r2⟩
       case measure => simp [intOf]; omega
      ·have d2 : decide ((b.fr.size : Int) < (r.fr.size : Int)) = false := Kad (by omega)
       by_cases e3 : r.fr.size = b.fr.size
       ·have d3 : ((r.fr.size : Int) == (b.fr.size : Int)) = true := by rw [e3]; simp
        by_cases e5 : b.till.size < r.till.size
        ·have d5 : decide ((b.till.size : Int) < (r.till.size : Int)) = true := Kac (by omega)
         go_wp2_with (first | (go_at_call 113; refine (pV.out _).mono ?_; rintro e w3 ⟨rfl, rfl⟩) | (go_at_call 113; refine (qJ.out _).mono ?_; rintro e w2 ⟨rfl, rfl⟩))
         go_roundw
         case rel => exact ⟨k + 1, r, by omega, by go_num, (Z3M HB.out (Z1 _)).alloc (by simp [World.setCell]; exact HB.out.size) _, (ZB _ _ _ (by simp [World.setCell]; exact pU)).trans (Zh5 H1'.out), (by show r = _; rw [pZ.out, <- qR.out]; exact (Z2t rI rV (.inr (.inr ⟨e3, e5⟩))).symm), r1, r2⟩
         case measure => simp [intOf]; omega
        ·have d5 : decide ((b.till.size : Int) < (r.till.size : Int)) = false := Kad (by omega)
         go_wp2_with (first | (go_at_call 113; refine (pV.out _).mono ?_; rintro e w3 ⟨rfl, rfl⟩) | (go_at_call 113; refine (qJ.out _).mono ?_; rintro e w2 ⟨rfl, rfl⟩))
         go_roundw
         case rel => exact ⟨k + 1, b, by omega, by go_num, HB.out.alloc HB.out.size _, (ZB _ _ _ pU).trans H1.out, (by show b = _; rw [pZ.out, <- qR.out]; exact (Z4n (by omega)).symm), b1, b2⟩
         case measure => simp [intOf]; omega
       ·have d3 : ((r.fr.size : Int) == (b.fr.size : Int)) = false := by rw [beq_eq_false_iff_ne]; omega
        go_wp2_with (first | (go_at_call 113; refine (pV.out _).mono ?_; rintro e w3 ⟨rfl, rfl⟩) | (go_at_call 113; refine (qJ.out _).mono ?_; rintro e w2 ⟨rfl, rfl⟩))
        go_roundw
        case rel => exact ⟨k + 1, b, by omega, by go_num, HB.out.alloc HB.out.size _, (ZB _ _ _ pU).trans H1.out, (by show b = _; rw [pZ.out, <- qR.out]; exact (Z4n (by omega)).symm), b1, b2⟩
        case measure => simp [intOf]; omega
  ·obtain rfl : k = l.length := by omega
   go_wp2_with fail
   go_ret
   rw [<- qR.out]
   exact ⟨rfl, hb⟩
theorem ZhX {z : Nat} {T : Tar} (hT : TarOk z T) {lo hb hc : Int} {ls : List Lev} (hF : FitT lo hb hc T ls) {vr vz v : Value} (w : World) (h : RdTar w vr vz T) (hr : RdLevs w v ls) (hf : ∀ l ∈ ls, Z0K l) (rJ : Z0g ls = true) :
 Calls Tryz.prog 33 #[.agg #[vr, vz], v] w fun e w' => e = .returned (.bool true) /\ Below w.1.size w w' := by
 have tT := Z0y rJ
 have sQ := Z0 (fun W (hW : Below w.1.size w W) => Z80 hT W (h.below hW))
 have vT := Z0 (fun W (hW : Below w.1.size w W) => Z1X ls v W (hr.below hW) hf (by have := tT; unfold maxLen; omega))
 rw [rJ] at vT
 have HT := Z0 hT
 obtain ⟨lo0, lo1, yS, kS⟩ := hF.num
 have yT := Z0 hF.cents
 have yU := Z0 hF.bar
 have rW := Z0 hF.lev
 have lR := hT.rates
 have lS := hT.zn
 obtain ⟨a, ca, rfl, pC⟩ := h.r
 obtain ⟨az, cz, rfl, _⟩ := h.z
 have HC := Z0 pC
 obtain ⟨al, cl, rfl, qS⟩ := hr
 have rX := Z0 qS
 have vS := Z0 ((Z9 _ w).alloc (Z1 _) (.cells #[.slice a T.rates.length ca, .slice az T.zones.length cz] 29))
 clear pC qS h hT hF rJ hf
 go_enter Tryz.func33, Tryz.ntmps33
 go_wp2_with (first
  | (go_at_call 72; refine (sQ.out _ vS.out).mono ?_; rintro e w1 ⟨rfl, pA⟩; obtain ⟨k1, k2, k3⟩ := Z4N pA; clear pA)
  | (go_at_call 39; refine (vT.out _ k3).mono ?_; rintro e w2 ⟨rfl, pD⟩; have j1 := (pD.block _ (by omega)).trans k1; have j3 := Z01 k3 k3.size pD; have j2 := Kaw k2 pD.size; clear pD k1 k2 k3))
 have rK := Z0 j1
 have rL := Z0 j3
 have qT := Z0 j2
 clear j1 j2 j3 sQ vT
 go_loopw [5, 23] (fun x i wr => ∃ (k : Nat) (m : Int), k <= ls.length /\ i = .int .i64 k /\ x = .int .i64 m /\ 0 <= m /\ m <= hc /\ Below w.1.size w wr /\ wr.1[w.1.size]? = some (.cells #[.slice a T.rates.length ca, .slice az T.zones.length cz] 29 (0, 0))) (fun _ i _ => ls.length - (intOf i).toNat)
 case atStart => exact ⟨0, 0, ZE _, rfl, rfl, Kbi _, yS, rL.out, rK.out⟩
 case round =>
  obtain ⟨k, m, hk, rfl, rfl, m0, m1, pA, sR⟩ := hrel
  have HB := Z0 pA
  have yV := Z0 sR
  have pU := (Z5.1 sR).1
  by_cases pB : k < ls.length
  ·obtain ⟨g, off, rfl, hg, pF⟩ := rX.out (by omega)
   obtain ⟨sv, kT, pT⟩ := pF k pB
   obtain ⟨t0, t1, t2, t3, t4⟩ := pT
   have s0 := (pA.cell (p := ⟨g, off + k * 5, none⟩) hg).trans t0
   have s1 := (pA.cell (p := ⟨g, off + k * 5 + 1, none⟩) hg).trans t1
   have s2 := (pA.cell (p := ⟨g, off + k * 5 + 2, none⟩) hg).trans t2
   have s3 := (pA.cell (p := ⟨g, off + k * 5 + 3, none⟩) hg).trans t3
   have s4 := (pA.cell (p := ⟨g, off + k * 5 + 4, none⟩) hg).trans t4
   have pE : g < wr.1.size := by have := pA.size; omega
   obtain ⟨q1, q2⟩ := rW.out _ (Z4 pB)
   have d4 : decide ((k : Int) < (ls.length : Int)) = true := Kac (by omega)
   obtain ⟨sa, sc, rfl, _⟩ := kT
   clear t0 t1 t2 t3 t4 pF rX rW pA sR
   generalize ls[k] = l at s0 s1 s2 s3 s4 q1 q2
   have yW : 0 <= max m l.cents /\ max m l.cents <= hc := ⟨Kde m0 (Int.le_max_left _ _), by omega⟩
   have yX := Z0 yW
   clear yW
   go_wp2_with fail
   go_roundw
   case rel => exact ⟨k + 1, max m l.cents, by omega, by go_num, rfl, yX.out.1, yX.out.2, HB.out.alloc HB.out.size _, (ZB _ _ _ pU).trans yV.out⟩
   case measure => simp [intOf]; omega
  ·obtain rfl : k = ls.length := by omega
   have x0 := Kaa _ _ 0 _ _ _ sR
   clear rX rW pA sR rK rL qT
   go_wp2_with fail
   go_loopw [35] (fun i wq => ∃ n : Nat, n <= T.rates.length /\ i = .int .i64 n /\ Below w.1.size w wq) (fun i _ => T.rates.length - (intOf i).toNat)
   case atStart => exact ⟨0, ZE _, rfl, HB.out⟩
   case round =>
    clear HB yV pU x0
    obtain ⟨n, hn, rfl, pD⟩ := hrel
    have HB := Z0 pD
    by_cases uG : n < T.rates.length
    ·obtain ⟨g, off, rfl, hg, pF⟩ := HC.out (by omega)
     obtain ⟨sv, hsv, pT⟩ := pF n uG
     obtain ⟨c0, c1, c2⟩ := pT.below pD hg
     have pE : g < wr.1.size := by have := pD.size; omega
     have d4 : decide ((n : Int) < (T.rates.length : Int)) = true := Kac (by omega)
     obtain ⟨_, _, pI⟩ := HT.out.rate _ (Z4 uG)
     have vU := pI.bar
     have sG := pI.some_
     have rY := fun s hs => (pI.cents s hs).1
     have rZ := Z0 rY
     have sE := Z0 (fun s hs c qZ => ((pI.cents s hs).2 c qZ).2)
     have kU := yU.out _ (Z4 uG)
     have uH := Z0 (yT.out _ (Z4 uG))
     obtain ⟨sa, sc, rfl, yY⟩ := hsv
     have uI := Z0 yY
     clear pF pT HC yU yT pI rY yY pD
     generalize T.rates[n] = r at c0 c1 c2 vU sG rZ sE kU uH uI
     go_wp2_with fail
     go_loopw [10, 42] (fun x i wq => ∃ (j : Nat) (y : Int), j <= r.steps.length /\ i = .int .i64 j /\ x = .int .i64 y /\ lo <= y /\ y <= 1000000 /\ Below w.1.size w wq /\ wq.1[wr.1.size]? = some (.cells #[.int .u8 r.cls, .slice sa r.steps.length sc, .int .i64 r.bar] 60 (0, 0))) (fun _ i _ => r.steps.length - (intOf i).toNat)
     case atStart => exact ⟨0, 1000000, ZE _, rfl, rfl, by omega, by omega, HB.out.alloc HB.out.size _, Z02 _ _⟩
     case round =>
      obtain ⟨j, y, hj, rfl, rfl, y0, y1, pH, h3⟩ := hrel
      have qA := Z0 pH
      have H3 := Z0 h3
      have kV := (Z5.1 h3).1
      by_cases qU : j < r.steps.length
      ·obtain ⟨gs, os, rfl, yZ, zA⟩ := uI.out (by omega)
       obtain ⟨cv, zB, pN⟩ := zA j qU
       have f0 : wr.cell? ⟨gs, os + j * 2, none⟩ = some (.int .i64 r.steps[j].grams) := (pH.cell (p := ⟨gs, os + j * 2, none⟩) yZ).trans (pN 0 _ rfl)
       have f1 : wr.cell? ⟨gs, os + j * 2 + 1, none⟩ = some cv := (pH.cell (p := ⟨gs, os + j * 2 + 1, none⟩) yZ).trans (pN 1 _ rfl)
       have lT : gs < wr.1.size := by have := pH.size; omega
       have uJ := rZ.out _ (Z4 qU)
       have tZ : Hid (∀ W, Below w.1.size w W -> Calls Tryz.prog 73 #[cv] W fun e w' => ∃ m, m ∈ r.steps[j].cents /\ e = .returned (.int .i64 m) /\ w' = W) := fun W hW => Zjf _ _ W (zB.below hW) (by omega) (by omega)
       have zC := Z0 (uH.out _ (Z4 qU))
       have zD := Z0 (sE.out _ (Z4 qU))
       obtain ⟨ax, cx, rfl, _⟩ := zB
       have d6 : decide ((j : Int) < (r.steps.length : Int)) = true := Kac (by omega)
       clear pN zA uI rZ uH sE pH h3 uJ
       generalize r.steps[j] = st at f0 f1 tZ zC zD
       go_wp2_with (go_at_call 73; refine (tZ.out _ (qA.out.alloc qA.out.size _)).mono ?_; rintro e w5 ⟨m, hm, rfl, rfl⟩; have n1 := zC.out m hm; have n2 := zD.out m hm; have zE : Hid (lo <= min y m /\ min y m <= 1000000) := (⟨by omega, by omega⟩ : lo <= min y m /\ min y m <= 1000000); clear hm)
       go_roundw
       case rel => exact ⟨j + 1, min y m, by omega, by go_num, rfl, zE.out.1, zE.out.2, qA.out.alloc qA.out.size _, (ZB _ _ _ kV).trans H3.out⟩
       case measure => simp [intOf]; omega
      ·obtain rfl : j = r.steps.length := by omega
       have x2 := Kaa _ _ 2 _ _ _ h3
       have kW : IntKind.i64.wrap (y - r.bar) = y - r.bar := IntWalk.i64_in _ (by omega)
       have kX : IntKind.i64.wrap (y - r.bar - m) = y - r.bar - m := IntWalk.i64_in _ (by omega)
       have d7 : decide (y - r.bar - m < 0) = false := Kad (by omega)
       clear uI rZ uH sE pH h3
       go_wp2_with fail
       go_roundw
       case rel => exact ⟨n + 1, by omega, by go_num, qA.out⟩
       case measure => simp [intOf]; omega
    ·obtain rfl : n = T.rates.length := by omega
     go_wp2_with fail
     go_ret
     exact ⟨rfl, HB.out⟩
end
section
open Go.RowKit Go.Sort
theorem Zb4 {z : Nat} {T : Tar} (hT : TarOk z T) (fr till : ByteArray) : 1 <= Z5c T.zones fr till /\ Z5c T.zones fr till <= z := by
 have key : ∀ k, k <= T.zones.length -> ((Z2N T.zones fr till k).zone = 0 \/ (1 <= (Z2N T.zones fr till k).zone /\ (Z2N T.zones fr till k).zone <= z)) /\ ((∃ j, j < k /\ ∃ h : j < T.zones.length, T.zones[j].fr.size = 0 /\ T.zones[j].till.size = 0) -> (Z2N T.zones fr till k).zone ≠ 0) := fun k => by
  induction k with
  | zero => exact fun _ => ⟨.inl rfl, fun ⟨j, hj, _⟩ => absurd hj (Ka2 _)⟩
  | succ k ih =>
   intro hk
   obtain ⟨i1, i2⟩ := ih (by omega)
   have qC := (hT.row _ (Z4 (show k < T.zones.length by omega))).2.2
   rw [Z6w _ _ _ _ (by omega)]
   have pF : Z1J fr till (Z2N T.zones fr till k) (T.zones[k]'(by omega)) = Z2N T.zones fr till k \/ Z1J fr till (Z2N T.zones fr till k) (T.zones[k]'(by omega)) = T.zones[k]'(by omega) := by
    unfold Z1J
    split
    ·split
     ·exact .inr rfl
     ·exact .inl rfl
    ·exact .inl rfl
   refine ⟨?_, fun ⟨j, hj, h, h1, h2⟩ => ?_⟩
   ·rcases pF with e | e
    ·rw [e]; exact i1
    ·rw [e]; exact .inr qC
   ·by_cases ej : j = k
    ·subst ej
     by_cases e0 : (Z2N T.zones fr till j).zone = 0
     ·rw [Z2t (Za3 h1 fr) (Za3 h2 till) (.inl e0)]
      omega
     ·rcases pF with e | e
      ·rw [e]; exact e0
      ·rw [e]; omega
    ·have := i2 ⟨j, by omega, h, h1, h2⟩
     rcases pF with e | e
     ·rw [e]; exact this
     ·rw [e]; omega
 obtain ⟨r, hr, h1, h2⟩ := hT.all
 obtain ⟨j, hj, rfl⟩ := List.getElem_of_mem hr
 obtain ⟨k1, k2⟩ := key T.zones.length (Z1 _)
 have := k2 ⟨j, hj, hj, h1, h2⟩
 unfold Z5c
 omega
def Z0B (T : Tar) (r : Rat) (m : Mai) (i : Nat) : Int × Int := let p := m.ps.getD i ⟨0, 0, ⟨#[]⟩, 0, false⟩; Z4B r (Z5c T.zones m.origin p.code) p.grams
theorem ZcL {m : Mai} (h : Z2c m = true) : (1 <= m.cls /\ 1 <= m.ctr /\ m.ctr <= 3) /\ Z0G m.origin = true /\ m.ps.length <= 2000 := by
 unfold Z2c at h
 simp only [ZF, Kab] at h
 exact ⟨h.1, h.2.1, h.2.2.1⟩
theorem Z9x {w w' : World} (h : w.grownBy w' none) : Below w.1.size w w' := ⟨h.os, h.tape, h.output, h.size, fun k hk => h.block k hk (by simp)⟩
theorem ZfO : (Tryz.prog.info? 3).map (fun i => (i.zero, i.size, i.bytes)) = some (some (.int .i64 0), 1, 8) := by kernel_rfl
theorem Z9y {z : Nat} {T : Tar} (hT : TarOk z T) {vr vz vp : Value} {m : Mai} (w : World) (h : RdTar w vr vz T) (qD : RdPces w vp m.ps) (hm : Z2c m = true) (h8 : m.cls <= 255) (pO : ∀ p ∈ m.ps, p.code.size <= maxLen) {q : Nat} (hq : q < T.rates.length) (qV : T.rates[q].cls = m.cls)
 (pI : ∀ i, i < m.ps.length -> (Z0B T T.rates[q] m i).2 = 0) :
 Calls Tryz.prog 35 #[.agg #[vr, vz], Z2r m vp] w fun e w' => ∃ g, e = .returned (.tuple #[.slice (some ⟨g, 0, none⟩) m.ps.length m.ps.length, .int .i64 0]) /\ Below w.1.size w w' /\ w.1.size <= g /\
  w'.ownsRow w.1.size 3 1 (.slice (some ⟨g, 0, none⟩) m.ps.length m.ps.length) m.ps.length ((List.range m.ps.length).map (fun i => Value.int .i64 (Z0B T T.rates[q] m i).1)) := by
 obtain ⟨i0, hi⟩ := info_parts ZfO
 have HI := Z0 hi
 clear hi
 obtain ⟨m1, m2, m3⟩ := ZcL hm
 have sS : m.origin.size <= maxLen := by have := Z0w m2; unfold maxLen; omega
 have sQ := Z0 (fun W (hW : Below w.1.size w W) => Z80 hT W (h.below hW))
 have pM := Z0 (fun W (hW : Below w.1.size w W) => Z3c m vp W (qD.below hW) ⟨by omega, h8, by omega, by omega⟩ sS (by omega) pO)
 rw [hm] at pM
 have qK := Z0 (fun W (hW : Below w.1.size w W) => Z8b m.cls W (h.below hW) hT.rates.2 hq qV (fun i hi pB e => by have := ZaP hT.apart hi hq (e.trans qV.symm); omega))
 have zF : Hid (∀ W (c : ByteArray), Below w.1.size w W -> Calls Tryz.prog 76 #[vz, .string m.origin, .string c] W fun e w' => e = .returned (.int .i64 (Z5c T.zones m.origin c)) /\ Below W.1.size W w') := fun W c hW =>
  Zdf T.zones vz m.origin c W (h.z.below hW) hT.zones.2 (fun r hr => by
   obtain ⟨x1, x2, _⟩ := hT.row r hr
   constructor
   ·rcases x1 with x | x
    ·omega
    ·have := Z0w x; omega
   ·rcases x2 with x | x
    ·omega
    ·have := Z0w x; omega)
 have uK : Hid (∀ W (i : Nat) sv, Z3j W sv T.rates[q].steps -> i < m.ps.length -> Calls Tryz.prog 75 #[Zka T.rates[q] sv, .int .i64 (Z5c T.zones m.origin (m.ps.getD i ⟨0, 0, ⟨#[]⟩, 0, false⟩).code), .int .i64 (m.ps.getD i ⟨0, 0, ⟨#[]⟩, 0, false⟩).grams] W fun e w' => e = .returned (.tuple #[.int .i64 (Z0B T T.rates[q] m i).1, .int .i64 0]) /\ Below W.1.size W w') := fun W i sv hs hi => by
  have := Zf8 (hT.rate _ (Z4 hq)).2.2 sv (Z5c T.zones m.origin (m.ps.getD i ⟨0, 0, ⟨#[]⟩, 0, false⟩).code) (m.ps.getD i ⟨0, 0, ⟨#[]⟩, 0, false⟩).grams W hs (Zb4 hT _ _) hT.zn.2
  have e := pI i hi
  unfold Z0B at e ⊢
  rw [e] at this
  exact this
 obtain ⟨a, ca, rfl, _⟩ := h.r
 obtain ⟨az, cz, rfl, _⟩ := h.z
 obtain ⟨ap, cp, rfl, sT⟩ := qD
 have sU := Z0 sT
 generalize T.rates[q] = r at qK uK ⊢
 clear sT h hT hm qV pI pO m2 sS hq
 obtain ⟨t1, t2, t3, t4⟩ := Z25 (w := w) (A := .cells #[.slice a T.rates.length ca, .slice az T.zones.length cz] 29) (B := .cells #[.int .u8 m.cls, .int .u8 m.ctr, .string m.origin, .slice ap m.ps.length cp] 34) rfl
 have qW := Z0 t4
 clear t1 t2 t3 t4
 unfold Z2r at pM ⊢
 unfold Zka at qK uK
 go_enter Tryz.func35, Tryz.ntmps35
 go_wp2_with (first
  | (go_at_call 34; refine (pM.out _ k4).mono ?_; rintro e w2 ⟨rfl, pD⟩; have j1 := (pD.block _ (by omega)).trans k1; have j2 := (pD.block _ (by omega)).trans k2; have j4 := Z01 k4 k4.size pD; have j3 := Kaw k3 pD.size; clear pD k1 k2 k3 k4; have x10 := Kaa _ _ 0 _ _ _ j1; have x11 := Kaa _ _ 1 _ _ _ j1; have x20 := Kaa _ _ 0 _ _ _ j2)
  | (go_at_call 72; refine (sQ.out _ qW.out).mono ?_; rintro e w1 ⟨rfl, pA⟩; obtain ⟨k1, k2, k3, k4⟩ := Z4r pA; clear pA; have x20 := Kaa _ _ 0 _ _ _ k2; have x21 := Kaa _ _ 1 _ _ _ k2; have x22 := Kaa _ _ 2 _ _ _ k2; have x23 := Kaa _ _ 3 _ _ _ k2)
  | (go_at_call 36; refine (qK.out _ j4).mono ?_; rintro e w3 ⟨sv, rfl, pH, hsv⟩; obtain ⟨sva, svc, rfl, _⟩ := id hsv; have i1 := (pH.block _ (by omega)).trans j1; have i2 := (pH.block _ (by omega)).trans j2; have i4 := Z01 j4 j4.size pH; have i3 := Kaw j3 pH.size; clear pH j1 j2 j3 j4 x20 x21 x22 x23 x10 x11; have z0 := Kaa _ _ 3 _ _ _ i2; have sJ : w.1.size + 1 < w3.1.size := by omega)
  | (at_make; refine wpList_make_own _ rfl _ _ 35 rfl w.1.size 3 i0 (.int .i64 0) 1 Tryz.underlying35 HI.out.1 HI.out.2.1 HI.out.2.2.1 _ _ _ m.ps.length rfl (by first | rfl | simp) rfl (by rw [HI.out.2.2.2]; omega) (by unfold maxLen; omega) (by have := i4.size; simp; omega) ?_; intro w4 vV rO; rw [Z6] at vV; obtain ⟨l1, l2, l3⟩ := Z4N (Z9x rO); have n1 := (l3.block _ (by omega)).trans i1; have n2 := (l3.block _ (by omega)).trans i2; have n4 := Z01 i4 i4.size l3; have z4 := Kaa _ _ 3 _ _ _ n2; clear rO))
 have zG := Z0 l1
 have zH := Z0 l3
 have zI := Z0 n1
 have zJ := Z0 n2
 have sA := Z0 n4
 have sV := Z0 vV
 have rU := Z0 hsv
 have kY := Z0 i3
 have rE := Z0 i4
 clear l1 l2 l3 n1 n2 n4 z4 vV hsv i1 i2 i3 i4 z0 sJ sQ pM qK qW
 go_loopw [8, 37] (fun x i wr => ∃ k : Nat, k <= m.ps.length /\ i = .int .i64 k /\ x = .slice (some ⟨w3.1.size + 1, 0, none⟩) k m.ps.length /\ Below w.1.size w wr /\ Below w3.1.size w3 wr /\ wr.1[w.1.size]? = some (.cells #[.slice a T.rates.length ca, .slice az T.zones.length cz] 29 (0, 0)) /\ wr.1[w.1.size + 1]? = some (.cells #[.int .u8 m.cls, .int .u8 m.ctr, .string m.origin, .slice ap m.ps.length cp] 34 (0, 0)) /\
  wr.1[w3.1.size]? = some (.cells #[.int .u8 r.cls, .slice sva r.steps.length svc, .int .i64 r.bar] 60 (0, 0)) /\ wr.ownsRow w.1.size 3 1 (.slice (some ⟨w3.1.size + 1, 0, none⟩) k m.ps.length) k ((List.range k).map (fun i => Value.int .i64 (Z0B T r m i).1))) (fun _ i _ => m.ps.length - (intOf i).toNat)
 case atStart => exact ⟨0, ZE _, rfl, rfl, sA.out, zH.out, zI.out, zJ.out, zG.out, sV.out⟩
 case round =>
  clear zG zH zI zJ sA sV
  obtain ⟨k, hk, rfl, rfl, hB, pX, qM, vW, qX, hO⟩ := hrel
  have HB := Z0 hB
  have qA := Z0 pX
  have uL := Z0 qM
  have zK := Z0 vW
  have sW := Z0 qX
  have HO := Z0 hO
  by_cases pB : k < m.ps.length
  ·obtain ⟨g, off, rfl, hg, pF⟩ := sU.out (by omega)
   obtain ⟨p0, p1, p2, p3, p4⟩ := (pF k pB).below hB hg
   have pE : g < wr.1.size := by have := hB.size; omega
   have d4 : decide ((k : Int) < (m.ps.length : Int)) = true := Kac (by omega)
   have sX : m.ps.getD k ⟨0, 0, ⟨#[]⟩, 0, false⟩ = m.ps[k] := by rw [Z2, Z3 pB]; rfl
   have sY : Hid (∀ W, Below wr.1.size wr W -> Calls Tryz.prog 75 #[.agg #[.int .u8 r.cls, .slice sva r.steps.length svc, .int .i64 r.bar], .int .i64 (Z5c T.zones m.origin m.ps[k].code), .int .i64 m.ps[k].grams] W fun e w' => e = .returned (.tuple #[.int .i64 (Z0B T r m k).1, .int .i64 0]) /\ Below W.1.size W w') := fun W hW => by
    have := uK.out W k _ (rU.out.below (Z01 qA.out qA.out.size hW)) pB
    rw [sX] at this
    exact this
   have uM : Hid (∀ W, Below wr.1.size wr W -> Calls Tryz.prog 76 #[.slice az T.zones.length cz, .string m.origin, .string m.ps[k].code] W fun e w' => e = .returned (.int .i64 (Z5c T.zones m.origin m.ps[k].code)) /\ Below W.1.size W w') := fun W hW => zF.out W _ (Z01 HB.out HB.out.size hW)
   have uN := (Z5.1 qX).1
   have vX := (Z5.1 vW).1
   have vY := (Z5.1 qM).1
   clear pF sU uK zF rU hB pX qM vW qX hO sX
   generalize m.ps[k] = p at p0 p1 p2 p3 p4 sY uM
   generalize Z5c T.zones m.origin p.code = zz at sY uM
   generalize zL : (Z0B T r m k).1 = pr at sY
   have kZ := Z0 zL
   clear zL
   obtain ⟨Wp, uO⟩ : ∃ Wp, Wp = wr.alloc (.cells #[.int .i64 p.id, .int .i64 p.point, .string p.code, .int .i64 p.grams, .bool p.barred] 65) := ⟨_, rfl⟩
   have qL : Below wr.1.size wr Wp := by rw [uO]; exact (Z9 _ _).alloc (Z1 _) _
   have vZ : Wp.1[wr.1.size]? = some (.cells #[.int .i64 p.id, .int .i64 p.point, .string p.code, .int .i64 p.grams, .bool p.barred] 65 (0, 0)) := by rw [uO]; exact Z02 _ _
   have b1 := (qL.block _ vY).trans uL.out
   have b2 := (qL.block _ vX).trans zK.out
   have b3 := (qL.block _ uN).trans sW.out
   have s0 := Z2p (Kaa _ _ 0 _ _ _ b3)
   have s1 := Z2p (Kaa _ _ 1 _ _ _ b3)
   have s2 := Z2p (Kaa _ _ 2 _ _ _ b3)
   have s3 := Z2p (Kaa _ _ 1 _ _ _ b1)
   have s4 := Z2p (Kaa _ _ 2 _ _ _ b2)
   have s5 := Z2p (Kaa _ _ 2 _ _ _ vZ)
   have s6 := Z2p (Kaa _ _ 3 _ _ _ vZ)
   have zM : Hid (∀ W, Below Wp.1.size Wp W -> Calls Tryz.prog 76 #[.slice az T.zones.length cz, .string m.origin, .string p.code] W fun e w' => e = .returned (.int .i64 zz) /\ Below W.1.size W w') := fun W hW => uM.out W (Z01 qL qL.size hW)
   have pV : Hid (∀ W, Below Wp.1.size Wp W -> Calls Tryz.prog 75 #[.agg #[.int .u8 r.cls, .slice sva r.steps.length svc, .int .i64 r.bar], .int .i64 zz, .int .i64 p.grams] W fun e w' => e = .returned (.tuple #[.int .i64 pr, .int .i64 0]) /\ Below W.1.size W w') := fun W hW => sY.out W (Z01 qL qL.size hW)
   have wA := Z0 qL
   clear qL vZ b1 b2 b3 uM sY
   go_wp2_with fail
   rw [<- uO]
   clear uO
   refine wp_region_quiet_below (by kernel_rfl) (by kernel_rfl) ?_
   repeat (go_big_quiet_step ((first | (with_reducible exact Z8a zM.out _) | (with_reducible exact Z8a pV.out _))))
   refine wpQuiet_nil ?_
   intro _ hw'
   obtain ⟨pp, hw''⟩ := hw'
   subst hw''
   have pS : Below wr.1.size wr (grow (redrawn Wp pp.d) pp.os) := Z01 wA.out wA.out.size (ZgD Wp pp)
   generalize grow (redrawn Wp pp.d) pp.os = Wq at pS ⊢
   have lA := HO.out.kept (Z0a pS) (Kbm _)
   have lB := Z0 pS
   have lC := pS.size
   have lU := HB.out.size
   clear pS s0 s1 s2 s3 s4 s5 s6 zM pV wA
   go_wp2_with (at_builtin; refine wpList_append_fits _ rfl _ _ 35 rfl w.1.size 3 i0 1 Tryz.underlying35 HI.out.1 HI.out.2.2.1 (w3.1.size + 1) k m.ps.length _ rfl (lA.alloc _) ⟨Wq.1.size, 0, none⟩ 1 1 [.int .i64 pr] rfl rfl (cell_one_new _ _ _) (by simp [Value.oneCell']) (by omega) ?_; intro w6 lD wB)
   have wC : Below wr.1.size wr (Wq.alloc (.cells #[.int .i64 pr] 3)) := lB.out.alloc lC _
   have sL : w3.1.size + 1 < wr.1.size := (HO.out.lt _ rfl).2
   have lE := rE.out.size
   have wD : ∀ b, b < w3.1.size + 1 -> w6.1[b]? = wr.1[b]? := fun b hb => (wB.block b (by simp; omega) (by intro e; have := Kav e; omega)).trans (wC.block b (by omega))
   go_roundw
   case rel =>
    refine ⟨k + 1, by omega, by go_num, rfl, (Z01 HB.out HB.out.size wC).grown wB (by simp; omega) (fun r e => by rw [<- Kav e]; omega), (Z01 qA.out qA.out.size wC).grown wB (by simp; have := qA.out.size; omega) (fun r e => by rw [<- Kav e]; omega), (wD _ (by omega)).trans uL.out, (wD _ (by have := kY.out; omega)).trans zK.out, (wD _ (by omega)).trans sW.out, ?_⟩
    rw [Kaq, ZD, List.map_singleton, kZ.out]
    exact lD
   case measure => simp [intOf]; omega
  ·obtain rfl : k = m.ps.length := by omega
   go_wp2_with fail
   go_ret2
   exact ⟨_, rfl, HB.out, by have := rE.out.size; omega, HO.out⟩
theorem Zho {z : Nat} {r : Rat} (hr : RatOk z r) {zz g : Int} (hz : 1 <= zz /\ zz <= z) (h : (Z4B r zz g).2 = 0) : ∃ s ∈ r.steps, (Z4B r zz g).1 ∈ s.cents := by
 unfold Z4B at h ⊢
 split at h
 ·cases h
 ·rename_i hs
  rw [if_neg hs]
  rcases Zav (fun s : Stp => decide (g <= s.grams)) r.steps with ⟨h1, _⟩ | ⟨q, hq, h1, _⟩
  ·exact absurd h1 (fun e => hs (by unfold stepOf; omega))
  ·have pF : stepOf r.steps g = q := h1
   rw [pF, Kar, Z2, Z3 hq]
   refine ⟨r.steps[q], Z4 hq, ?_⟩
   show Z63 r.steps[q] zz ∈ r.steps[q].cents
   have hl := (hr.cents _ (Z4 hq)).1
   unfold Z63
   rw [Z2, Z3 (by omega)]
   exact Z4 _
def Z5I (ls : List Lev) (n : Int) : Int := (ls.getD n.toNat ⟨⟨#[]⟩, 0, [], 0, 0⟩).cents
def ZaT (m : Mai) (i : Nat) : Bool := (m.ps.getD i ⟨0, 0, ⟨#[]⟩, 0, false⟩).barred
def Z5o (T : Tar) (r : Rat) (ls : List Lev) (m : Mai) (zs : List Int) (i : Nat) : Int := (Z0B T r m i).1 - (if ZaT m i then r.bar else 0) - Z5I ls (zs.getD i (-1))
theorem Z6Q {F : Nat -> Value} {n k : Nat} (u : Value) (hk : k < n) : ((List.range n).map F).set k u = (List.range n).map (fun i => if i = k then u else F i) := by
 refine Kcf (by simp) (fun q h1 h2 => ?_)
 rw [List.getElem_set]
 simp only [Kba, Kbv]
 by_cases e : k = q
 ·rw [if_pos e, if_pos e.symm]
 ·rw [if_neg e, if_neg (fun e' => e e'.symm)]
theorem Z4A {F : Nat -> Value} {n k : Nat} (hk : k < n) : ((List.range n).map F)[k]? = some (F k) := by
 rw [Kal, Kb2 hk]; rfl
theorem Z8e {z : Nat} {T : Tar} (hT : TarOk z T) {lo hb hc : Int} {ls : List Lev} (hF : FitT lo hb hc T ls) {vr vz vp vl vn : Value} {m : Mai} {zs : List Int} (w : World) (h : RdTar w vr vz T) (hr : RdLevs w vl ls) (hf : ∀ l ∈ ls, Z0K l) (rJ : Z0g ls = true)
 (qD : RdPces w vp m.ps) (hm : Z2c m = true) (h8 : m.cls <= 255) (pO : ∀ p ∈ m.ps, p.code.size <= maxLen) (hn : RdInts w vn zs) (rY : zs.length = m.ps.length) (wE : ∀ x ∈ zs, 0 <= x /\ x < (ls.length : Int)) {q : Nat} (hq : q < T.rates.length) (qV : T.rates[q].cls = m.cls)
 (pI : ∀ i, i < m.ps.length -> (Z0B T T.rates[q] m i).2 = 0) :
 Calls Tryz.prog 13 #[.agg #[vr, vz], vl, Z2r m vp, vn] w fun e w' => ∃ g, e = .returned (.tuple #[.slice (some ⟨g, 0, none⟩) m.ps.length m.ps.length, .int .i64 0]) /\ Below w.1.size w w' /\ w.1.size <= g /\
  w'.ownsRow w.1.size 3 1 (.slice (some ⟨g, 0, none⟩) m.ps.length m.ps.length) m.ps.length ((List.range m.ps.length).map (fun i => Value.int .i64 (Z5o T T.rates[q] ls m zs i))) := by
 obtain ⟨m1, m2, m3⟩ := ZcL hm
 have tT := Z0y rJ
 have sS : m.origin.size <= maxLen := by have := Z0w m2; unfold maxLen; omega
 have rB := Z0 (fun W (hW : Below w.1.size w W) => ZhX hT hF W (h.below hW) (hr.below hW) hf rJ)
 have pM := Z0 (fun W (hW : Below w.1.size w W) => Z3c m vp W (qD.below hW) ⟨by omega, h8, by omega, by omega⟩ sS (by omega) pO)
 have zN := Z0 (fun W (hW : Below w.1.size w W) => Z9y hT W (h.below hW) (qD.below hW) hm h8 pO hq qV pI)
 rw [hm] at pM
 have qK := Z0 (fun W (hW : Below w.1.size w W) => Z8b m.cls W (h.below hW) hT.rates.2 hq qV (fun i hi pB e => by have := ZaP hT.apart hi hq (e.trans qV.symm); omega))
 have vU := (hT.rate _ (Z4 hq)).2.2.bar
 have zO : Hid (∀ i, i < m.ps.length -> 0 <= (Z0B T T.rates[q] m i).1 /\ (Z0B T T.rates[q] m i).1 <= 1000000) := fun i hi => by
  obtain ⟨s, hs, qZ⟩ := Zho (hT.rate _ (Z4 hq)).2.2 (Zb4 hT _ _) (pI i hi)
  exact ((hT.rate _ (Z4 hq)).2.2.cents s hs).2 _ qZ
 obtain ⟨lo0, lo1, yS, kS⟩ := hF.num
 have rW := Z0 hF.lev
 have qZ : hc <= 1000000 := by
  have := hF.bar _ (Z4 hq)
  omega
 obtain ⟨a, ca, rfl, _⟩ := h.r
 obtain ⟨az, cz, rfl, _⟩ := h.z
 obtain ⟨ap, cp, rfl, sT⟩ := qD
 obtain ⟨al, cl, rfl, qS⟩ := hr
 obtain ⟨an, cn, rfl, zP⟩ := hn
 have sU := Z0 sT
 have rX := Z0 qS
 have wF := Z0 zP
 have zQ := Z0 wE
 have zR := Z0 wE
 have rZ := Z0 rY
 obtain ⟨R, hR⟩ : ∃ R : Nat -> Int, R = Z5o T T.rates[q] ls m zs := ⟨_, rfl⟩
 obtain ⟨Bs, qY⟩ : ∃ Bs : Nat -> Int, Bs = fun i => (Z0B T T.rates[q] m i).1 := ⟨_, rfl⟩
 have wG : Hid (∀ i, R i = Bs i - (if ZaT m i then T.rates[q].bar else 0) - Z5I ls (zs.getD i (-1))) := fun i => by rw [hR, qY]; rfl
 have zS : Hid (∀ i, i < m.ps.length -> 0 <= Bs i /\ Bs i <= 1000000) := fun i hi => by rw [qY]; exact zO.out i hi
 have wH : Hid (∀ W, Below w.1.size w W -> Calls Tryz.prog 35 #[.agg #[.slice a T.rates.length ca, .slice az T.zones.length cz], Z2r m (.slice ap m.ps.length cp)] W fun e w' => ∃ g, e = .returned (.tuple #[.slice (some ⟨g, 0, none⟩) m.ps.length m.ps.length, .int .i64 0]) /\ Below W.1.size W w' /\ W.1.size <= g /\
  w'.ownsRow W.1.size 3 1 (.slice (some ⟨g, 0, none⟩) m.ps.length m.ps.length) m.ps.length ((List.range m.ps.length).map (fun i => Value.int .i64 (Bs i)))) := fun W hW => by rw [qY]; exact zN.out W hW
 have zT : (fun i => Value.int .i64 (Z5o T T.rates[q] ls m zs i)) = fun i => Value.int .i64 (R i) := by rw [hR]
 rw [zT]
 clear zT hR qY zN zO
 generalize T.rates[q] = r at qK vU wG
 clear sT qS zP wE h hT hm qV pI pO m2 sS hq hF hf rJ
 have lF : ((zs.length : Int) != (m.ps.length : Int)) = false := by rw [rY]; simp
 have lV : zs.length <= 2000 := by omega
 clear rY
 obtain ⟨t1, t2, t3, t4⟩ := Z25 (w := w) (A := .cells #[.slice a T.rates.length ca, .slice az T.zones.length cz] 29) (B := .cells #[.int .u8 m.cls, .int .u8 m.ctr, .string m.origin, .slice ap m.ps.length cp] 34) rfl
 have qW := Z0 t4
 clear t1 t2 t3 t4
 unfold Z2r at pM wH ⊢
 unfold Zka at qK
 go_enter Tryz.func13, Tryz.ntmps13
 go_wp2_with (first
  | (go_at_call 34; refine (pM.out _ k4).mono ?_; rintro e w2 ⟨rfl, pD⟩; have j1 := (pD.block _ (by omega)).trans k1; have j2 := (pD.block _ (by omega)).trans k2; have j4 := Z01 k4 k4.size pD; have j3 := Kaw k3 pD.size; clear pD k1 k2 k3 k4 x20 x21 x22; have x23 := Kaa _ _ 3 _ _ _ j2)
  | (go_at_call 33; refine (rB.out _ qW.out).mono ?_; rintro e w1 ⟨rfl, pA⟩; obtain ⟨k1, k2, k3, k4⟩ := Z4r pA; clear pA; have x20 := Kaa _ _ 0 _ _ _ k2; have x21 := Kaa _ _ 1 _ _ _ k2; have x22 := Kaa _ _ 2 _ _ _ k2; have x23 := Kaa _ _ 3 _ _ _ k2))
 have rK := Z0 j1
 have qT := Z0 j2
 have rL := Z0 j3
 have rM := Z0 j4
 clear j1 j2 j3 j4 x23 rB pM qW lF
 go_loop [37] (fun i => ∃ k : Nat, k <= zs.length /\ i = .int .i64 k) (fun i => zs.length - (intOf i).toNat)
 case atStart => exact ⟨0, ZE _, rfl⟩
 case round =>
  obtain ⟨k, hk, rfl⟩ := hrel
  by_cases pB : k < zs.length
  ·obtain ⟨gz, oz, rfl, rR, pN⟩ := wF.out (by omega)
   have c1 := (rM.out.cell (p := ⟨gz, oz + k, none⟩) rR).trans (pN k pB)
   have pE : gz < w2.1.size := by have := rM.out.size; omega
   obtain ⟨s1, s2⟩ := zQ.out _ (Z4 pB)
   clear pN
   generalize zs[k] = y at c1 s1 s2
   have d1 : decide (y < 0) = false := Kad (by omega)
   have d2 : decide ((ls.length : Int) <= y) = false := Kad (by omega)
   have d4 : decide ((k : Int) < (zs.length : Int)) = true := Kac (by omega)
   go_wp2_with fail
   go_round
   case rel => exact ⟨k + 1, by omega, by go_num⟩
   case measure => simp [intOf]; omega
  ·obtain rfl : k = zs.length := by omega
   have x20 := Kaa _ _ 0 _ _ _ qT.out
   have x21 := Kaa _ _ 1 _ _ _ qT.out
   have x22 := Kaa _ _ 2 _ _ _ qT.out
   have x23 := Kaa _ _ 3 _ _ _ qT.out
   have x10 := Kaa _ _ 0 _ _ _ rK.out
   have x11 := Kaa _ _ 1 _ _ _ rK.out
   go_wp2_with (first
    | (go_at_call 36; refine (qK.out _ i4).mono ?_; rintro e w4 ⟨sv, rfl, pY, hsv⟩; obtain ⟨sva, svc, rfl, _⟩ := id hsv; have n1 := (pY.block _ (by omega)).trans i1; have n2 := (pY.block _ (by omega)).trans i2; have n4 := Z01 i4 i4.size pY; have n3 := Kaw i3 pY.size; have n5 := wI.kept (Z0a pY) (Kbm _); clear pY i1 i2 i4 wI y20 y21 y22 y23 y10 y11; have z3 := Kaa _ _ 3 _ _ _ n2; have sJ : w.1.size + 1 < w4.1.size := by omega)
    | (go_at_call 35; refine (wH.out _ rM.out).mono ?_; rintro e w3 ⟨G, rfl, pH, hG, wI⟩; have i1 := (pH.block _ (by have := rL.out; omega)).trans rK.out; have i2 := (pH.block _ (by have := rL.out; omega)).trans qT.out; have i4 := Z01 rM.out rM.out.size pH; have i3 := Kaw rL.out pH.size; have lG := (wI.lt G rfl).2; clear pH x20 x21 x22 x23 x10 x11; have y20 := Kaa _ _ 0 _ _ _ i2; have y21 := Kaa _ _ 1 _ _ _ i2; have y22 := Kaa _ _ 2 _ _ _ i2; have y23 := Kaa _ _ 3 _ _ _ i2; have y10 := Kaa _ _ 0 _ _ _ i1; have y11 := Kaa _ _ 1 _ _ _ i1))
   have HG := Z0 hG
   have sA := Z0 n4
   have sV := Z0 n5
   have uP := Z0 rM.out.size
   have zU := Z0 (n5.lt G rfl).2
   clear n1 n2 n3 n4 n5 z3 sJ rK qT rL rM qK wH zQ hsv lG hG
   go_loopw [69] (fun i wr => ∃ (k : Nat) (F : Nat -> Int), k <= m.ps.length /\ i = .int .i64 k /\ Below w.1.size w wr /\ wr.1[w4.1.size]? = some (.cells #[.int .u8 r.cls, .slice sva r.steps.length svc, .int .i64 r.bar] 60 (0, 0)) /\ wr.ownsRow w2.1.size 3 1 (.slice (some ⟨G, 0, none⟩) m.ps.length m.ps.length) m.ps.length ((List.range m.ps.length).map (fun i => Value.int .i64 (F i))) /\ Hid (∀ i, i < k -> F i = R i) /\ Hid (∀ i, k <= i -> F i = Bs i)) (fun i _ => m.ps.length - (intOf i).toNat)
   case atStart => exact ⟨0, Bs, ZE _, rfl, sA.out.alloc sA.out.size _, Z02 _ _, sV.out.alloc _, fun i hi => absurd hi (Ka2 _), fun _ _ => rfl⟩
   case round =>
    clear sA sV
    obtain ⟨k, F, hk, rfl, hB, qX, hO, wJ, wK⟩ := hrel
    have HB := Z0 hB
    have sW := Z0 qX
    have HO := Z0 hO
    have uN := (Z5.1 qX).1
    have lW := (hO.lt G rfl).2
    by_cases pB : k < m.ps.length
    ·obtain ⟨g, off, rfl, hg, pF⟩ := sU.out (by omega)
     obtain ⟨p0, p1, p2, p3, p4⟩ := (pF k pB).below hB hg
     have pE : g < wr.1.size := by have := hB.size; omega
     have wL : k < zs.length := by rw [rZ.out]; exact pB
     obtain ⟨gz, oz, rfl, rR, uJ⟩ := wF.out (by omega)
     have z1 := (hB.cell (p := ⟨gz, oz + k, none⟩) rR).trans (uJ k wL)
     have lX : gz < wr.1.size := by have := hB.size; omega
     obtain ⟨s1, s2⟩ := zR.out _ (Z4 wL)
     obtain ⟨j, hj⟩ : ∃ j : Nat, zs[k] = j := ⟨zs[k].toNat, by omega⟩
     rw [hj] at z1 s2
     have qU : j < ls.length := by omega
     obtain ⟨gl, ol, rfl, sN, qS⟩ := rX.out (by omega)
     obtain ⟨lv, _, zV⟩ := qS j qU
     have l4 := (hB.cell (p := ⟨gl, ol + j * 5 + 4, none⟩) sN).trans zV.2.2.2.2
     have lY : gl < wr.1.size := by have := hB.size; omega
     obtain ⟨q1, q2⟩ := rW.out _ (Z4 qU)
     have zW := wK.out k (Z1 _)
     obtain ⟨bb0, bb1⟩ := zS.out k pB
     have o1 : wr.cell? ⟨G, k, none⟩ = some (.int .i64 (Bs k)) := by rw [hO.cellAt k (by omega), Z4A pB, zW]
     have o2 : wr.frozen? ⟨G, k, none⟩ = false := hO.frozenAt k
     have y2 := Kaa _ _ 2 _ _ _ qX
     have wM := wG.out k
     have sX : ZaT m k = m.ps[k].barred := by unfold ZaT; rw [Z2, Z3 pB]; rfl
     have zX : Z5I ls (zs.getD k (-1)) = ls[j].cents := by
      unfold Z5I
      rw [Z2, Z2, Z3 wL, Kcu, hj, Kar, Z3 qU]; rfl
     rw [sX, zX] at wM
     have rN := Z0 wM
     have d4 : decide ((k : Int) < (m.ps.length : Int)) = true := Kac (by omega)
     clear pF uJ qS zV hj wM sX zX hB qX hO zW sU wF rX zR rW wG zS s1
     generalize ls[j] = l at l4 q1 q2 rN
     generalize m.ps[k] = p at p0 p1 p2 p3 p4 rN
     generalize Bs k = bk at bb0 bb1 o1 rN
     have kW : IntKind.i64.wrap (bk - l.cents) = bk - l.cents := IntWalk.i64_in _ (by omega)
     cases zY : p.barred
     ·rw [zY] at p4 rN
      go_wp2_with fail
      go_region
      have qB := Zbs HO.out (j := k) (by rw [Z7, Kay]; exact pB) (.int .i64 (bk - l.cents))
      rw [Z6Q _ pB] at qB
      have wN := Z0 qB
      clear qB
      go_wp2_with fail
      go_roundw
      case rel =>
       refine ⟨k + 1, fun i => if i = k then bk - l.cents else F i, by omega, by go_num, ((HB.out.setCell (p := ⟨G, k, none⟩) (by have := HG.out; have := uP.out; show w.1.size <= G; omega) _).alloc (by simp [World.setCell]; exact HB.out.size) _).drew, ?_, ?_, ?_, ?_⟩
       ·exact (ZB _ _ _ (by simp [World.setCell]; exact uN)).trans ((ZA _ _ _ _ (by have := zU.out; show w4.1.size ≠ G; omega)).trans sW.out)
       ·have wO : (fun i => Value.int .i64 (if i = k then bk - l.cents else F i)) = fun i => if i = k then Value.int .i64 (bk - l.cents) else Value.int .i64 (F i) := by funext i; split <;> rfl
        rw [wO]
        exact (wN.out.alloc _).drew
       ·intro i hi
        dsimp only
        by_cases e : i = k
        ·subst e; rw [if_pos rfl, rN.out]; simp
        ·rw [if_neg e]; exact wJ.out i (by omega)
       ·intro i hi
        dsimp only
        rw [if_neg (by omega)]
        exact wK.out i (by omega)
      case measure => simp [intOf]; omega
     ·rw [zY] at p4 rN
      have kX : IntKind.i64.wrap (bk - r.bar) = bk - r.bar := IntWalk.i64_in _ (by omega)
      have lE : IntKind.i64.wrap (bk - r.bar - l.cents) = bk - r.bar - l.cents := IntWalk.i64_in _ (by omega)
      go_wp2_with fail
      go_region
      go_wp2_with fail
      have zZ : w.1.size <= G := by have := HG.out; have := uP.out; omega
      have iA : w4.1.size ≠ G := by have := zU.out; omega
      obtain ⟨W1, qH⟩ : ∃ W1, W1 = ((wr.setCell ⟨G, k, none⟩ (.int .i64 (bk - r.bar))).alloc (.cells #[.int .i64 p.id, .int .i64 p.point, .string p.code, .int .i64 p.grams, .bool true] 65)).drew := ⟨_, rfl⟩
      have pJ : Below w.1.size w W1 := by rw [qH]; exact ((HB.out.setCell (p := ⟨G, k, none⟩) zZ _).alloc (by simp [World.setCell]; exact HB.out.size) _).drew
      have iB : W1.1[w4.1.size]? = some (.cells #[.int .u8 r.cls, .slice sva r.steps.length svc, .int .i64 r.bar] 60 (0, 0)) := by
       rw [qH]
       exact (ZB _ _ _ (by simp [World.setCell]; exact uN)).trans ((ZA _ _ _ _ iA).trans sW.out)
      have qB := Zbs HO.out (j := k) (by rw [Z7, Kay]; exact pB) (.int .i64 (bk - r.bar))
      rw [Z6Q _ pB] at qB
      have sZ : W1.ownsRow w2.1.size 3 1 (.slice (some ⟨G, 0, none⟩) m.ps.length m.ps.length) m.ps.length ((List.range m.ps.length).map (fun i => if i = k then Value.int .i64 (bk - r.bar) else Value.int .i64 (F i))) := by rw [qH]; exact (qB.alloc _).drew
      have o1' : W1.cell? ⟨G, k, none⟩ = some (.int .i64 (bk - r.bar)) := by rw [sZ.cellAt k (by omega), Z4A pB, if_pos rfl]
      have o2' : W1.frozen? ⟨G, k, none⟩ = false := sZ.frozenAt k
      have lZ := (sZ.lt G rfl).2
      have e1 : ∀ g o, g < w.1.size -> W1.cell? ⟨g, o, none⟩ = wr.cell? ⟨g, o, none⟩ := fun g o hg => (pJ.cell (p := ⟨g, o, none⟩) hg).trans (HB.out.cell (p := ⟨g, o, none⟩) hg).symm
      have z1' := (e1 gz (oz + k) rR).trans z1
      have l4' := (e1 gl (ol + j * 5 + 4) sN).trans l4
      have mA : gz < W1.1.size := by have := pJ.size; omega
      have mB : gl < W1.1.size := by have := pJ.size; omega
      rw [<- qH]
      have lH := Z0 pJ
      have uL := Z0 iB
      have lI := Z0 sZ
      clear qH pJ iB sZ qB e1 o1 o2 z1 l4 y2 p0 p1 p2 p3 p4
      go_region
      have qB := Zbs lI.out (j := k) (by rw [Z7, Kay]; exact pB) (.int .i64 (bk - r.bar - l.cents))
      rw [Z6Q _ pB] at qB
      have wN := Z0 qB
      clear qB
      go_wp2_with fail
      go_roundw
      case rel =>
       refine ⟨k + 1, fun i => if i = k then bk - r.bar - l.cents else F i, by omega, by go_num, (lH.out.setCell (p := ⟨G, k, none⟩) zZ _).drew, ?_, ?_, ?_, ?_⟩
       ·exact (ZA _ _ _ _ iA).trans uL.out
       ·have wO : (fun i => Value.int .i64 (if i = k then bk - r.bar - l.cents else F i)) = fun i => if i = k then Value.int .i64 (bk - r.bar - l.cents) else (if i = k then Value.int .i64 (bk - r.bar) else Value.int .i64 (F i)) := by
         funext i
         by_cases e : i = k
         ·rw [if_pos e, if_pos e]
         ·rw [if_neg e, if_neg e, if_neg e]
        rw [wO]
        exact wN.out.drew
       ·intro i hi
        dsimp only
        by_cases e : i = k
        ·subst e; rw [if_pos rfl, rN.out]; simp
        ·rw [if_neg e]; exact wJ.out i (by omega)
       ·intro i hi
        dsimp only
        rw [if_neg (by omega)]
        exact wK.out i (by omega)
      case measure => simp [intOf]; omega
    ·obtain rfl : k = m.ps.length := by omega
     have vC : (List.range m.ps.length).map (fun i => Value.int .i64 (F i)) = (List.range m.ps.length).map (fun i => Value.int .i64 (R i)) := Kbg (fun i hi => by rw [wJ.out i (Ka8.1 hi)])
     rw [vC] at HO
     go_wp2_with fail
     go_ret2
     exact ⟨G, rfl, HB.out, Kaw uP.out HG.out, Z6h HO.out uP.out⟩
theorem LnIn.mono {m m' : Int} {x : Ln} (h : LnIn m x) (hm : m <= m') : LnIn m' x := by
 obtain ⟨a1, a2, a3, a4, a5, a6, a7⟩ := h
 exact ⟨by omega, by omega, by omega, by omega, by omega, by omega, by omega⟩
theorem Zb7 {m : Int} (lv : Int) {l : List Ln} (h : ∀ x ∈ l, LnIn m x) (hm : 0 <= m /\ m <= 1000000000000) (hl : l.length <= 10000) : LnIn 10000000000000000 (Z1r lv l) := by
 refine (Z6e lv h).mono ?_
 have h1 : (l.length : Int) * m <= 10000 * m := Int.mul_le_mul_of_nonneg_right (by omega) hm.1
 omega
def lnO (x : Ln) : Obj := .cells #[.int .i64 x.level, .int .i64 x.pieces, .int .i64 x.barred, .int .i64 x.grams, .int .i64 x.base, .int .i64 x.bar, .int .i64 x.saved, .int .i64 x.cents] 42
theorem Zl1 {w : World} {g : Nat} {a b c d e f p q b' c' d' e' f' p' q' : Value} {t : TypeId} {fr : Nat × Nat} (h : w.1[g]? = some (.cells #[a, b, c, d, e, f, p, q] t fr)) :
 (((((((w.setCell ⟨g, 1, none⟩ b').setCell ⟨g, 2, none⟩ c').setCell ⟨g, 3, none⟩ d').setCell ⟨g, 4, none⟩ e').setCell ⟨g, 5, none⟩ f').setCell ⟨g, 6, none⟩ p').setCell ⟨g, 7, none⟩ q').1[g]? = some (.cells #[a, b', c', d', e', f', p', q'] t fr) := by
 simp [World.setCell, Kap, h]
theorem Zl0 {w : World} {g : Nat} {a b c d e f p q a' b' c' d' e' f' p' q' : Value} {t : TypeId} {fr : Nat × Nat} (h : w.1[g]? = some (.cells #[a, b, c, d, e, f, p, q] t fr)) :
 ((((((((w.setCell ⟨g, 0, none⟩ a').setCell ⟨g, 1, none⟩ b').setCell ⟨g, 2, none⟩ c').setCell ⟨g, 3, none⟩ d').setCell ⟨g, 4, none⟩ e').setCell ⟨g, 5, none⟩ f').setCell ⟨g, 6, none⟩ p').setCell ⟨g, 7, none⟩ q').1[g]? = some (.cells #[a', b', c', d', e', f', p', q'] t fr) := by
 simp [World.setCell, Kap, h]
theorem Z5j {B : Nat} {w w' : World} {g : Nat} {b c d e f p q : Value} (h : Below B w w') (hg : B <= g) : Below B w (((((((w'.setCell ⟨g, 1, none⟩ b).setCell ⟨g, 2, none⟩ c).setCell ⟨g, 3, none⟩ d).setCell ⟨g, 4, none⟩ e).setCell ⟨g, 5, none⟩ f).setCell ⟨g, 6, none⟩ p).setCell ⟨g, 7, none⟩ q) :=
 ((((((h.setCell (p := ⟨g, 1, none⟩) hg _).setCell (p := ⟨g, 2, none⟩) hg _).setCell (p := ⟨g, 3, none⟩) hg _).setCell (p := ⟨g, 4, none⟩) hg _).setCell (p := ⟨g, 5, none⟩) hg _).setCell (p := ⟨g, 6, none⟩) hg _).setCell (p := ⟨g, 7, none⟩) hg _
theorem Zdr {B : Nat} {w w' : World} {g : Nat} {a b c d e f p q : Value} (h : Below B w w') (hg : B <= g) : Below B w ((((((((w'.setCell ⟨g, 0, none⟩ a).setCell ⟨g, 1, none⟩ b).setCell ⟨g, 2, none⟩ c).setCell ⟨g, 3, none⟩ d).setCell ⟨g, 4, none⟩ e).setCell ⟨g, 5, none⟩ f).setCell ⟨g, 6, none⟩ p).setCell ⟨g, 7, none⟩ q) :=
 Z5j (h.setCell (p := ⟨g, 0, none⟩) hg _) hg
theorem ZgJ {m : Int} (lv : Int) (l : List Ln) (v : Value) (w : World) (hv : RdLns w v l) (wP : ∀ x ∈ l, LnIn m x) (hm : 0 <= m /\ m <= 1000000000000) (hl : l.length <= 10000) :
 Calls Tryz.prog 67 #[.int .i64 lv, v] w fun e w' => e = .returned (lnA (Z1r lv l)) /\ Below w.1.size w w' := by
 obtain ⟨a, ca, rfl, pC⟩ := hv
 have HC := Z0 pC
 have wQ := Z0 wP
 have wR : Hid (∀ k, LnIn 10000000000000000 (Z1r lv (l.take k))) := fun k => Zb7 lv (fun x hx => wP x (Kcg hx)) hm (by rw [Kax]; omega)
 obtain ⟨t1, t2, t3, t4⟩ := Z25 (w := w) (A := lnO (Z1m 0)) (B := lnO (Z1m lv)) rfl
 have iC := Z0 t1
 have uF := Z0 t2
 have qW := Z0 t4
 have wW := hm.2
 clear pC wP t1 t2 t3 t4 hm
 unfold lnO Z1m at iC uF qW
 unfold lnA
 go_enter Tryz.func67, Tryz.ntmps67
 go_wp2_with fail
 go_loopw [12] (fun i wr => ∃ (k : Nat) (s : Ln), k <= l.length /\ i = .int .i64 k /\ Below w.1.size w wr /\ wr.1[w.1.size]? = some (lnO (Z1m 0)) /\ wr.1[w.1.size + 1]? = some (lnO s) /\ Hid (s = Z1r lv (l.take k))) (fun i _ => l.length - (intOf i).toNat)
 case atStart => exact ⟨0, Z1m lv, ZE _, rfl, qW.out, iC.out, uF.out, rfl⟩
 case round =>
  obtain ⟨k, s, hk, rfl, hb, h1, h2, HS⟩ := hrel
  have HB := Z0 hb
  have H1 := Z0 h1
  have H2 := Z0 h2
  have vY := (Z5.1 h1).1
  have vX := (Z5.1 h2).1
  unfold lnO at h1 h2
  by_cases pB : k < l.length
  ·obtain ⟨g, off, rfl, hg, pN⟩ := HC.out (by omega)
   have pE : g < wr.1.size := by have := hb.size; omega
   have hx := wQ.out _ (Z4 pB)
   have pZ : Hid (Z1r lv (l.take (k + 1)) = Z33 s l[k]) := by
    show _ = _
    rw [Z8 pB, Zdm, <- HS.out]
   have iD := wR.out k
   rw [<- HS.out] at iD
   have hc := pN k pB
   generalize l[k] = x at hx pZ hc
   have c0 := (hb.cell (p := ⟨g, off + k * 8, none⟩) hg).trans (hc 0 _ rfl)
   have c1 := (hb.cell (p := ⟨g, off + k * 8 + 1, none⟩) hg).trans (hc 1 _ rfl)
   have c2 := (hb.cell (p := ⟨g, off + k * 8 + 2, none⟩) hg).trans (hc 2 _ rfl)
   have c3 := (hb.cell (p := ⟨g, off + k * 8 + 3, none⟩) hg).trans (hc 3 _ rfl)
   have c4 := (hb.cell (p := ⟨g, off + k * 8 + 4, none⟩) hg).trans (hc 4 _ rfl)
   have c5 := (hb.cell (p := ⟨g, off + k * 8 + 5, none⟩) hg).trans (hc 5 _ rfl)
   have c6 := (hb.cell (p := ⟨g, off + k * 8 + 6, none⟩) hg).trans (hc 6 _ rfl)
   have c7 := (hb.cell (p := ⟨g, off + k * 8 + 7, none⟩) hg).trans (hc 7 _ rfl)
   obtain ⟨⟨a10, a11⟩, ⟨a20, a21⟩, ⟨a30, a31⟩, ⟨a40, a41⟩, ⟨a50, a51⟩, ⟨a60, a61⟩, ⟨a70, a71⟩⟩ := iD
   obtain ⟨⟨b10, b11⟩, ⟨b20, b21⟩, ⟨b30, b31⟩, ⟨b40, b41⟩, ⟨b50, b51⟩, ⟨b60, b61⟩, ⟨b70, b71⟩⟩ := hx
   have s1 := Kaa _ _ 1 _ _ _ h2
   have s2 := Kaa _ _ 2 _ _ _ h2
   have s3 := Kaa _ _ 3 _ _ _ h2
   have s4 := Kaa _ _ 4 _ _ _ h2
   have s5 := Kaa _ _ 5 _ _ _ h2
   have s6 := Kaa _ _ 6 _ _ _ h2
   have s7 := Kaa _ _ 7 _ _ _ h2
   have f1 := Z03 (j := 1) h2
   have f2 := Z03 (j := 2) h2
   have f3 := Z03 (j := 3) h2
   have f4 := Z03 (j := 4) h2
   have f5 := Z03 (j := 5) h2
   have f6 := Z03 (j := 6) h2
   have f7 := Z03 (j := 7) h2
   have w1 : IntKind.i64.wrap (s.pieces + x.pieces) = s.pieces + x.pieces := IntWalk.i64_in _ (by omega)
   have w2 : IntKind.i64.wrap (s.barred + x.barred) = s.barred + x.barred := IntWalk.i64_in _ (by omega)
   have w3 : IntKind.i64.wrap (s.grams + x.grams) = s.grams + x.grams := IntWalk.i64_in _ (by omega)
   have w4 : IntKind.i64.wrap (s.base + x.base) = s.base + x.base := IntWalk.i64_in _ (by omega)
   have w5 : IntKind.i64.wrap (s.bar + x.bar) = s.bar + x.bar := IntWalk.i64_in _ (by omega)
   have w6 : IntKind.i64.wrap (s.saved + x.saved) = s.saved + x.saved := IntWalk.i64_in _ (by omega)
   have w7 : IntKind.i64.wrap (s.cents + x.cents) = s.cents + x.cents := IntWalk.i64_in _ (by omega)
   have d4 : decide ((k : Int) < (l.length : Int)) = true := Kac (by omega)
   have H2' := Z0 h2
   clear hc pN HC wQ wR hb h1 h2 a10 a11 a20 a21 a30 a31 a40 a41 a50 a51 a60 a61 a70 a71 b10 b11 b20 b21 b30 b31 b40 b41 b50 b51 b60 b61 b70 b71 wW
   go_wp2_with fail
   go_roundw
   case rel => exact ⟨k + 1, Z33 s x, by omega, by go_num, (Z5j HB.out (Kbd w.1.size)).alloc (by simp [World.setCell]; exact HB.out.size) _, (ZB _ _ _ (by simp [World.setCell]; exact vY)).trans ((Z5j (g := w.1.size + 1) (Z9 (w.1.size + 1) wr) (Z1 _)).block _ (Ka4 _) |>.trans H1.out), (ZB _ _ _ (by simp [World.setCell]; exact vX)).trans (Zl1 H2'.out), pZ.out.symm⟩
   case measure => simp [intOf]; omega
  ·obtain rfl : k = l.length := by omega
   rw [Kat] at HS
   have s0 := Kaa _ _ 0 _ _ _ h2
   have s1 := Kaa _ _ 1 _ _ _ h2
   have s2 := Kaa _ _ 2 _ _ _ h2
   have s3 := Kaa _ _ 3 _ _ _ h2
   have s4 := Kaa _ _ 4 _ _ _ h2
   have s5 := Kaa _ _ 5 _ _ _ h2
   have s6 := Kaa _ _ 6 _ _ _ h2
   have s7 := Kaa _ _ 7 _ _ _ h2
   have r0 := Kaa _ _ 0 _ _ _ h1
   have r1 := Kaa _ _ 1 _ _ _ h1
   have r2 := Kaa _ _ 2 _ _ _ h1
   have r3 := Kaa _ _ 3 _ _ _ h1
   have r4 := Kaa _ _ 4 _ _ _ h1
   have r5 := Kaa _ _ 5 _ _ _ h1
   have r6 := Kaa _ _ 6 _ _ _ h1
   have r7 := Kaa _ _ 7 _ _ _ h1
   have f0 := Z03 (j := 0) h1
   have f1 := Z03 (j := 1) h1
   have f2 := Z03 (j := 2) h1
   have f3 := Z03 (j := 3) h1
   have f4 := Z03 (j := 4) h1
   have f5 := Z03 (j := 5) h1
   have f6 := Z03 (j := 6) h1
   have f7 := Z03 (j := 7) h1
   have H1' := Z0 h1
   have lJ := Z0 HS.out
   clear HC wQ wR hb h1 h2 HS pB
   go_wp2_with fail
   refine bodyPost_ret (results_cell_row rfl _ _ w.1.size 42 _ (0, 0) _ rfl (Zl0 H1'.out) Tryz.underlying42 rfl (by kernel_rfl)) rfl ?_
   rw [<- lJ.out]
   exact ⟨rfl, Zdr HB.out (Z1 _)⟩
end
end Go.Proofs.YtlgajongmkhcnaaGreatDoor
