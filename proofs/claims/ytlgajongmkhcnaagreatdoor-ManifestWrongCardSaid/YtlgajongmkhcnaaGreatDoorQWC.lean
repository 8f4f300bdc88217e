import Derived.RangeFuncNested
import Derived.RangeFuncBound
import Derived.RangeFuncCalls
import Derived.RangeFuncLeaves
import Derived.Shelf.Abstract
import Derived.Shelf.RegionOpen
import Derived.WalkKit
import Derived.OwnWalkIn
import Derived.TacticsInMore
import Derived.LoopNIn
import Derived.LoopIn
import Derived.Test.YtlgajongmkhcnaaGreatDoorQWB
import Derived.Test.YtlgajongmkhcnaaGreatDoorQW7
import Derived.Test.YtlgajongmkhcnaaGreatDoorQW8
import Derived.Deep.DeepCutAuto
import Derived.Deep.CutBlock
import Derived.BigQuiet
import Derived.Test.YtlgajongmkhcnaaGreatDoorQW5
import Derived.Test.YtlgajongmkhcnaaGreatDoorQW3
import Derived.Test.YtlgajongmkhcnaaGreatDoorQW2
import Derived.OwnWalk
import Derived.Test.YtlgajongmkhcnaaGreatDoorQW0
import Derived.BigRegion
set_option maxRecDepth 100000
set_option linter.unusedVariables false
set_option linter.unusedSimpArgs false
set_option maxHeartbeats 32000000
namespace Go.Proofs.YtlgajongmkhcnaaGreatDoor
section
open Go.RowKit Go.Shelf
def Zha {β : Type} (Bs : Nat) (J : β -> World -> Prop) : Prop :=
 ∀ s A B row, J s A -> World.grownBy A B row -> (∀ r, row = some r -> r = Bs) -> J s B
def Zj5 {α : Type} (P : Program) (gf : Nat) (lb : Array Value) (encs : α -> Array Value) (Kp : World -> World -> Prop) (S : List α -> World -> Prop) (Sp : List α -> Prop) (Bs : Nat) (w : World) : Prop :=
 ∀ (l : Nat) (J Jx : List α -> World -> Prop) (W : World), Below w.1.size w W -> Zha Bs J -> Zha Bs Jx ->
  (∀ pre x W1, J pre W1 -> YieldAt Fence.wide 0 P l (encs x) W1 fun e W' =>
   (e = .returned (.bool true) /\ J (pre ++ [x]) W' /\ Kp W1 W') \/ (e = .returned (.bool false) /\ Jx (pre ++ [x]) W')) ->
  J [] W -> CallsIn Fence.wide 0 P gf (#[.func (.yield l) #[] #[]] ++ lb) W fun e W' => (∃ v, e = .returned v) /\ ((∃ xs, S xs W' /\ J xs W') \/ ∃ pre, Sp pre /\ Jx pre W')
theorem Z72 {A B : World} {row : Option Nat} {Bs k : Nat} {o : Obj} (hg : A.grownBy B row) (hr : ∀ r, row = some r -> r = Bs) (hk : A.1[k]? = some o) (pV : k ≠ Bs) : B.1[k]? = some o :=
 (hg.block k (Z5.1 hk).1 (fun e => pV (hr k e.symm))).trans hk
def Kept (D : Nat) (lp : Loop) (W : World) : Prop := W.1[D + 1]? = some (.loop lp) /\ W.1[D]? = some (.deferred (some []))
theorem Kept.grown {D Bs : Nat} {lp : Loop} {A B : World} {row : Option Nat} (h : Kept D lp A) (hB : Bs < D) (hg : A.grownBy B row) (hr : ∀ r, row = some r -> r = Bs) : Kept D lp B :=
 ⟨Z72 hg hr h.1 (by omega), Z72 hg hr h.2 (by omega)⟩
theorem Kept.put {D : Nat} {lp lp' : Loop} {W : World} (h : Kept D lp W) : Kept D lp' (W.putObj (D + 1) (.loop lp')) :=
 ⟨World.putObj_heap_same (Z5.1 h.1).1, (World.putObj_heap_other (by omega)).trans h.2⟩
theorem Kept.keeps {D : Nat} {lp : Loop} {W W' : World} (h : Kept D lp W) (hk : KeepsFrom D W W') : Kept D lp W' :=
 ⟨hk.same _ _ (by omega) h.1 rfl, hk.same _ _ (Z1 _) h.2 rfl⟩
theorem Z2q {P : Program} {α : Type} {g : Operand} {ps : Array Tmp} {assign body : Code} {Q : Exit -> Act -> World -> Prop} {a : Act} {w : World}
 {gf : Nat} {lb : Array Value} (hg : a.eval g = .func (.func gf) #[] lb) (eg : ∀ args w, (callFunc gf args).run P w = .ok (.enter gf args) w)
 {encs : α -> Array Value} {Kp : World -> World -> Prop} {S : List α -> World -> Prop} {Sp : List α -> Prop} {Bs : Nat} (rO : Bs < w.1.size) (iL : Zj5 P gf lb encs Kp S Sp Bs w)
 (iM : OwnFrom w.1.size S) (vE : ∀ {A B C : World}, Kp A B -> Kp B C -> Kp A C) (xC : ∀ (W : World) (l : Nat) (o o' : Obj), w.1.size <= l -> W.1[l]? = some o -> o.isCells = false -> Kp W (W.putObj l o')) (vF : ∀ x, (encs x).size = ps.size)
 (I : List α -> World -> Prop) (Ix : Code -> List α -> World -> Prop) (hI : OwnFrom w.1.size I) (tQ : ∀ c, OwnFrom w.1.size (Ix c)) (iN : Zha Bs I) (iO : ∀ c, Zha Bs (Ix c)) (h0 : I [] w)
 (Ax : α -> Act -> World -> Prop) (iP : ∀ x a', OwnFrom w.1.size (fun (_ : Unit) W => Ax x a' W))
 (iQ : ∀ (l : Nat) (pre : List α) (x : α) (W : World) (K : Act -> World -> Prop), I pre W -> (∀ a' W', KeepsFrom w.1.size W W' -> Kp W W' -> I pre W' -> Ax x a' W' -> K a' W') ->
  assign.wpIn (Fence.wide.inRound l) 0 P (Exit.then K (fun _ _ _ => False)) { tmps := (ps.zip (encs x)).foldl (fun t (p, v) => t.setIfInBounds p v) a.tmps, defers := [] } W)
 (iR : ∀ (l : Nat) (pre : List α) (x : α) (a' : Act) (W : World), I pre W -> Ax x a' W -> body.wpIn (Fence.wide.inRound l) 0 P (ownPostG w.1.size Kp I Ix (pre ++ [x]) W) a' W)
 (iS : ∀ (D : Nat) (xs : List α) (W : World), w.1.size <= D -> S xs W -> I xs W -> W.1[D]? = some (.deferred (some [])) -> Q .normal { a with defers := { target := .collected D, args := #[] } :: a.defers } W)
 (iT : ∀ (D : Nat) (c : Code) (pre : List α) (W : World), w.1.size <= D -> Sp pre -> Ix c pre W -> W.1[D]? = some (.deferred (some [])) -> c.wpIn Fence.wide 0 P Q { a with defers := { target := .collected D, args := #[] } :: a.defers } W) :
 (Code.rangeFunc g ps assign body).wpIn Fence.wide 0 P Q a w := by
 refine wpIn_rangeFunc ?_
 intro fn iU
 rw [show (Fence.wide).round = none from rfl]
 generalize hD : w.1.size = D at *
 let rec0 : LoopState -> Option Code -> Loop := fun st pe => { state := st, pending := pe, fn, tmps := a.tmps, params := ps, assign, body, defers := D }
 have vG := run_enterLoop_outer (P := P) (w := w) fn a.tmps ps assign body
 rw [hD] at vG
 generalize qU : (w.alloc (.deferred (some []))).alloc (.loop { state := .ready, pending := none, fn, tmps := a.tmps, params := ps, assign, body, defers := D }) = W1 at vG
 have iV : Kept D (rec0 .ready none) W1 := by
  rw [<- qU]
  constructor
  ·have := World.alloc_heap_new (w.alloc (.deferred (some []))) (.loop (rec0 .ready none))
   rw [Z6, hD] at this
   exact this
  ·have := (ZB (w.alloc (.deferred (some []))) (.loop (rec0 .ready none)) w.1.size (by simp)).trans (World.alloc_heap_new w _)
   rw [hD] at this
   exact this
 have iW : I [] W1 := by rw [<- qU]; exact hI.alloc _ (hI.alloc _ h0)
 have pA : Below w.1.size w W1 := by rw [<- qU]; exact ((Z9 _ w).alloc (Z1 _) _).alloc (by simp) _
 refine ⟨D + 1, _, W1, { target := .fn (.func gf) lb, args := #[.func (.yield (D + 1)) #[] #[]] }, W1, gf, #[.func (.yield (D + 1)) #[] #[]] ++ lb, W1, vG, ?_, ?_, ?_, ?_, ?_⟩
 ·simp only [resolve, hg]
  simp [go_sem]
 ·intro f' _; trivial
 ·simp [invoke, go_sem, eg]
 ·intro h; cases h
 refine (iL (D + 1) (fun pre W => I pre W /\ Kept D (rec0 .ready none) W) (fun pre W => ∃ c, Ix c pre W /\ Kept D (rec0 .done (some c)) W) W1 pA
  (fun s A B row hs pG hr => ⟨iN s A B row hs.1 pG hr, hs.2.grown rO pG hr⟩)
  (fun s A B row hs pG hr => by obtain ⟨c, hc, hk⟩ := hs; exact ⟨c, iO c s A B row hc pG hr, hk.grown rO pG hr⟩) ?_ ⟨iW, iV⟩).mono ?_
 ·rintro pre x W ⟨hi, hk⟩
  have hy := run_yield (P := P) (args := encs x) hk.1 (vF x)
  refine ⟨fn, _, assign, body, hy, roundIn_of_wpIn iU (iQ _ pre x W _ hi ?_)⟩
  intro a' Wa iX iY iZ tR
  have sP := hk.keeps iX
  refine ⟨_, run_beginRound sP.1 rfl, ?_⟩
  have tS : Kept D { rec0 .ready none with state := .busy } (Wa.putObj (D + 1) (.loop { rec0 .ready none with state := .busy })) := sP.put
  refine wpIn_mono (iR _ pre x a' _ (hI.putObj _ iZ (by omega) sP.1 rfl) ((iP x a').putObj (s := ()) _ tR (by omega) sP.1 rfl)) ?_
  have jA : Kp W (Wa.putObj (D + 1) (.loop { rec0 .ready none with state := .busy })) := vE iY (xC _ _ _ _ (by omega) sP.1 rfl)
  rintro e a3 W3 hp
  cases e with
  | normal =>
   have pN := tS.keeps hp.1
   exact ⟨_, _, run_endRound (P := P) none pN.1, .inl ⟨rfl, ⟨hI.putObj _ hp.2.2 (by omega) pN.1 rfl, pN.put⟩, vE jA (vE hp.2.1 (xC _ _ _ _ (by omega) pN.1 rfl))⟩⟩
  | ret => have pN := tS.keeps hp.1; exact ⟨_, _, run_endRound (P := P) (some .ret) pN.1, .inr ⟨rfl, .ret, (tQ _).putObj _ hp.2 (by omega) pN.1 rfl, pN.put⟩⟩
  | exit id => have pN := tS.keeps hp.1; exact ⟨_, _, run_endRound (P := P) (some (.exit id)) pN.1, .inr ⟨rfl, .exit id, (tQ _).putObj _ hp.2 (by omega) pN.1 rfl, pN.put⟩⟩
  | goto t => have pN := tS.keeps hp.1; exact ⟨_, _, run_endRound (P := P) (some (.goto t)) pN.1, .inr ⟨rfl, .goto t, (tQ _).putObj _ hp.2 (by omega) pN.1 rfl, pN.put⟩⟩
  | panic ch => exact hp.elim
  | outgrown => exact hp.elim
 ·rintro e W2 ⟨⟨v, rfl⟩, (⟨xs, hS, hi, hk⟩ | ⟨pre, jB, c, hi, hk⟩)⟩
  ·exact ⟨none, _, run_endLoop (P := P) hk.1 (by simp [rec0]), iS _ xs _ (Z1 _) (iM.putObj _ hS (by omega) hk.1 rfl) (hI.putObj _ hi (by omega) hk.1 rfl) hk.put.2⟩
  ·exact ⟨some c, _, run_endLoop (P := P) hk.1 (by simp [rec0]), iT _ c pre _ (Z1 _) jB ((tQ c).putObj _ hi (by omega) hk.1 rfl) hk.put.2⟩
end
section
open Go.RowKit Go.Sort
theorem Z89 (i : Nat) (x : Int) (b : List Int) (k : Nat) (l : List Int) : (Z4J i x b k l).length = l.length := by
 induction k with
 | zero => rfl
 | succ k ih => rw [Z47]; dsimp only; split <;> simp [ih]
theorem Z5o (a b : List Int) (k : Nat) : (Z2x a b k).length = a.length + b.length - 1 := by
 induction k with
 | zero => simp [Z2x]
 | succ k ih => rw [Z46]; split <;> simp [ih, Z89]
theorem Z38 {l : List Int} {i : Nat} (h : i < l.length) : ent l i = l[i] := by unfold ent; rw [Z2, Z3 h]; rfl
theorem ZgG (xs ys : List Int) (va vb : Value) (w : World) (hx : RdInts w va xs) (hy : RdInts w vb ys) (h1 : 1 <= xs.length) (h2 : 1 <= ys.length) (h3 : xs.length + ys.length <= 100000)
 (bx : ∀ x ∈ xs, -1 <= x /\ x <= 1000000000000) (by_ : ∀ y ∈ ys, -1 <= y /\ y <= 1000000000000) :
 Calls Tryz.prog 133 #[va, vb] w fun e w' => ∃ g, e = .returned (.slice (some ⟨g, 0, none⟩) (xs.length + ys.length - 1) (xs.length + ys.length - 1)) /\ w.1.size <= g /\ IntsAt w' g (Z2U xs ys) /\ Below w.1.size w w' := by
 obtain ⟨a, ca, rfl, tR⟩ := hx
 obtain ⟨b, cb, rfl, xD⟩ := hy
 obtain ⟨gx, ox, rfl, jC, rP⟩ := tR (by omega)
 obtain ⟨gy, oy, rfl, jD, xE⟩ := xD (by omega)
 have HX := Z0 rP
 have HY := Z0 xE
 have pM := Z0 bx
 have jE := Z0 by_
 clear tR xD rP xE bx by_
 obtain ⟨n, hn⟩ : ∃ n, n = xs.length + ys.length - 1 := ⟨_, rfl⟩
 rw [<- hn]
 have sQ : ((xs.length : Int) + (ys.length : Int) - 1) = (n : Int) := by omega
 have jF := Z0 sQ
 clear sQ
 go_enter Tryz.func133, Tryz.ntmps133
 go_wp2_with (go_at_call 100; rw [jF.out]; refine (Z5c (-1) n w.1.size 0 1 _ (by omega) (by simp [go_sem]) (by simp)).mono ?_; rintro e w1 ⟨g, rfl, hg, hI, hb⟩)
 have hB : Below w.1.size w w1 := Z0m (Z9 _ w) (Z1 _) hb
 have hg' : w.1.size <= g := by simp at hg; omega
 clear hg hb
 have rQ : IntsAt w1 g (Z2x xs ys 0) := by unfold Z2x; rw [<- hn]; exact hI
 clear hI
 go_loopw [20] (fun i wr => ∃ k : Nat, k <= xs.length /\ i = .int .i64 k /\ Below w.1.size w wr /\ IntsAt wr g (Z2x xs ys k)) (fun i _ => xs.length - (intOf i).toNat)
 case atStart => exact ⟨0, ZE _, rfl, hB, rQ⟩
 case round =>
  clear hB rQ
  obtain ⟨k, hk, rfl, hB, hI⟩ := hrel
  by_cases pB : k < xs.length
  ·have c1 : wr.cell? ⟨gx, ox + k, none⟩ = some (.int .i64 xs[k]) := (hB.cell (p := ⟨gx, ox + k, none⟩) jC).trans (HX.out k pB)
   have bxk := pM.out _ (Z4 pB)
   have hs := Z46 xs ys k
   have tT := Z5o xs ys k
   rw [Z38 pB] at hs
   obtain ⟨x, hx⟩ : ∃ x, x = xs[k] := ⟨_, rfl⟩
   rw [<- hx] at c1 bxk hs
   clear hx
   by_cases rC : x = -1
   ·rw [if_pos rC] at hs
    have hq : (x == -1) = true := by simp [rC]
    have HS := Z0 hs
    clear hs
    go_wp2_with fail
    go_roundw
    case rel => exact ⟨k + 1, by omega, by go_num, hB, by rw [HS.out]; exact hI⟩
    case measure => simp [intOf]; omega
   ·rw [if_neg rC] at hs
    have hq : (x == -1) = false := by simp [rC]
    have HS := Z0 hs
    clear hs
    go_wp2_with fail
    obtain ⟨L, hL⟩ : ∃ L, L = Z2x xs ys k := ⟨_, rfl⟩
    rw [<- hL] at hI tT HS
    clear hL
    go_loopw [29] (fun j wq => ∃ m : Nat, m <= ys.length /\ j = .int .i64 m /\ Below w.1.size w wq /\ IntsAt wq g (Z4J k x ys m L)) (fun j _ => ys.length - (intOf j).toNat)
    case atStart => exact ⟨0, ZE _, rfl, hB, hI⟩
    case round =>
     clear hB hI c1
     obtain ⟨m, hm, rfl, hB, hI⟩ := hrel
     by_cases vH : m < ys.length
     ·have c2 : wr.cell? ⟨gy, oy + m, none⟩ = some (.int .i64 ys[m]) := (hB.cell (p := ⟨gy, oy + m, none⟩) jD).trans (HY.out m vH)
      have byk := jE.out _ (Z4 vH)
      have hs := Z47 k x ys m L
      have jG := Z89 k x ys m L
      dsimp only at hs
      rw [Z38 vH] at hs
      obtain ⟨y, hy⟩ : ∃ y, y = ys[m] := ⟨_, rfl⟩
      rw [<- hy] at c2 byk hs
      clear hy
      by_cases tU : y = -1
      ·rw [if_pos tU] at hs
       have xF : (y != -1) = false := by simp [tU]
       have tV := Z0 hs
       clear hs
       go_wp2_with fail
       go_roundw
       case rel => exact ⟨m + 1, by omega, by go_num, hB, by rw [tV.out]; exact hI⟩
       case measure => simp [intOf]; omega
      ·rw [if_neg tU] at hs
       have xF : (y != -1) = true := by simp [tU]
       have tV := Z0 hs
       clear hs
       obtain ⟨M, hM⟩ : ∃ M, M = Z4J k x ys m L := ⟨_, rfl⟩
       rw [<- hM] at hI jG tV
       clear hM
       have c3 := hI.cell (i := k + m) (by omega)
       have c4 := hI.free (k + m)
       obtain ⟨z, hz⟩ : ∃ z, z = M.getD (k + m) (-1) := ⟨_, rfl⟩
       rw [<- hz] at c3
       have HZ := Z0 hz
       clear hz
       go_wp2_with fail
       go_roundw
       case rel => exact ⟨m + 1, by omega, by go_num, hB.setCell (p := ⟨g, k + m, none⟩) hg' _, by rw [tV.out, show ent M (k + m) = z from HZ.out.symm]; exact hI.set _ _⟩
       case measure => simp [intOf]; omega
     ·obtain rfl : m = ys.length := by omega
      go_wp2_with fail
      go_roundw
      case rel => exact ⟨k + 1, by omega, by go_num, hB, by rw [HS.out]; exact hI⟩
      case measure => simp [intOf]; omega
  ·obtain rfl : k = xs.length := by omega
   go_wp2_with fail
   go_ret
   exact ⟨g, by rw [hn]; rfl, hg', hI, hB⟩
end
section
open Go.RowKit Go.Sort Go.Shelf Go.IntWalk
attribute [local go_sem] Oper.semAt_some
def SavAt (w : World) (X Y : Nat) (passes mn cents : Int) : Prop :=
 w.cell? ⟨X, 0, none⟩ = some (.int .i64 passes) /\ w.cell? ⟨Y, 3, none⟩ = some (.int .i64 mn) /\ w.cell? ⟨Y, 4, none⟩ = some (.int .i64 cents)
theorem SavAt.below {w w' : World} {X Y B : Nat} {p m c : Int} (h : SavAt w X Y p m c) (hb : Below B w w') (hX : X < B) (hY : Y < B) : SavAt w' X Y p m c :=
 ⟨(hb.cell (p := ⟨X, 0, none⟩) hX).trans h.1, (hb.cell (p := ⟨Y, 3, none⟩) hY).trans h.2.1, (hb.cell (p := ⟨Y, 4, none⟩) hY).trans h.2.2⟩
theorem Z59 (come passes mn cents : Int) (X Y : Nat) (w : World) (h : SavAt w X Y passes mn cents) (hp : 0 <= passes /\ passes <= 1000000) (hc : 0 <= come /\ come <= 1000000) (pD : 0 <= cents /\ cents <= 1000000) :
 Calls Tryz.prog 131 #[.int .i64 come, .pointer (some ⟨X, 0, none⟩), .pointer (some ⟨Y, 0, none⟩)] w fun e w' => e = .returned (.int .i64 (Z0h mn cents passes come)) /\ w = w' := by
 obtain ⟨c1, c2, c3⟩ := h
 unfold Z0h
 obtain ⟨t, ht⟩ : ∃ t, t = come - passes := ⟨_, rfl⟩
 rw [<- ht]
 have jH : 0 <= t -> 0 <= t * cents /\ t * cents <= 1000000000000 := fun h0 => by
  refine ⟨Kdg h0 pD.1, ?_⟩
  have h1 : t * cents <= 1000000 * 1000000 := Int.mul_le_mul (by omega) pD.2 pD.1 (by omega)
  omega
 have HT := Z0 ht
 by_cases h1 : t < 0
 ·rw [if_pos (.inl h1)]
  go_enter Tryz.func131, Tryz.ntmps131
  go_wp2_with fail
  rw [<- HT.out]
  go_wp2_with fail
  go_ret
  exact ⟨rfl, rfl⟩
 ·by_cases h2 : 0 < t /\ t < mn
  ·rw [if_pos (.inr h2)]
   obtain ⟨h2, h3⟩ := h2
   go_enter Tryz.func131, Tryz.ntmps131
   go_wp2_with fail
   rw [<- HT.out]
   go_wp2_with fail
   go_ret
   exact ⟨rfl, rfl⟩
  ·rw [if_neg (by omega)]
   obtain ⟨xG, jI⟩ := jH (by omega)
   by_cases h4 : 0 < t
   ·have h5 : ¬ t < mn := by omega
    go_enter Tryz.func131, Tryz.ntmps131
    go_wp2_with fail
    rw [<- HT.out]
    go_wp2_with fail
    go_ret
    exact ⟨Z6t (k := .i64) (wrap64_in _ (by omega)), rfl⟩
   ·go_enter Tryz.func131, Tryz.ntmps131
    go_wp2_with fail
    rw [<- HT.out]
    go_wp2_with fail
    go_ret
    exact ⟨Z6t (k := .i64) (wrap64_in _ (by omega)), rfl⟩
def KC (Lb : Nat) (A B : World) : Prop := A.1.size <= B.1.size /\ ∀ k c t fr, (k ≠ Lb \/ t ≠ 35) -> A.1[k]? = some (.cells c t fr) -> B.1[k]? = some (.cells c t fr)
theorem KC.trans {Lb : Nat} {A B C : World} (h : KC Lb A B) (h' : KC Lb B C) : KC Lb A C :=
 ⟨Kaw h.1 h'.1, fun k c t fr hk ha => h'.2 k c t fr hk (h.2 k c t fr hk ha)⟩
theorem KC.below {Lb : Nat} {A B : World} (h : Below A.1.size A B) : KC Lb A B :=
 ⟨h.size, fun k c t fr _ ha => (h.block k (Z5.1 ha).1).trans ha⟩
theorem KC.put {Lb : Nat} {W : World} {l : Nat} {o o' : Obj} (hl : W.1[l]? = some o) (ho : o.isCells = false) : KC Lb W (W.putObj l o') := by
 have hg := grownBy_putObj' W l o'
 refine ⟨hg.size, fun k c t fr _ ha => (hg.block k (Z5.1 ha).1 (fun e => ?_)).trans ha⟩
 cases e
 rw [hl] at ha; cases ha; cases ho
theorem RowJ.kc {Lb base : Nat} {A B : World} {v : Value} {zs : List Int} (h : RowJ A base v zs) (hk : KC Lb A B) : RowJ B base v zs := by
 obtain ⟨a, cap, hv, hc⟩ := h
 refine ⟨a, cap, hv, fun h0 => ?_⟩
 obtain ⟨g, off, cur, ha, hb, hh, pD⟩ := hc h0
 exact ⟨g, off, cur, ha, hb, hk.2 g cur _ _ (.inr (by decide)) hh, pD⟩
def RdRowsX (Lb : Nat) (w : World) (base : Nat) (v : Value) (ts : List (List Int)) : Prop := RdRows w base v ts /\ ∀ g off n c, 0 < ts.length -> v = .slice (some ⟨g, off, none⟩) n c -> g ≠ Lb
theorem RdRowsX.kc {Lb base : Nat} {A B : World} {v : Value} {ts : List (List Int)} (h : RdRowsX Lb A base v ts) (hk : KC Lb A B) : RdRowsX Lb B base v ts := by
 obtain ⟨⟨a, cap, hv, hc⟩, pV⟩ := h
 refine ⟨⟨a, cap, hv, fun h0 => ?_⟩, pV⟩
 obtain ⟨g, off, ha, ⟨cur, hg⟩, pD⟩ := hc h0
 have hg' := hk.2 g cur _ _ (.inl (pV g off _ _ h0 (by rw [hv, ha]))) hg
 refine ⟨g, off, ha, ⟨cur, hg'⟩, fun i hi => ?_⟩
 obtain ⟨u, h1, h2⟩ := pD i hi
 refine ⟨u, ?_, h2.kc hk⟩
 rw [Kaa B g (off + i) _ _ _ hg', <- Kaa A g (off + i) _ _ _ hg]
 exact h1
theorem RdRowsX.below {Lb base : Nat} {A B : World} {v : Value} {ts : List (List Int)} (h : RdRowsX Lb A base v ts) (hb : Below A.1.size A B) : RdRowsX Lb B base v ts := ⟨h.1.below hb, h.2⟩
theorem Boxed.kc {Lb C : Nat} {A B : World} {t : TypeId} {v : Value} (h : Boxed A C t v) (hk : KC Lb A B) (hC : C ≠ Lb) : Boxed B C t v := hk.2 C _ _ _ (.inl hC) h
structure Yld (n : Nat) where
 i : Nat
 hi : i < n
 a : Option Addr
 len : Nat
 cap : Nat
def Yld.sl {n : Nat} (x : Yld n) : Value := .slice x.a x.len x.cap
def MergS (base : Nat) (ts : List (List Int)) (xs : List (Yld ts.length)) (W : World) : Prop :=
 xs.length = ts.length /\ ∀ k (h : k < xs.length), xs[k].i = ts.length - 1 - k /\ RowJ W base xs[k].sl (Z07 ts (k + 1))
theorem MergS.own (base B : Nat) (ts : List (List Int)) : OwnFrom B (MergS base ts) := fun s W W' row hs hg hr =>
 ⟨hs.1, fun k h => ⟨(hs.2 k h).1, (hs.2 k h).2.kept hg (fun g e => .inr (fun cur fr hh => by
  obtain ⟨_, o, ho, hc⟩ := hr g e
  rw [hh] at ho; cases ho; cases hc))⟩⟩
structure MOk (ts : List (List Int)) : Prop where
 n : ts.length <= 5000
 one : ∀ t ∈ ts, 1 <= t.length /\ t.length <= 5000 /\ ∀ x ∈ t, -1 <= x /\ x <= 1000000000000
 all : ∀ k, k <= ts.length -> 1 <= (Z07 ts k).length /\ (Z07 ts k).length <= 5000 /\ ∀ x ∈ Z07 ts k, -1 <= x /\ x <= 1000000000000
theorem Z5G (B base Lb : Nat) (v : Value) (ts : List (List Int)) (w : World) (hM : MOk ts) (hb : Boxed w B 109 v) (hR : RdRowsX Lb w base v ts) (hL : B ≠ Lb) (vI : base <= w.1.size) :
 Zj5 Tryz.prog 132 #[.pointer (some ⟨B, 0, none⟩)] (fun x : Yld ts.length => #[.int .i64 x.i, x.sl]) (KC Lb) (MergS base ts) (fun _ => True) B w := by
 intro l J Jx W hW hJ jJ hY h0
 replace hb : Boxed W B 109 v := (hW.block _ hb.lt).trans hb
 replace hR := hR.below hW
 replace vI : base <= W.1.size := Kaw vI hW.size
 clear hW
 have HY := Z0 hY
 have HJ := Z0 hJ
 have HM := Z0 hM
 have hn := hM.n
 obtain ⟨a, cap, rfl⟩ : ∃ a cap, v = .slice a ts.length cap := by obtain ⟨⟨a, cap, hv, _⟩, _⟩ := hR; exact ⟨a, cap, hv⟩
 refine callsIn_of_wp Tryz.func132 rfl trivial ?_ rfl
 simp only [Tryz.ntmps132, List.size_toArray, Ka9, List.length_nil, Nat.reduceAdd, Nat.reduceSub, Array.replicate_succ, Array.replicate_zero, List.push_toArray, List.append_toArray, Kca, Kc9]
 have xH := hJ _ _ _ none h0 (World.grownBy_alloc W (.cells #[.int .i64 0] 3) none) (fun _ e => by cases e)
 have rQ : IntsAt (W.alloc (.cells #[.int .i64 0] 3)) W.1.size (Z07 ts 0) := Z02 _ _
 have xI : RowJ (W.alloc (.cells #[.int .i64 0] 3)) base (.slice (some ⟨W.1.size, 0, none⟩) 1 1) (Z07 ts 0) := RowJ.of_ints rQ vI 1
 have pI := hb.alloc (.cells #[.int .i64 0] 3)
 have tW := hR.below ((Z9 _ W).alloc (Z1 _) (.cells #[.int .i64 0] 3))
 have sR : base <= (W.alloc (.cells #[.int .i64 0] 3)).1.size := by simp; omega
 have c1 := pI.cell
 clear hY hJ jJ hM h0 hb rQ hR
 gi_wp2_with fail
 clear c1
 gi_loopw [3, 4] (fun tb i wr => ∃ r : Nat, r <= ts.length /\ i = .int .i64 ((r : Int) - 1) /\ base <= wr.1.size /\ Boxed wr B 109 (.slice a ts.length cap) /\ RdRowsX Lb wr base (.slice a ts.length cap) ts /\ RowJ wr base tb (Z07 ts (ts.length - r)) /\
  ∃ pre : List (Yld ts.length), J pre wr /\ pre.length = ts.length - r /\ ∀ k (h : k < pre.length), pre[k].i = ts.length - 1 - k /\ RowJ wr base pre[k].sl (Z07 ts (k + 1))) (fun _ i _ => (intOf i + 1).toNat)
 case atStart => exact ⟨ts.length, Z1 _, rfl, sR, pI, tW, by rw [Kb3]; exact xI, [], xH, by simp, fun k h => absurd h (by simp)⟩
 case round =>
  clear sR pI tW xI xH
  obtain ⟨r, hr, rfl, hz, hb, hR, hT, pre, hj, tX, vJ⟩ := hrel
  rcases r with _ | m
  ·gi_wp2_with fail
   go_end0
   refine ⟨⟨_, rfl⟩, .inl ⟨pre, ⟨by rw [tX, Nat.sub_zero], vJ⟩, hj⟩⟩
  ·have e1 : (((m + 1 : Nat) : Int) - 1) = (m : Int) := by omega
   rw [e1]
   have c1 := hb.cell
   have hm : m < ts.length := by omega
   have hR' := hR
   obtain ⟨⟨a', cap', hv, hc⟩, _⟩ := hR'
   injection hv with q1 q2 q3
   subst q1; subst q3
   obtain ⟨g, off, rfl, ⟨cur, hg⟩, pD⟩ := hc (by omega)
   obtain ⟨u, cu, hu⟩ := pD m hm
   clear pD hc
   have xJ : Z07 ts (ts.length - m) = Z2U ts[m] (Z07 ts (ts.length - (m + 1))) := by
    rw [show ts.length - m = (ts.length - (m + 1)) + 1 by omega]
    show Z2U (ts.getD (ts.length - 1 - (ts.length - (m + 1))) []) _ = _
    rw [show ts.length - 1 - (ts.length - (m + 1)) = m by omega, Z2, Z3 hm]
    rfl
   have jK : Hid (Calls Tryz.prog 133 #[u, u3] wr fun e w' => ∃ (g L : Nat) (hi : m < ts.length), e = .returned (.slice (some ⟨g, 0, none⟩) L L) /\ RowJ w' base (.slice (some ⟨g, 0, none⟩) L L) (Z07 ts (ts.length - m)) /\ Below wr.1.size wr w') := by
    obtain ⟨l1, l2, l3⟩ := HM.out.one _ (Z4 hm)
    obtain ⟨k1, k2, k3⟩ := HM.out.all (ts.length - (m + 1)) (by omega)
    refine (ZgG ts[m] (Z07 ts (ts.length - (m + 1))) u u3 wr hu.rd hT.rd l1 k1 (by omega) l3 k3).mono ?_
    rintro e w' ⟨g, rfl, hg, hI, hb⟩
    refine ⟨g, _, hm, rfl, ?_, hb⟩
    rw [xJ]
    have jL : (Z2U ts[m] (Z07 ts (ts.length - (m + 1)))).length = ts[m].length + (Z07 ts (ts.length - (m + 1))).length - 1 := Z5o _ _ _
    rw [<- jL]
    exact RowJ.of_ints hI (by omega) _
   clear hu xJ e1
   have HT := Z0 hT
   have xK := Z0 vJ
   have xL := Z0 tX
   have sS := Z0 hg
   clear hT vJ tX hg
   gi_wp2_with (refine ⟨trivial, rfl, ?_⟩; gi_at_call 133; refine (callsIn_wide.2 jK.out).mono ?_; rintro e w1 ⟨g1, L, hi, rfl, xM, pA⟩; have jM := HJ.out _ _ _ none hj (Z0a pA) (fun _ e => by cases e); obtain ⟨fn, tmps, assign, body, hy, xN⟩ := HY.out _ ⟨m, hi, some ⟨g1, 0, none⟩, L, L⟩ _ jM; dsimp only [Yld.sl] at hy; have jN := Z0 xN; clear xN)
   refine ⟨rfl, jN.out.mono ?_⟩
   rintro e W3 (⟨rfl, jO, pN⟩ | ⟨rfl, jP⟩)
   ·have tY := (KC.below (Lb := Lb) pA).trans pN
    gi_wp2_with fail
    go_roundw
    case rel =>
     refine ⟨m, by omega, by go_num, Kaw hz tY.1, Boxed.kc hb tY hL, hR.kc tY, xM.kc pN, _, jO, by rw [ZC, xL.out]; simp; omega, fun k h => ?_⟩
     have tX := xL.out
     by_cases hk : k < pre.length
     ·rw [Kbl hk]
      exact ⟨(xK.out k hk).1, (xK.out k hk).2.kc tY⟩
     ·have jQ : k = pre.length := by rw [ZC] at h; simp at h; omega
      subst jQ
      rw [Kb7 (Z1 _)]
      simp only [Kb3, List.getElem_cons_zero]
      refine ⟨by omega, ?_⟩
      rw [show pre.length + 1 = ts.length - m by omega]
      exact xM.kc pN
    case measure => simp [intOf]
   ·gi_wp2_with fail
    refine bodyPost_ret (results_none rfl _ _ _) rfl ?_
    exact ⟨⟨_, rfl⟩, .inr ⟨_, trivial, jP⟩⟩
theorem Z82 (a : Option Addr) (n c : Nat) (w : World) : Calls Tryz.prog 102 #[.slice a n c] w fun e w' => e = .returned (.func (.func 132) #[] #[.pointer (some ⟨w.1.size, 0, none⟩)]) /\ w.alloc (.cells #[.slice a n c] 109) = w' := by
 go_enter Tryz.func102, Tryz.ntmps102
 go_wp2
 go_ret
 exact ⟨rfl, rfl⟩
theorem Z9l (l : Lev) (sv : Value) (passes : Int) (w : World) : Calls Tryz.prog 101 #[lvA l sv, .int .i64 passes] w fun e w' => e = .returned (.func (.func 131) #[] #[.pointer (some ⟨w.1.size + 1, 0, none⟩), .pointer (some ⟨w.1.size, 0, none⟩)]) /\
 (w.alloc (Z5V l sv)).alloc (.cells #[.int .i64 passes] 3) = w' := by
 unfold lvA Z5V
 go_enter Tryz.func101, Tryz.ntmps101
 go_wp2
 go_ret
 exact ⟨rfl, rfl⟩
end
section
open Go.RowKit Go.Sort Go.Shelf Go.IntWalk
theorem Tryz.infoSl : (Tryz.prog.info? 35).map (fun i => (i.zero, i.size, i.bytes)) = some (some (.slice none 0 0), 1, 24) := by kernel_rfl
def pOf (x : Grp) : PGrp := ⟨x.lvl, x.up, x.items⟩
def Z0o (Gs : List Grp) : List PGrp := Gs.map pOf
theorem Z1S (Gs : List Grp) : (Z0o Gs).length = Gs.length := by unfold Z0o; simp
theorem Z2z {Gs : List Grp} {g : Nat} (h : g < Gs.length) : Z0c (Z0o Gs) g = pOf Gs[g] := by
 unfold Z0c Z0o
 rw [Z2, Kal, Z3 h]
 rfl
def TreeAt (w : World) (T : Nat) (v vg : Value) (n BB TB PB : Nat) : Prop :=
 w.1[T]? = some (.cells #[v, vg, .slice (some ⟨BB, 0, none⟩) n n, .slice (some ⟨TB, 0, none⟩) n n, .slice (some ⟨PB, 0, none⟩) n n] 153 (0, 0))
structure TreeW (w : World) (T BB TB PB base : Nat) (v vg : Value) (Gs : List Grp) (tabs : Nat -> List Int) (m : Nat) (ps : List Int) : Prop where
 tr : TreeAt w T v vg Gs.length BB TB PB
 bl : ∃ f : Nat -> Value, w.rowIs BB 35 Gs.length f /\ ∀ g, g < Gs.length -> RowJ w base (f g) ((Z04 (Z0o Gs) g).map Int.ofNat)
 tb : ∃ f : Nat -> Value, w.rowIs TB 35 Gs.length f /\ ∀ g, g < m -> RowJ w base (f g) (tabs g)
 pv : IntsAt w PB ps
 pl : ps.length = Gs.length
 lt : T < base /\ BB < base /\ TB < base /\ PB < base /\ base <= w.1.size
 ne : T ≠ BB /\ T ≠ TB /\ T ≠ PB /\ BB ≠ TB /\ BB ≠ PB /\ TB ≠ PB
 gr : RdGrps w vg Gs
theorem Z0V {w w' : World} {b : Nat} {t : TypeId} {n : Nat} {f : Nat -> Value} {B : Nat} (h : w.rowIs b t n f) (hb : Below B w w') (hB : b < B) : w'.rowIs b t n f := h.of_block (hb.block b hB)
theorem TreeW.below {w w' : World} {T BB TB PB base : Nat} {v vg : Value} {Gs : List Grp} {tabs : Nat -> List Int} {m : Nat} {ps : List Int} (h : TreeW w T BB TB PB base v vg Gs tabs m ps) (hb : Below w.1.size w w') : TreeW w' T BB TB PB base v vg Gs tabs m ps := by
 obtain ⟨l1, l2, l3, l4, l5⟩ := h.lt
 obtain ⟨f, f1, f2⟩ := h.bl
 obtain ⟨k, k1, k2⟩ := h.tb
 exact ⟨(hb.block T (by omega)).trans h.tr, ⟨f, Z0V f1 hb (by omega), fun g hg => (f2 g hg).below hb⟩, ⟨k, Z0V k1 hb (by omega), fun g hg => (k2 g hg).below hb⟩,
  (hb.block PB (by omega)).trans h.pv, h.pl, ⟨l1, l2, l3, l4, Kaw l5 hb.size⟩, h.ne, h.gr.below hb⟩
theorem TreeAt.c {w : World} {T : Nat} {v vg : Value} {n BB TB PB : Nat} (h : TreeAt w T v vg n BB TB PB) : w.cell? ⟨T, 0, none⟩ = some v /\ w.cell? ⟨T, 1, none⟩ = some vg /\ w.cell? ⟨T, 2, none⟩ = some (.slice (some ⟨BB, 0, none⟩) n n) /\
 w.cell? ⟨T, 3, none⟩ = some (.slice (some ⟨TB, 0, none⟩) n n) /\ w.cell? ⟨T, 4, none⟩ = some (.slice (some ⟨PB, 0, none⟩) n n) :=
 ⟨Kaa w T 0 _ _ _ h, Kaa w T 1 _ _ _ h, Kaa w T 2 _ _ _ h, Kaa w T 3 _ _ _ h, Kaa w T 4 _ _ _ h⟩
theorem Z3V (w : World) (u : Value) (T : TypeId) : ∀ j x, ([u])[j]? = some x -> (w.alloc (.cells #[u] T)).cell? ((⟨w.1.size, 0, none⟩ : Addr).add j) = some x := Z0f w [u] T
theorem Z9A (T BB TB PB base : Nat) (v vg : Value) (Gs : List Grp) (tabs : Nat -> List Int) (m : Nat) (ps : List Int) (g : Nat) (w : World) (h : TreeW w T BB TB PB base v vg Gs tabs m ps) (hg : g < Gs.length) (hn : Gs.length <= 100000)
 (rD : ∀ x ∈ Z04 (Z0o Gs) g, x < m) (hm : m <= Gs.length) :
 Calls Tryz.prog 103 #[.pointer (some ⟨T, 0, none⟩), .int .i64 g] w fun e w' => ∃ a cap, e = .returned (.slice a (Z04 (Z0o Gs) g).length cap) /\ Below w.1.size w w' /\
  RdRows w' base (.slice a (Z04 (Z0o Gs) g).length cap) ((Z04 (Z0o Gs) g).map tabs) /\ ∀ b off, a = some ⟨b, off, none⟩ -> w.1.size <= b := by
 obtain ⟨l1, l2, l3, l4, l5⟩ := h.lt
 obtain ⟨fB, f1, f2⟩ := h.bl
 obtain ⟨fT, k1, k2⟩ := h.tb
 obtain ⟨c0, c1, c2, c3, c4⟩ := h.tr.c
 have qO := f2 g hg
 have cb := f1.cell hg
 have jR : (Z04 (Z0o Gs) g).length <= 100000 := by
  unfold Z04
  refine Kaw (Kbw _ _) ?_
  rw [Kay, Z1S]; exact hn
 obtain ⟨subs, hS⟩ : ∃ s, s = Z04 (Z0o Gs) g := ⟨_, rfl⟩
 rw [<- hS] at qO rD jR ⊢
 clear hS
 obtain ⟨aB, capB, tZ⟩ := qO.len
 rw [tZ] at cb
 rw [Z7] at cb tZ
 have xO := qO.rd
 rw [tZ] at xO
 obtain ⟨a', cap', hv', pD⟩ := xO
 have q1 : aB = a' := by injection hv'
 subst q1
 clear hv' tZ qO f2
 obtain ⟨j0, hj⟩ := info_parts Tryz.infoSl
 have HJ := Z0 hj
 have jS := Z0 pD
 have xP := Z0 k2
 have xQ := Z0 rD
 clear hj pD k2 rD c0 c1 c4 h f1
 go_enter Tryz.func103, Tryz.ntmps103
 go_wp2_with fail
 go_loopw [5, 16] (fun lv i wr => ∃ k : Nat, k <= subs.length /\ i = .int .i64 k /\ Below w.1.size w wr /\ wr.ownsRow w.1.size 35 1 lv k ((subs.take k).map fT)) (fun _ i _ => subs.length - (intOf i).toNat)
 case atStart => exact ⟨0, ZE _, rfl, Z9 _ _, Kbb _ _ _ _⟩
 case round =>
  clear c2 cb
  obtain ⟨k, hk, rfl, hB, hO⟩ := hrel
  by_cases pB : k < subs.length
  ·obtain ⟨gb, ob, rfl, sT, xR⟩ := jS.out (by rw [Z7]; omega)
   have cs : wr.cell? ⟨gb, ob + k, none⟩ = some (.int .i64 (subs[k] : Int)) := (hB.cell (p := ⟨gb, ob + k, none⟩) sT).trans (by rw [xR k (by rw [Z7]; exact pB), Kba]; rfl)
   have xS := xQ.out _ (Z4 pB)
   have xT : (subs.take (k + 1)).map fT = (subs.take k).map fT ++ [fT subs[k]] := by rw [Z8 pB, ZD]; rfl
   have vK := Z0 xT
   have c3' : wr.cell? ⟨T, 3, none⟩ = some (.slice (some ⟨TB, 0, none⟩) Gs.length Gs.length) := (hB.cell (p := ⟨T, 3, none⟩) (by show T < _; omega)).trans c3
   have ct : wr.cell? ⟨TB, subs[k], none⟩ = some (fT subs[k]) := (hB.cell (p := ⟨TB, subs[k], none⟩) (by show TB < _; omega)).trans (k1.cell (by omega))
   obtain ⟨at_, capt, vL⟩ := (xP.out _ xS).len
   rw [vL] at ct
   have qC := Z0 vL
   clear xR xT vL
   obtain ⟨s, hs⟩ : ∃ s, s = subs[k] := ⟨_, rfl⟩
   rw [<- hs] at cs ct xS qC vK
   clear hs
   have sU : s < Gs.length := by omega
   obtain ⟨tl, qV⟩ : ∃ t, t = (tabs s).length := ⟨_, rfl⟩
   rw [<- qV] at ct qC
   clear qV
   have hO' := hO
   rcases Joins.ownsRow_forms hO' with ⟨rfl, hp⟩ | ⟨g2, cap2, rfl⟩
   ·have HP := Z0 hp
    clear hp
    go_wp2_with (at_builtin; refine wpList_append_own _ rfl _ _ 109 rfl w.1.size 35 j0 (.slice none 0 0) 1 24 Tryz.underlying109 HJ.out.1 HJ.out.2.1 HJ.out.2.2.1 HJ.out.2.2.2 rfl (by decide) _ _ _ rfl (hO.alloc _) ⟨wr.1.size, 0, none⟩ 1 1 [.slice at_ tl capt] rfl rfl (Z3V _ _ _) (by simp [Value.oneCell']) (by unfold maxLen; omega) (by omega) (by have := hB.size; simp; omega) ?_; intro v' w5 vM qW _)
    go_roundw
    case rel =>
     refine ⟨k + 1, by omega, by go_num, ?_, ?_⟩
     ·exact (hB.alloc hB.size _).grown qW (by have := hB.size; simp; omega) (fun r e => by have := (hO.lt r e).1; omega)
     ·rw [vK.out, qC.out]
      exact vM
    case measure => simp [intOf]; omega
   ·go_wp2_with (at_builtin; refine wpList_append_own _ rfl _ _ 109 rfl w.1.size 35 j0 (.slice none 0 0) 1 24 Tryz.underlying109 HJ.out.1 HJ.out.2.1 HJ.out.2.2.1 HJ.out.2.2.2 rfl (by decide) _ _ _ rfl (hO.alloc _) ⟨wr.1.size, 0, none⟩ 1 1 [.slice at_ tl capt] rfl rfl (Z3V _ _ _) (by simp [Value.oneCell']) (by unfold maxLen; omega) (by omega) (by have := hB.size; simp; omega) ?_; intro v' w5 vM qW _)
    go_roundw
    case rel =>
     refine ⟨k + 1, by omega, by go_num, ?_, ?_⟩
     ·exact (hB.alloc hB.size _).grown qW (by have := hB.size; simp; omega) (fun r e => by have := (hO.lt r e).1; omega)
     ·rw [vK.out, qC.out]
      exact vM
    case measure => simp [intOf]; omega
  ·obtain rfl : k = subs.length := by omega
   rw [Kat] at hO
   have HO := Z0 hO
   rcases Joins.ownsRow_forms hO with ⟨rfl, hp⟩ | ⟨g2, cap2, rfl⟩
   ·go_wp2_with fail
    go_ret
    refine ⟨none, 0, by rw [hp]; rfl, hB, ⟨none, 0, by rw [Z7], fun h0 => by rw [Z7] at h0; omega⟩, fun b off e => by cases e⟩
   ·go_wp2_with fail
    go_ret
    refine ⟨_, cap2, rfl, hB, ⟨_, cap2, by rw [Z7], fun h0 => ?_⟩, fun b off e => by cases e; exact (HO.out.lt g2 rfl).1⟩
    refine ⟨g2, 0, rfl, ?_, fun i hi => ?_⟩
    ·obtain ⟨_, hv | ⟨g3, cap3, cur, e3, pF, jT, _⟩⟩ := HO.out
     ·exact absurd hv.1 (by simp)
     ·injection e3 with e3 _ _
      injection e3 with e3
      injection e3 with e3 _
      subst e3
      exact ⟨cur, jT⟩
    ·rw [Z7] at hi
     refine ⟨fT subs[i], ?_, ?_⟩
     ·rw [Ka0, HO.out.cellAt i (by omega), Kal, Z3 hi]; rfl
     ·rw [Kba]
      exact (xP.out _ (xQ.out _ (Z4 hi))).below hB
end
section
open Go.RowKit Go.Sort Go.Shelf Go.IntWalk
attribute [local go_sem] Oper.semAt_some
theorem KC.refl (Lb : Nat) (A : World) : KC Lb A A := ⟨Z1 _, fun _ _ _ _ _ h => h⟩
theorem KC.set {Lb : Nat} {A : World} {v : Value} (u : Value) (h : Boxed A Lb 35 v) : KC Lb A (A.setCell ⟨Lb, 0, none⟩ u) := by
 have hg := grownBy_setCell' A Lb u
 refine ⟨hg.size, fun k c t fr hk ha => ?_⟩
 by_cases e : k = Lb
 ·subst e
  rw [show A.1[k]? = _ from h] at ha
  injection ha with ha
  injection ha with _ ha _
  subst ha
  simp at hk
 ·exact (hg.block k (Z5.1 ha).1 (fun e' => e (by injection e'))).trans ha
def Zb3 {n : Nat} (xs : List (Yld n)) : Value := match xs.getLast? with | none => .slice none 0 0 | some x => x.sl
theorem Zde {n : Nat} (xs : List (Yld n)) (x : Yld n) : Zb3 (xs ++ [x]) = x.sl := by unfold Zb3; simp
def ComeI (w : World) {n : Nat} (xs : List (Yld n)) (W : World) : Prop := Boxed W w.1.size 35 (Zb3 xs) /\ Below w.1.size w W
theorem ComeI.keep {w A B : World} {n : Nat} {xs : List (Yld n)} {row : Option Nat} (h : ComeI w xs A) (hg : A.grownBy B row) (hr : ∀ r, row = some r -> w.1.size < r) : ComeI w xs B :=
 ⟨h.1.kept hg (fun e => by have := hr _ e.symm; omega), h.2.trans ((Z9 _ A).grown hg h.2.size (fun r e => by have := hr r e; omega))⟩
theorem ZfY (n : Nat) : (List.replicate (n + 1) (-1 : Int)).set n 0 = List.replicate n (-1) ++ [0] := by
 rw [List.replicate_succ', Kc2 _ _ (by simp)]
 simp
theorem Zfj (T BB TB PB base : Nat) (v vg : Value) (Gs : List Grp) (tabs : Nat -> List Int) (m : Nat) (ps : List Int) (g : Nat) (w : World) (h : TreeW w T BB TB PB base v vg Gs tabs m ps) (hg : g < Gs.length) (hn : Gs.length <= 100000)
 (hl : Gs[g].lvl = 0) (hi : Gs[g].items.length <= 4000) (ts : List (List Int)) :
 Calls Tryz.prog 99 #[.pointer (some ⟨T, 0, none⟩), .int .i64 g] w fun e w' => ∃ a cap, e = .returned (.slice a (Z1Y Gs[g].lvl Gs[g].items.length ts).length cap) /\ Below w.1.size w w' /\
  RowJ w' base (.slice a (Z1Y Gs[g].lvl Gs[g].items.length ts).length cap) (Z1Y Gs[g].lvl Gs[g].items.length ts) := by
 obtain ⟨l1, l2, l3, l4, l5⟩ := h.lt
 obtain ⟨c0, c1, c2, c3, c4⟩ := h.tr.c
 obtain ⟨ag, cg, rfl, pG⟩ := h.gr
 obtain ⟨gg, og, rfl, vN, rE⟩ := pG (by omega)
 obtain ⟨sv, hsv, g0, g1, g2, g3⟩ := rE g hg
 have rR : Z1Y Gs[g].lvl Gs[g].items.length ts = List.replicate Gs[g].items.length (-1) ++ [0] := by unfold Z1Y; rw [if_pos hl]
 rw [rR]
 rw [hl] at g0
 obtain ⟨x, hx⟩ : ∃ x, x = Gs[g] := ⟨_, rfl⟩
 rw [<- hx] at hsv hi ⊢
 obtain ⟨ai, ci, rfl, _⟩ := hsv
 obtain ⟨n, sQ⟩ : ∃ n, n = x.items.length := ⟨_, rfl⟩
 rw [<- sQ] at g3 hi ⊢
 have tT : (List.replicate n (-1 : Int) ++ [0]).length = n + 1 := by simp
 rw [tT]
 clear pG rE c0 c2 c3 c4 h g1 g2 hx rR sQ hl
 have pI : Below w.1.size w (w.alloc (.cells #[.int .i64 (-1)] 3)) := (Z9 _ w).alloc (Z1 _) _
 have c1' := (pI.cell (p := ⟨T, 1, none⟩) (by show T < _; omega)).trans c1
 have g3' := (pI.cell (p := ⟨gg, og + g * 4 + 3, none⟩) vN).trans g3
 go_enter Tryz.func99, Tryz.ntmps99
 go_wp2_with (go_at_call 100; refine (Z5c (-1) (n + 1) w.1.size 0 1 _ (by omega) (by simp [go_sem]) (by simp)).mono ?_; rintro e w1 ⟨b, rfl, hb, hI, pA⟩; have d1 := hI.cell (i := n) (by simp); have d2 := hI.free n)
 go_ret
 refine ⟨_, n + 1, rfl, ?_, ?_⟩
 ·exact (Z0m (Z9 _ w) (Z1 _) pA).setCell (p := ⟨b, n, none⟩) (by show w.1.size <= b; simp at hb; omega) _
 ·have := hI.set n 0
  rw [ZfY] at this
  have h2 := RowJ.of_ints this (base := base) (by simp at hb; omega) (n + 1)
  rw [tT] at h2
  exact h2
theorem Zfl (T BB TB PB base : Nat) (v vg : Value) (Gs : List Grp) (tabs : Nat -> List Int) (m : Nat) (ps : List Int) (g : Nat) (w : World) (h : TreeW w T BB TB PB base v vg Gs tabs m ps) (hg : g < Gs.length) (hn : Gs.length <= 100000)
 (hl : Gs[g].lvl ≠ 0) (rD : ∀ x ∈ Z04 (Z0o Gs) g, x < m) (hm : m <= Gs.length) (hM : MOk ((Z04 (Z0o Gs) g).map tabs)) :
 Calls Tryz.prog 99 #[.pointer (some ⟨T, 0, none⟩), .int .i64 g] w fun e w' => ∃ a cap, e = .returned (.slice a (Z1Y Gs[g].lvl Gs[g].items.length ((Z04 (Z0o Gs) g).map tabs)).length cap) /\ Below w.1.size w w' /\
  RowJ w' base (.slice a (Z1Y Gs[g].lvl Gs[g].items.length ((Z04 (Z0o Gs) g).map tabs)).length cap) (Z1Y Gs[g].lvl Gs[g].items.length ((Z04 (Z0o Gs) g).map tabs)) := by
 have rR : Z1Y Gs[g].lvl Gs[g].items.length ((Z04 (Z0o Gs) g).map tabs) = if ((Z04 (Z0o Gs) g).map tabs).length = 0 then [] else Z07 ((Z04 (Z0o Gs) g).map tabs) ((Z04 (Z0o Gs) g).map tabs).length := by unfold Z1Y; rw [if_neg hl]
 obtain ⟨R, hR⟩ : ∃ R, R = Z1Y Gs[g].lvl Gs[g].items.length ((Z04 (Z0o Gs) g).map tabs) := ⟨_, rfl⟩
 rw [<- hR] at rR ⊢
 clear hR
 obtain ⟨l1, l2, l3, l4, l5⟩ := h.lt
 obtain ⟨c0, c1, c2, c3, c4⟩ := h.tr.c
 have pG := h.gr
 obtain ⟨ag, cg, rfl, pG⟩ := pG
 obtain ⟨gg, og, rfl, vN, rE⟩ := pG (by omega)
 obtain ⟨sv, hsv, g0, g1, g2, g3⟩ := rE g hg
 obtain ⟨xx, hx⟩ : ∃ x, x = Gs[g].lvl := ⟨_, rfl⟩
 rw [<- hx] at g0 hl
 have lS : (xx == 0) = false := by simp [hl]
 have pI : Below w.1.size w (w.alloc (.cells #[.slice none 0 0] 35)) := (Z9 _ w).alloc (Z1 _) _
 have HP := Z0 (Z9A T BB TB PB base v _ Gs tabs m ps g (w.alloc (.cells #[.slice none 0 0] 35)) (h.below pI) hg hn rD hm)
 have qV : ((Z04 (Z0o Gs) g).map tabs).length = (Z04 (Z0o Gs) g).length := Z7 _
 obtain ⟨ts, rF⟩ : ∃ ts, ts = (Z04 (Z0o Gs) g).map tabs := ⟨_, rfl⟩
 rw [<- rF] at qV hM HP rR
 have jU := Z0 rR
 clear rR
 obtain ⟨sn, sU⟩ : ∃ n, n = (Z04 (Z0o Gs) g).length := ⟨_, rfl⟩
 rw [<- sU] at qV HP
 clear pG rE c0 c2 c3 c4 h g1 g2 g3 hsv hx rD rF sU
 subst qV
 refine (callsIn_wide (n := 0)).1 ?_
 refine callsIn_of_wp_marks Tryz.func99 rfl trivial ?_ rfl
 simp only [Tryz.ntmps99, List.size_toArray, Ka9, List.length_nil, Nat.reduceAdd, Nat.reduceSub, Array.replicate_succ, Array.replicate_zero, List.push_toArray, List.append_toArray, Kca, Kc9]
 gi_wp2_with (first
  | (refine ⟨trivial, rfl, ?_⟩; gi_at_call 103; refine (callsIn_wide.2 HP.out).mono ?_; rintro e w1 ⟨ap, cp, rfl, pA, xU, vO⟩)
  | (refine ⟨trivial, rfl, ?_⟩; gi_at_call 102; refine (callsIn_wide.2 (Z82 _ _ _ _)).mono ?_; rintro e w2 ⟨rfl, rfl⟩))
 have vP : (w.alloc (.cells #[.slice none 0 0] 35)).1.size = w.1.size + 1 := by simp
 rw [vP] at vO
 have pL : Below w.1.size w w1 := Z01 pI (by omega) pA
 have sV := pA.size
 rw [vP] at sV
 obtain ⟨W0, sW⟩ : ∃ W0 : World, W0 = w1.alloc (.cells #[.slice ap ts.length cp] 109) := ⟨_, rfl⟩
 have qG : Boxed W0 w1.1.size 109 (.slice ap ts.length cp) := by rw [sW]; exact Boxed.new _ _ _
 have uA : Below w1.1.size w1 W0 := by rw [sW]; exact (Z9 _ w1).alloc (Z1 _) _
 have jV : W0.1.size = w1.1.size + 1 := by rw [sW]; simp
 have rQ : ComeI w ([] : List (Yld ts.length)) W0 := by
  refine ⟨?_, Z01 pL pL.size uA⟩
  have b0 : Boxed (w.alloc (.cells #[.slice none 0 0] 35)) w.1.size 35 (.slice none 0 0) := Boxed.new _ _ _
  exact ((Z01 (Z9 _ _) (Z1 _) pA).mono (Z1 _) |> fun h => (uA.block w.1.size (by omega)).trans ((h.block w.1.size (by omega)).trans b0))
 have tW : RdRowsX w.1.size W0 base (.slice ap ts.length cp) ts := ⟨xU.below uA, fun b off n c _ e => by
  injection e with e _ _
  have := vO b off e
  omega⟩
 rw [<- sW]
 clear sW uA xU vO pA pI pL HP vP c1 g0
 generalize w1.1.size = B at qG jV sV ⊢
 have jW := hM
 refine Z2q (gf := 132) (lb := #[.pointer (some ⟨B, 0, none⟩)]) rfl Tryz.call132 (Bs := B) (by omega) (Z5G B base w.1.size _ ts W0 hM qG tW (by omega) (by omega)) (MergS.own _ _ _)
  (fun h k => h.trans k) (fun W l o o' hl hW hc => KC.put hW hc) (fun _ => rfl)
  (ComeI w) (fun _ _ _ => False)
  (fun s A B' row h hg hr => h.keep hg (fun r e => by obtain ⟨h1, _⟩ := hr r e; omega))
  (fun c s A B' row h _ _ => h)
  (fun s A B' row h hg hr => h.keep hg (fun r e => by have := hr r e; omega))
  (fun c s A B' row h _ _ => h)
  rQ
  (fun x a' W => a' = { tmps := #[.pointer (some ⟨T, 0, none⟩), .int .i64 g, undef, undef, .slice none 0 0, undef, .pointer (some ⟨w.1.size, 0, none⟩), undef, x.sl,
   .pointer (some ⟨T, 0, none⟩), .pointer (some ⟨T, 0, none⟩), .pointer (some ⟨T, 1, none⟩), .slice (some ⟨gg, og, none⟩) Gs.length cg, .int .i64 g, .pointer (some ⟨gg, og + g * 4, none⟩), .pointer (some ⟨gg, og + g * 4, none⟩), .int .i64 xx, .bool false,
   undef, undef, undef, undef, undef, undef, undef, undef, undef, undef, undef, undef, undef, undef, undef, undef, undef, undef, .pointer (some ⟨T, 0, none⟩), .int .i64 g, .slice ap ts.length cp,
   .func (.func 132) #[] #[.pointer (some ⟨B, 0, none⟩)], .int .i64 x.i, x.sl, undef, undef], defers := [] })
  (fun x a' s A B' row h _ _ => h) ?assign ?body ?done ?stop
 case assign =>
  intro l pre x W K hi hK
  gi_wp2
  exact hK _ _ (KeepsFrom.refl _ _) (KC.refl _ _) hi rfl
 case body =>
  rintro l pre x a' W hI rfl
  have c1 := hI.1.cell
  have c2 := hI.1.frozen
  obtain ⟨xi, xhi, xa, xl, xc⟩ := x
  dsimp only [Yld.sl]
  gi_wp2_with fail
  exact ⟨(KeepsOthers.setCell _ _ _).from _, KC.set _ hI.1, by rw [Zde]; exact hI.1.set _, hI.2.setCell (p := ⟨w.1.size, 0, none⟩) (Z1 _) _⟩
 case done =>
  rintro D xs W hD ⟨lT, xV⟩ hI hK
  have c1 := hI.1.cell
  have vQ : ∃ a cap, Zb3 xs = .slice a R.length cap /\ RowJ W base (Zb3 xs) R := by
   rw [jU.out]
   by_cases h0 : ts.length = 0
   ·rw [if_pos h0]
    obtain rfl : xs = [] := Kag.1 (by omega)
    exact ⟨none, 0, rfl, RowJ.nil _ _ _ _⟩
   ·rw [if_neg h0]
    obtain ⟨_, h2⟩ := xV (xs.length - 1) (by omega)
    have e : Zb3 xs = (xs[xs.length - 1]'(by omega)).sl := by
     unfold Zb3
     rw [List.getLast?_eq_getElem?, Z3 (by omega)]
    rw [show xs.length - 1 + 1 = ts.length by omega] at h2
    rw [e]
    obtain ⟨a, cap, hv⟩ := h2.len
    exact ⟨a, cap, hv, h2⟩
  obtain ⟨a, cap, hv, qO⟩ := vQ
  rw [hv] at c1 qO
  have jX := Z0 qO
  have xW := hI.2
  clear xV qO hv hM jW
  gi_wp2_with fail
  refine ⟨by simp, .inl ⟨_, _, rfl, run_takeDeferred hK, ?_⟩⟩
  refine ⟨_, results_tmp rfl _ _ _, a, cap, rfl, xW.grown (grownBy_putObj' _ _ _) xW.size (fun k e => by cases e; omega), jX.out.kept (grownBy_putObj' _ _ _) (fun g e => .inr (fun cur fr hh => ?_))⟩
  cases e
  rw [hK] at hh
  cases hh
 case stop =>
  rintro D c pre W hD hS hX hK
  exact hX.elim
theorem ZgR (T BB TB PB base : Nat) (v vg : Value) (Gs : List Grp) (tabs : Nat -> List Int) (m : Nat) (ps : List Int) (g : Nat) (w : World) (h : TreeW w T BB TB PB base v vg Gs tabs m ps) (hg : g < Gs.length) (hn : Gs.length <= 100000)
 (hi : Gs[g].items.length <= 4000) (rD : ∀ x ∈ Z04 (Z0o Gs) g, x < m) (hm : m <= Gs.length) (hM : Gs[g].lvl ≠ 0 -> MOk ((Z04 (Z0o Gs) g).map tabs)) :
 Calls Tryz.prog 99 #[.pointer (some ⟨T, 0, none⟩), .int .i64 g] w fun e w' => ∃ a cap, e = .returned (.slice a (Z1Y Gs[g].lvl Gs[g].items.length ((Z04 (Z0o Gs) g).map tabs)).length cap) /\ Below w.1.size w w' /\
  RowJ w' base (.slice a (Z1Y Gs[g].lvl Gs[g].items.length ((Z04 (Z0o Gs) g).map tabs)).length cap) (Z1Y Gs[g].lvl Gs[g].items.length ((Z04 (Z0o Gs) g).map tabs)) := by
 by_cases hl : Gs[g].lvl = 0
 ·exact Zfj T BB TB PB base v vg Gs tabs m ps g w h hg hn hl hi _
 ·exact Zfl T BB TB PB base v vg Gs tabs m ps g w h hg hn hl rD hm (hM hl)
end
section
open Go.RowKit Go.Sort
def Z1a (zs : List Int) (x : Grp) (k : Nat) : Nat := (x.items.take k).countP (fun i => decide (zs.getD i.toNat (-1) = x.lvl))
def ZeH (ls : List Lev) (z : Int) : Int := (ls.getD z.toNat ⟨⟨#[]⟩, 0, [], 0, 0⟩).min
def Z4L (ls : List Lev) (zs : List Int) (x : Grp) : Bool := !(decide (0 < Z1a zs x x.items.length) && decide ((Z1a zs x x.items.length : Int) < ZeH ls x.lvl))
def Z2m (ls : List Lev) (zs : List Int) (Gs : List Grp) : Bool := Gs.all (Z4L ls zs)
theorem ZcA (zs : List Int) (x : Grp) {k : Nat} (h : k < x.items.length) : Z1a zs x (k + 1) = Z1a zs x k + (if zs.getD x.items[k].toNat (-1) = x.lvl then 1 else 0) := by
 unfold Z1a
 rw [Z8 h, List.countP_append, List.countP_singleton]
 simp
theorem ZfU (zs : List Int) (x : Grp) (k : Nat) : Z1a zs x k <= k := by
 unfold Z1a
 refine Kaw (List.countP_le_length) ?_
 rw [Kax]; omega
theorem ZeG {ls : List Lev} {z : Nat} (h : z < ls.length) : ZeH ls (z : Int) = ls[z].min := by
 unfold ZeH
 rw [Kar, Z2, Z3 h]; rfl
theorem Z1w {m : Mai} (h : Z1r m = true) : m.ps.length <= 2000 /\ ∀ p ∈ m.ps, Z0D p.code = true := by
 unfold Z1r at h
 simp only [ZF, Kab] at h
 have hp : ∀ (l : List Pce) (b : Int), Zam b l = true -> ∀ p ∈ l, Z0D p.code = true := by
  intro l
  induction l with
  | nil => intro b _ p hp; cases hp
  | cons q r ih =>
   intro b hb p hp
   unfold Zam at hb
   rw [ZF] at hb
   rcases Kbf.1 hp with rfl | hp
   ·have h1 := hb.1
    unfold pcB at h1
    simp only [ZF] at h1
    exact h1.2.1
   ·exact ih _ hb.2 p hp
 exact ⟨h.2.2.1, hp _ _ h.2.2.2⟩
theorem Z8e (ls : List Lev) (cs : List ByteArray) : (Z0T ls cs ls.length).length <= ls.length * cs.length := by
 have h := (Zbf ls cs ls.length (Z1 _)).1
 rwa [Z3M ls cs ls.length (Z1 _)] at h
open Classical in
noncomputable def Z1I (ls : List Lev) (m : Mai) (zs : List Int) : Bool × Int :=
 if Z0j ls = true /\ Z1r m = true /\ zs.length = m.ps.length /\ Z1K ls.length zs = true then
  (if (Z06 m.ps).any (Z2H ls) = true then (false, 6) else (Z2m ls zs (Z0T ls (Z06 m.ps) ls.length), 0)) else (false, 2)
theorem ZdF (ls : List Lev) (v vp vz : Value) (m : Mai) (zs : List Int) (w : World) (hr : RdLevs w v ls) (hf : ∀ l ∈ ls, Z0x l) (hl : ls.length <= 100000) (pQ : RdPces w vp m.ps) (h8 : 0 <= m.cls /\ m.cls <= 255 /\ 0 <= m.ctr /\ m.ctr <= 255)
 (jY : m.origin.size <= maxLen) (xX : m.ps.length <= 100000) (pJ : ∀ p ∈ m.ps, p.code.size <= maxLen) (hz : RdInts w vz zs) (rS : zs.length <= 1000000) :
 Calls Tryz.prog 16 #[v, Z0N m vp, vz] w fun e w' => e = .returned (.tuple #[.bool (Z1I ls m zs).1, .int .i64 (Z1I ls m zs).2]) /\ Below w.1.size w w' := by
 have rG := Z0 (fun W (hW : Below w.1.size w W) => Z2g ls v W (hr.below hW) hf (by unfold maxLen; omega))
 have pH := Z0 (fun W (hW : Below w.1.size w W) => Z1q m vp W (pQ.below hW) h8 jY xX pJ)
 have uB := Z0 (fun W (hW : Below w.1.size w W) => Z7e m vp W (pQ.below hW) xX)
 have xY : (Z06 m.ps).length = m.ps.length := by unfold Z06; simp
 have qP := Z0 (fun W vc (hW : Below w.1.size w W) (jZ : ReadsT W vc (Z06 m.ps)) => Z5q ls v vc (Z06 m.ps) W (hr.below hW) hf (by unfold maxLen; omega) jZ (by unfold maxLen; omega) (fun c hc => by
  unfold Z06 at hc
  obtain ⟨p, hp, rfl⟩ := Kae.1 hc
  exact pJ p hp))
 have HZ := Z0 hz
 have kA := Z0 hr
 obtain ⟨ap, cp, rfl, _⟩ := pQ
 obtain ⟨al, cl, rfl, _⟩ := hr
 obtain ⟨az, cz, rfl, _⟩ := hz
 have sX : Hid (∀ W, Below w.1.size w W -> Calls Tryz.prog 40 #[.slice al ls.length cl, .slice az zs.length cz] W fun e w' => e = .returned (.bool (Z1K ls.length zs)) /\ W = w') := fun W hW => ZaT ls.length al cl zs _ W (HZ.out.below hW) rS hl
 have sC : Z1I ls m zs = if Z0j ls = true /\ Z1r m = true /\ zs.length = m.ps.length /\ Z1K ls.length zs = true then
  (if (Z06 m.ps).any (Z2H ls) = true then (false, 6) else (Z2m ls zs (Z0T ls (Z06 m.ps) ls.length), 0)) else (false, 2) := by unfold Z1I; rfl
 obtain ⟨R, hR⟩ : ∃ R, R = Z1I ls m zs := ⟨_, rfl⟩
 rw [<- hR] at sC ⊢
 have uC : Z1r m = true -> Z0j ls = true -> Z1d ls (Z06 m.ps) = if (Z06 m.ps).any (Z2H ls) = true then ([], 6) else ((gTo ls (Z06 m.ps) ls.length).1, 0) := fun h1 h2 => by
  obtain ⟨k1, k2⟩ := Z1w h1
  unfold Z1d
  rw [if_neg (by omega), if_pos ⟨h2, fun c hc => by
   unfold Z06 at hc
   obtain ⟨p, hp, rfl⟩ := Kae.1 hc
   exact k2 p hp⟩]
 have vR : Z1r m = true -> m.ps.length <= 2000 := fun h => (Z1w h).1
 have xZ := Z3M ls (Z06 m.ps) ls.length (Z1 _)
 obtain ⟨rb, vS⟩ : ∃ b, b = Z0j ls := ⟨_, rfl⟩
 obtain ⟨mb, yA⟩ : ∃ b, b = Z1r m := ⟨_, rfl⟩
 obtain ⟨nb, uD⟩ : ∃ b, b = Z1K ls.length zs := ⟨_, rfl⟩
 have yB := Z0 vS
 rw [<- vS] at rG sC uC
 rw [<- yA] at pH sC uC vR
 have kB := Z0 uD
 rw [<- uD] at sX sC
 have vT := fun h => Z6D (n := ls.length) (zs := zs) h
 rw [<- uD] at vT
 unfold Z0N at pH uB ⊢
 obtain ⟨cls, ctr, org, ps⟩ := m
 dsimp only at *
 have pI : Below w.1.size w (w.alloc (.cells #[.int .u8 cls, .int .u8 ctr, .string org, .slice ap ps.length cp] 34)) := (Z9 _ w).alloc (Z1 _) _
 have sR : (w.alloc (.cells #[.int .u8 cls, .int .u8 ctr, .string org, .slice ap ps.length cp] 34)).1.size = w.1.size + 1 := Z6 _ _
 have qG : ∀ W, Below (w.1.size + 1) (w.alloc (.cells #[.int .u8 cls, .int .u8 ctr, .string org, .slice ap ps.length cp] 34)) W -> W.cell? ⟨w.1.size, 0, none⟩ = some (.int .u8 cls) /\ W.cell? ⟨w.1.size, 1, none⟩ = some (.int .u8 ctr) /\ W.cell? ⟨w.1.size, 2, none⟩ = some (.string org) /\ W.cell? ⟨w.1.size, 3, none⟩ = some (.slice ap ps.length cp) := fun W hW =>
  ⟨(hW.cell (p := ⟨w.1.size, 0, none⟩) (Ka4 _)).trans (Kaa _ _ 0 _ _ _ (Z02 w _)), (hW.cell (p := ⟨w.1.size, 1, none⟩) (Ka4 _)).trans (Kaa _ _ 1 _ _ _ (Z02 w _)),
   (hW.cell (p := ⟨w.1.size, 2, none⟩) (Ka4 _)).trans (Kaa _ _ 2 _ _ _ (Z02 w _)), (hW.cell (p := ⟨w.1.size, 3, none⟩) (Ka4 _)).trans (Kaa _ _ 3 _ _ _ (Z02 w _))⟩
 have pM := Z0 qG
 have qQ := Z0 sR
 have rT := Z0 sC
 have yC := Z0 uC
 have yD := Z0 xZ
 have yE := Z0 vR
 have lU := Z0 vT
 have uE := Z0 xY
 clear qG sR sC uC xZ vR vT xY hR vS yA uD hf pJ
 cases rb
 ·go_enter Tryz.func16, Tryz.ntmps16
  go_wp2_with (go_at_call 39; refine (rG.out _ pI).mono ?_; rintro e w1 ⟨rfl, pA⟩)
  go_ret2
  rw [rT.out, if_neg (by simp)]
  exact ⟨rfl, Z01 pI pI.size pA⟩
 ·cases mb
  ·go_enter Tryz.func16, Tryz.ntmps16
   go_wp2_with (first
    | (go_at_call 39; refine (rG.out _ pI).mono ?_; rintro e w1 ⟨rfl, pA⟩; (rw [qQ.out] at pA); have pL : Below w.1.size w w1 := pI.trans (pA.mono (Kbd _)); obtain ⟨x0, x1, x2, x3⟩ := pM.out w1 pA)
    | (go_at_call 34; refine (pH.out _ pL).mono ?_; rintro e w2 ⟨rfl, pC⟩))
   go_ret2
   rw [rT.out, if_neg (by simp)]
   exact ⟨rfl, Z01 pL pL.size pC⟩
  ·by_cases sY : zs.length = ps.length
   ·have pV : ((zs.length : Int) != (ps.length : Int)) = false := by rw [sY]; simp
    have yF := Z0 sY
    clear sY
    cases nb
    ·go_enter Tryz.func16, Tryz.ntmps16
     go_wp2_with (first
      | (go_at_call 39; refine (rG.out _ pI).mono ?_; rintro e w1 ⟨rfl, pA⟩; (rw [qQ.out] at pA); have pL : Below w.1.size w w1 := pI.trans (pA.mono (Kbd _)); obtain ⟨x0, x1, x2, x3⟩ := pM.out w1 pA)
      | (go_at_call 34; refine (pH.out _ pL).mono ?_; rintro e w2 ⟨rfl, pC⟩; have qD := pA.trans (pC.mono (by have := pA.size; rw [qQ.out] at this; exact this)); have pW : Below w.1.size w w2 := pI.trans (qD.mono (Kbd _)); clear x0 x1 x2 x3; obtain ⟨x0, x1, x2, x3⟩ := pM.out w2 qD)
      | (go_at_call 40; refine (sX.out _ pW).mono ?_; rintro e w3 ⟨rfl, hW⟩; obtain rfl : w2 = w3 := hW))
     go_ret2
     rw [rT.out, if_neg (by simp)]
     exact ⟨rfl, pW⟩
    ·have pG := yC.out rfl rfl
     have vF := yE.out rfl
     have uF := yF.out
     by_cases sZ : (Z06 ps).any (Z2H ls) = true
     ·rw [if_pos sZ] at pG
      have sD := rT.out
      rw [if_pos ⟨rfl, rfl, uF, rfl⟩, if_pos sZ] at sD
      subst sD
      rw [pG] at qP
      dsimp only at qP
      clear pG uF
      go_enter Tryz.func16, Tryz.ntmps16
      go_wp2_with (first
       | (go_at_call 39; refine (rG.out _ pI).mono ?_; rintro e w1 ⟨rfl, pA⟩; (rw [qQ.out] at pA); have pL : Below w.1.size w w1 := pI.trans (pA.mono (Kbd _)); obtain ⟨x0, x1, x2, x3⟩ := pM.out w1 pA)
       | (go_at_call 34; refine (pH.out _ pL).mono ?_; rintro e w2 ⟨rfl, pC⟩; have qD := pA.trans (pC.mono (by have := pA.size; rw [qQ.out] at this; exact this)); have pW : Below w.1.size w w2 := pI.trans (qD.mono (Kbd _)); clear x0 x1 x2 x3; obtain ⟨x0, x1, x2, x3⟩ := pM.out w2 qD)
       | (go_at_call 40; refine (sX.out _ pW).mono ?_; rintro e w3 ⟨rfl, hW⟩; obtain rfl : w2 = w3 := hW)
       | (go_at_call 42; refine (uB.out _ pW).mono ?_; rintro e w3 ⟨u, rfl, pF, uG⟩; have qH : Below w.1.size w w3 := Z01 pW pW.size pF)
       | (go_at_call 41; refine (qP.out _ _ qH uG).mono ?_; rintro e w4 ⟨vg, rfl, qI, uH⟩))
      go_ret2
      exact ⟨rfl, Z01 qH qH.size qI⟩
     ·rw [if_neg sZ] at pG
      have sD := rT.out
      rw [if_pos ⟨rfl, rfl, uF, rfl⟩, if_neg sZ] at sD
      rw [pG] at qP
      dsimp only at qP
      have sT := Z8e ls (Z06 ps)
      rw [yD.out] at qP
      dsimp only at qP
      have vU : ∀ x ∈ Z0T ls (Z06 ps) ls.length, x.items.length <= 2000 /\ (∃ mm : Nat, mm < ls.length /\ x.lvl = (mm : Int)) /\ ∀ i ∈ x.items, ∃ q : Nat, q < zs.length /\ i = (q : Int) := fun x hx => by
       obtain ⟨mm, n, uI, _, rfl⟩ := Z27.1 hx
       refine ⟨?_, ⟨mm, uI, rfl⟩, fun i hi => ?_⟩
       ·have : (itm ls (Z06 ps) mm n).length <= (Z06 ps).length := Z6T ls _ mm n
        have h2 := uE.out
        exact Kaw this (by omega)
       ·obtain ⟨q, hq, _, rfl⟩ := Z3s.1 hi
        have h2 := uE.out
        exact ⟨q, by omega, rfl⟩
      rw [uE.out] at sT
      have tA := (Z0y yB.out.symm).2
      have tB : (Z0T ls (Z06 ps) ls.length).length <= 12000 := Kaw sT (by have : ls.length * ps.length <= 6 * 2000 := Nat.mul_le_mul tA vF; omega)
      obtain ⟨Gs, yG⟩ : ∃ G, G = Z0T ls (Z06 ps) ls.length := ⟨_, rfl⟩
      rw [<- yG] at qP sD vU tB
      subst sD
      have kC := Z0 vU
      clear pG yG vU sT uF
      go_enter Tryz.func16, Tryz.ntmps16
      go_wp2_with (first
       | (go_at_call 39; refine (rG.out _ pI).mono ?_; rintro e w1 ⟨rfl, pA⟩; (rw [qQ.out] at pA); have pL : Below w.1.size w w1 := pI.trans (pA.mono (Kbd _)); obtain ⟨x0, x1, x2, x3⟩ := pM.out w1 pA)
       | (go_at_call 34; refine (pH.out _ pL).mono ?_; rintro e w2 ⟨rfl, pC⟩; have qD := pA.trans (pC.mono (by have := pA.size; rw [qQ.out] at this; exact this)); have pW : Below w.1.size w w2 := pI.trans (qD.mono (Kbd _)); clear x0 x1 x2 x3; obtain ⟨x0, x1, x2, x3⟩ := pM.out w2 qD)
       | (go_at_call 40; refine (sX.out _ pW).mono ?_; rintro e w3 ⟨rfl, hW⟩; obtain rfl : w2 = w3 := hW)
       | (go_at_call 42; refine (uB.out _ pW).mono ?_; rintro e w3 ⟨u, rfl, pF, uG⟩; have qH : Below w.1.size w w3 := Z01 pW pW.size pF)
       | (go_at_call 41; refine (qP.out _ _ qH uG).mono ?_; rintro e w4 ⟨vg, rfl, qI, uH⟩; have uJ := RdGrps.of_owns uH; obtain ⟨ag, cg, vV⟩ := uH.len; subst vV; clear x0 x1 x2 x3))
      have uK : Below w.1.size w w4 := Z01 qH qH.size qI
      have rU := Z0 uK
      have kD := Z0 uJ
      have kE := Z0 (RdLevs.below kA.out uK)
      have kF := Z0 (RdInts.below HZ.out uK)
      clear pA pL pC qD pW pF uG qH qI uK uH uJ pI sZ rG pH uB qP pM sX rT yC yD yE yB kB uE yF qQ
      go_loopw [49] (fun i wr => ∃ k : Nat, k <= Gs.length /\ i = .int .i64 k /\ Below w4.1.size w4 wr /\ ∀ j (hj : j < Gs.length), j < k -> Z4L ls zs Gs[j] = true) (fun i _ => Gs.length - (intOf i).toNat)
      case atStart => exact ⟨0, ZE _, rfl, Z9 _ _, fun j _ h => absurd h (Ka2 _)⟩
      case round =>
       obtain ⟨wo, kG⟩ : ∃ x, x = wr := ⟨_, rfl⟩
       subst kG
       obtain ⟨k, hk, rfl, hB, pK⟩ := hrel
       have vW := Z0 pK
       clear pK
       by_cases pB : k < Gs.length
       ·have uJ := RdGrps.below kD.out hB
        obtain ⟨ag', cg', vV, pG⟩ := uJ
        injection vV with q1 q2 q3
        subst q1
        clear q2 q3
        obtain ⟨gg, og, rfl, vN, rE⟩ := pG (by omega)
        obtain ⟨sv, hsv, g0, g1, g2, g3⟩ := rE k pB
        obtain ⟨kH, ⟨mm, uI, uL⟩, vX⟩ := kC.out _ (Z4 pB)
        obtain ⟨x, hx⟩ : ∃ x, x = Gs[k] := ⟨_, rfl⟩
        have HX := Z0 hx
        rw [<- hx] at hsv g0 g1 g2 kH uL vX
        rw [uL] at g0
        obtain ⟨nm, yH⟩ : ∃ z, z = x.name := ⟨_, rfl⟩
        obtain ⟨up, yI⟩ : ∃ z, z = x.up := ⟨_, rfl⟩
        rw [<- yH] at g1
        rw [<- yI] at g2
        obtain ⟨ai, ci, rfl, yJ⟩ := hsv
        obtain ⟨CG, tC⟩ : ∃ c, c = Obj.cells #[.int .i64 mm, .string nm, .int .i64 up, .slice ai x.items.length ci] 107 (0, 0) := ⟨_, rfl⟩
        have yK : Below wo.1.size wo (wo.alloc CG) := (Z9 _ _).alloc (Z1 _) _
        have q0 : (wo.alloc CG).cell? ⟨wo.1.size, 0, none⟩ = some (.int .i64 mm) := by rw [tC]; exact Kaa _ _ 0 _ _ _ (Z02 wo _)
        have q3 : (wo.alloc CG).cell? ⟨wo.1.size, 3, none⟩ = some (.slice ai x.items.length ci) := by rw [tC]; exact Kaa _ _ 3 _ _ _ (Z02 wo _)
        have uM : Below w4.1.size w4 (wo.alloc CG) := hB.alloc hB.size _
        have vY : (wo.alloc CG).1.size = wo.1.size + 1 := Z6 _ _
        have yL := fun p (hp : p < x.items.length) => ZcA zs x hp
        have kI := Z0 yL
        have yM := Z0 uL
        have kJ := Z0 vX
        have kK := Z0 yJ
        have kL := Z0 q0
        have kM := Z0 vY
        have kN := Z0 yK
        clear yL uL vX yJ pG rE yH yI hx q0 vY yK
        go_wp2_with fail
        rw [<- tC]
        have lV := Z0 tC
        clear tC
        go_loopw [12, 56] (fun t i wq => ∃ p : Nat, p <= x.items.length /\ i = .int .i64 p /\ t = .int .i64 (Z1a zs x p : Nat) /\ Below (wo.alloc CG).1.size (wo.alloc CG) wq) (fun _ i _ => x.items.length - (intOf i).toNat)
        case atStart => exact ⟨0, ZE _, rfl, by simp [Z1a], Z9 _ _⟩
        case round =>
         clear q3
         obtain ⟨p, hp, rfl, rfl, pS⟩ := hrel
         have vY := kM.out
         have r0 := (pS.cell (p := ⟨wo.1.size, 0, none⟩) (by show wo.1.size < _; omega)).trans kL.out
         have qV := ZfU zs x p
         by_cases vZ : p < x.items.length
         ·obtain ⟨gi, oi, rfl, kO, pD⟩ := kK.out (by omega)
          obtain ⟨q, hq, yN⟩ := kJ.out _ (Z4 vZ)
          have rF := kI.out p vZ
          have e1 := pD p vZ
          rw [yN] at e1 rF
          have e1' : wr.cell? ⟨gi, oi + p, none⟩ = some (.int .i64 q) := (pS.cell (p := ⟨gi, oi + p, none⟩) (by show gi < _; omega)).trans ((kN.out.cell (p := ⟨gi, oi + p, none⟩) kO).trans e1)
          obtain ⟨az', cz', kP, pJ⟩ := kF.out
          injection kP with q1 q2 q3
          subst q1
          clear q2 q3
          obtain ⟨gz, oz, rfl, rH, pJ⟩ := pJ (by omega)
          have e2 : wr.cell? ⟨gz, oz + q, none⟩ = some (.int .i64 zs[q]) := ((uM.trans (pS.mono uM.size)).cell (p := ⟨gz, oz + q, none⟩) rH).trans (pJ q hq)
          rw [Kar, yM.out, Z2, Z3 hq] at rF
          obtain ⟨z, hz⟩ : ∃ z, z = zs[q] := ⟨_, rfl⟩
          rw [<- hz] at e2 rF
          have rV : Z1a zs x (p + 1) = Z1a zs x p + (if z = (mm : Int) then 1 else 0) := rF
          obtain ⟨t, ht⟩ : ∃ t, t = Z1a zs x p := ⟨_, rfl⟩
          rw [<- ht] at rV qV ⊢
          clear rF e1 hz pJ pD yN ht
          by_cases sE : z = (mm : Int)
          ·rw [if_pos sE] at rV
           have kQ : (z == (mm : Int)) = true := by simp [sE]
           have HT := Z0 rV
           clear rV sE
           go_wp2_with fail
           go_quiet (fail)
           go_wp2_with fail
           go_roundw
           case rel => exact ⟨p + 1, by omega, by go_num, by rw [HT.out]; go_num, below_drewN pS _⟩
           case measure => simp [intOf]; omega
          ·rw [if_neg sE] at rV
           have kQ : (z == (mm : Int)) = false := by simp [sE]
           have HT := Z0 rV
           clear rV sE
           go_wp2_with fail
           go_quiet (fail)
           go_wp2_with fail
           go_roundw
           case rel => exact ⟨p + 1, by omega, by go_num, by rw [HT.out]; rfl, below_drewN pS _⟩
           case measure => simp [intOf]; omega
         ·obtain rfl : p = x.items.length := by omega
          have yO : Below w4.1.size w4 wr := uM.trans (pS.mono uM.size)
          obtain ⟨al', cl', kR, qR⟩ := RdLevs.below kE.out yO
          injection kR with q1 q2 q3
          subst q1
          clear q2 q3
          obtain ⟨gl, ol, rfl, tB, qR⟩ := qR (by omega)
          obtain ⟨sv, _, _, _, _, l3, _⟩ := qR mm uI
          have uN : Z4L ls zs x = !(decide (0 < Z1a zs x x.items.length) && decide ((Z1a zs x x.items.length : Int) < ls[mm].min)) := by
           unfold Z4L
           rw [yM.out, ZeG uI]
          obtain ⟨mn, yP⟩ : ∃ z, z = ls[mm].min := ⟨_, rfl⟩
          rw [<- yP] at l3 uN
          obtain ⟨t, ht⟩ : ∃ t, t = Z1a zs x x.items.length := ⟨_, rfl⟩
          rw [<- ht] at qV uN ⊢
          have wA := Z0 uN
          have wB := Z0 yO
          clear uN yP ht qR
          by_cases h0 : t = 0
          ·have pK : Z4L ls zs x = true := by rw [wA.out, h0]; simp
           have HK := Z0 pK
           have kS : ¬ ((t : Int) > 0) := by omega
           clear pK h0
           go_wp2_with fail
           go_roundw
           case rel =>
            refine ⟨k + 1, by omega, by go_num, wB.out, fun j hj kT => ?_⟩
            by_cases e : j = k
            ·subst e; rw [<- HX.out]; exact HK.out
            ·exact vW.out j hj (by omega)
           case measure => simp [intOf]; omega
          ·have kS : (t : Int) > 0 := by omega
           by_cases yQ : (t : Int) < mn
           ·have pK : Z4L ls zs x = false := by rw [wA.out, Kac (by omega), Kac yQ]; rfl
            have tD : Z2m ls zs Gs = false := by
             unfold Z2m
             rw [List.all_eq_false]
             exact ⟨Gs[k], Z4 pB, by rw [<- HX.out, pK]; simp⟩
            have wC := Z0 tD
            clear pK tD h0
            go_wp2_with fail
            go_ret2
            rw [wC.out]
            exact ⟨rfl, rU.out.trans (wB.out.mono rU.out.size)⟩
           ·have pK : Z4L ls zs x = true := by rw [wA.out, Kad yQ]; simp
            have HK := Z0 pK
            clear pK h0
            go_wp2_with fail
            go_roundw
            case rel =>
             refine ⟨k + 1, by omega, by go_num, wB.out, fun j hj kT => ?_⟩
             by_cases e : j = k
             ·subst e; rw [<- HX.out]; exact HK.out
             ·exact vW.out j hj (by omega)
            case measure => simp [intOf]; omega
       ·obtain rfl : k = Gs.length := by omega
        have tD : Z2m ls zs Gs = true := by
         unfold Z2m
         rw [Kbk]
         intro x hx
         obtain ⟨j, hj, rfl⟩ := Kau.1 hx
         exact vW.out j hj hj
        have wC := Z0 tD
        clear tD
        go_wp2_with fail
        go_ret2
        rw [wC.out]
        exact ⟨rfl, rU.out.trans (hB.mono rU.out.size)⟩
   ·have pV : ((zs.length : Int) != (ps.length : Int)) = true := by simp; omega
    go_enter Tryz.func16, Tryz.ntmps16
    go_wp2_with (first
     | (go_at_call 39; refine (rG.out _ pI).mono ?_; rintro e w1 ⟨rfl, pA⟩; (rw [qQ.out] at pA); have pL : Below w.1.size w w1 := pI.trans (pA.mono (Kbd _)); obtain ⟨x0, x1, x2, x3⟩ := pM.out w1 pA)
     | (go_at_call 34; refine (pH.out _ pL).mono ?_; rintro e w2 ⟨rfl, pC⟩; have qD := pA.trans (pC.mono (by have := pA.size; rw [qQ.out] at this; exact this)); have pW : Below w.1.size w w2 := pI.trans (qD.mono (Kbd _)); clear x0 x1 x2 x3; obtain ⟨x0, x1, x2, x3⟩ := pM.out w2 qD))
    go_ret2
    rw [rT.out, if_neg (fun h => sY h.2.2.1)]
    exact ⟨rfl, pW⟩
end
section
open Go.RowKit
theorem ZhS (zs : List Int) (v : Value) (w : World) (hv : RdInts w v zs) (h0 : 0 < zs.length) (hl : zs.length <= 100000) :
 Calls Tryz.prog 73 #[v] w fun e w' => ∃ m, m ∈ zs /\ e = .returned (.int .i64 m) /\ w' = w := by
 obtain ⟨a, ca, rfl, hc⟩ := hv
 obtain ⟨g, off, rfl, hg, pD⟩ := hc h0
 have c0 : w.cell? ⟨g, off, none⟩ = some (.int .i64 (zs[0]'h0)) := pD 0 h0
 have HC := Z0 pD
 have yR := Z0 (Z4 h0)
 clear hc pD
 generalize zs[0] = z0 at c0 yR
 go_enter Tryz.func73, Tryz.ntmps73
 go_wp2_with fail
 go_loop [3, 4] (fun x i => ∃ (k : Nat) (m : Int), 1 <= k /\ k <= zs.length /\ i = .int .i64 k /\ x = .int .i64 m /\ Hid (m ∈ zs)) (fun _ i => zs.length - (intOf i).toNat)
 case atStart => exact ⟨1, z0, Z1 _, h0, rfl, rfl, yR.out⟩
 case round =>
  obtain ⟨k, m, lW, hk, rfl, rfl, HM⟩ := hrel
  by_cases pB : k < zs.length
  ·have c1 := HC.out k pB
   have yS := Z0 (Z4 pB)
   clear HC
   generalize zs[k] = zk at c1 yS
   have d4 : decide ((k : Int) < (zs.length : Int)) = true := Kac (by omega)
   have uO : Hid (min m zk ∈ zs) := by
    show min m zk ∈ zs
    rcases Int.le_total m zk with h | h
    ·rw [Int.min_eq_left h]; exact HM.out
    ·rw [Int.min_eq_right h]; exact yS.out
   go_wp2_with fail
   go_round
   case rel => exact ⟨k + 1, min m zk, by omega, by omega, by go_num, rfl, uO.out⟩
   case measure => simp [intOf]; omega
  ·obtain rfl : k = zs.length := by omega
   go_wp2_with fail
   go_ret
   exact ⟨m, HM.out, rfl, rfl⟩
theorem Ze0 (s : Stp) (g : Int) (X : Nat) (v : Value) (w : World) (hv : ∃ a n c, v = .slice a n c) (hX : w.cell? ⟨X, 0, none⟩ = some (.int .i64 g)) (wD : X < w.1.size) :
 Calls Tryz.prog 111 #[.agg #[.int .i64 s.grams, v], .pointer (some ⟨X, 0, none⟩)] w fun e w' => e = .returned (.bool (decide (g <= s.grams))) /\ Below w.1.size w w' := by
 obtain ⟨a, n, c, rfl⟩ := hv
 have HB := Z0 ((Z9 _ w).alloc (Z1 _) (.cells #[.int .i64 s.grams, .slice a n c] 95))
 go_enter Tryz.func111, Tryz.ntmps111
 go_wp2_with fail
 go_ret
 exact ⟨rfl, HB.out⟩
theorem Zi0 (g : Int) (X : Nat) (xs : List Stp) (v : Value) (w : World) (hr : Z2D w v xs) (hX : w.cell? ⟨X, 0, none⟩ = some (.int .i64 g)) (wD : X < w.1.size) (hl : xs.length <= 1000000) :
 Calls Tryz.prog 112 #[v, .func (Fn.func 111) #[] #[.pointer (some ⟨X, 0, none⟩)]] w fun e w' => e = .returned (.int .i64 (stepOf xs g)) /\ Below w.1.size w w' := by
 obtain ⟨a, cap, rfl, hc⟩ := hr
 have HC := Z0 hc
 have HX := Z0 hX
 have yT := Z0 wD
 clear hc hX wD
 go_enter Tryz.func112, Tryz.ntmps112
 go_wp2_with fail
 go_loopw [8] (fun i wx => ∃ q : Nat, q <= xs.length /\ i = .int .i64 q /\ Below w.1.size w wx /\ ∀ i (hi : i < xs.length), i < q -> decide (g <= xs[i].grams) = false) (fun i _ => xs.length - (intOf i).toNat)
 case atStart => exact ⟨0, ZE _, rfl, Z9 _ _, fun i _ h => absurd h (Ka2 _)⟩
 case round =>
  obtain ⟨q, hq, rfl, hB, tE⟩ := hrel
  have wE := Z0 tE
  have HB := Z0 hB
  clear tE
  by_cases pB : q < xs.length
  ·obtain ⟨gx, off, rfl, hg, pD⟩ := HC.out (by omega)
   obtain ⟨s, hs, pO⟩ := pD q pB
   have wF := fun h => ZiT (f := fun s : Stp => decide (g <= s.grams)) pB h (fun i hi yU => wE.out i hi yU)
   obtain ⟨b, hb⟩ : ∃ b, b = xs[q] := ⟨_, rfl⟩
   have kU := Z0 hb
   rw [<- hb] at hs pO wF
   obtain ⟨asx, csx, rfl, _⟩ := hs
   have f0 : wr.cell? ⟨gx, off + q * 2, none⟩ = some (.int .i64 b.grams) := (hB.cell (p := ⟨gx, off + q * 2, none⟩) hg).trans (pO 0 _ rfl)
   have f1 : wr.cell? ⟨gx, off + q * 2 + 1, none⟩ = some (.slice asx b.cents.length csx) := (hB.cell (p := ⟨gx, off + q * 2 + 1, none⟩) hg).trans (pO 1 _ rfl)
   have yV := Ze0 b g X (.slice asx b.cents.length csx) wr ⟨_, _, _, rfl⟩ ((hB.cell (p := ⟨X, 0, none⟩) yT.out).trans HX.out) (ZH yT.out hB.size)
   have uP := Z0 yV
   have HY := Z0 wF
   clear yV wF pO pD hb
   cases uQ : decide (g <= b.grams)
   ·rw [uQ] at uP
    go_wp2_with (go_at_call 111; refine uP.out.mono ?_; rintro e w2 ⟨rfl, pC⟩)
    go_roundw
    case rel =>
     refine ⟨q + 1, by omega, by go_num, Z01 HB.out HB.out.size pC, fun i hi yU => ?_⟩
     by_cases e : i = q
     ·subst e; rw [<- kU.out]; exact uQ
     ·exact wE.out i hi (by omega)
    case measure => simp [intOf]; omega
   ·rw [uQ] at uP
    have hy := HY.out uQ
    have kV := Z0 hy
    clear hy
    go_wp2_with (go_at_call 111; refine uP.out.mono ?_; rintro e w2 ⟨rfl, pC⟩)
    go_ret
    unfold stepOf
    rw [kV.out]
    exact ⟨rfl, Z01 HB.out HB.out.size pC⟩
  ·have hn := Z8P (f := fun s : Stp => decide (g <= s.grams)) (l := xs) (fun i hi => wE.out i hi (by omega))
   have HN := Z0 hn
   clear hn
   go_wp2_with fail
   go_ret
   unfold stepOf
   rw [HN.out]
   exact ⟨rfl, HB.out⟩
theorem Z9u {zn : Nat} {r : Rat} (hr : RatOk zn r) (v : Value) (z g : Int) (w : World) (hv : Z2D w v r.steps) (hz : 1 <= z /\ z <= zn) (lX : zn <= 20) :
 Calls Tryz.prog 75 #[.agg #[.int .u8 r.cls, v, .int .i64 r.bar], .int .i64 z, .int .i64 g] w fun e w' => e = .returned (.tuple #[.int .i64 (Z3U r z g).1, .int .i64 (Z3U r z g).2]) /\ Below w.1.size w w' := by
 obtain ⟨m, rfl⟩ : ∃ m : Nat, z = (m + 1 : Nat) := ⟨(z - 1).toNat, by omega⟩
 have hm : m < zn := by omega
 have uR : Hid (∀ W X, Z2D W v r.steps -> W.cell? ⟨X, 0, none⟩ = some (.int .i64 g) -> X < W.1.size -> Calls Tryz.prog 112 #[v, .func (Fn.func 111) #[] #[.pointer (some ⟨X, 0, none⟩)]] W fun e w' => e = .returned (.int .i64 (stepOf r.steps g)) /\ Below W.1.size W w') :=
  fun W X h1 h2 h3 => Zi0 g X r.steps v W h1 h2 h3 (by have := hr.some_; omega)
 have yW := Z0 hv
 have hs := hr.some_
 have yX := Z0 hr.cents
 have uS := Z9W (fun s : Stp => decide (g <= s.grams)) r.steps
 have hex : ∃ P, P = Z3U r ((m + 1 : Nat) : Int) g := ⟨_, rfl⟩
 obtain ⟨P, hP⟩ := hex
 rw [<- hP]
 have sF : P = if stepOf r.steps g < 0 then (0, 3) else (Zaf (r.steps.getD (stepOf r.steps g).toNat ⟨0, []⟩) ((m + 1 : Nat) : Int), 0) := hP
 have pE : stepOf r.steps g = ixF (fun s : Stp => decide (g <= s.grams)) r.steps := rfl
 clear hr hP
 have qG : Below w.1.size w ((w.alloc (.cells #[.int .u8 r.cls, v, .int .i64 r.bar] 60)).alloc (.cells #[.int .i64 g] 3)) := ((Z9 _ w).alloc (Z1 _) _).alloc (by simp) _
 have pM := Z0 qG
 obtain ⟨a, ca, rfl, pD⟩ := hv
 have HC := Z0 pD
 clear qG pD
 rcases uS with ⟨h1, _⟩ | ⟨q, hq, h1, _⟩
 ·rw [<- pE] at h1
  rw [h1] at uR sF
  have uT : P = (0, 3) := sF
  clear sF pE h1 HC
  go_enter Tryz.func75, Tryz.ntmps75
  go_wp2_with (go_at_call 112; refine (uR.out _ _ (yW.out.below pM.out) (by simp [go_sem]) (by simp)).mono ?_; rintro e w2 ⟨rfl, pC⟩)
  go_ret2
  rw [uT]
  exact ⟨rfl, pM.out.trans (pC.mono pM.out.size)⟩
 ·rw [<- pE] at h1
  rw [h1] at uR sF
  obtain ⟨gx, off, rfl, hg, pO⟩ := HC.out (by omega)
  obtain ⟨sv, hsv, uS⟩ := pO q hq
  obtain ⟨q1, _⟩ := yX.out _ (Z4 hq)
  obtain ⟨ax, cx, rfl, yY⟩ := hsv
  have rW : m < r.steps[q].cents.length := by omega
  obtain ⟨gc, oc, rfl, kW, pD⟩ := yY (Nat.lt_of_le_of_lt (ZE _) rW)
  have x1 := uS 1 _ rfl
  have x2 : w.cell? ⟨gc, oc + m, none⟩ = some (.int .i64 (r.steps[q].cents[m]'rW)) := pD m rW
  have uT : P = (r.steps[q].cents[m]'rW, 0) := by
   rw [sF, if_neg (by omega), Kar, Z2, Z3 hq]
   unfold Zaf
   rw [show (((m + 1 : Nat) : Int) - 1).toNat = m by omega, Z2, Kcu, Z3 rW]
   rfl
  clear sF pE h1 HC pO uS yY pD yX
  obtain ⟨ce, yZ⟩ : ∃ ce, ce = r.steps[q].cents[m]'rW := ⟨_, rfl⟩
  rw [<- yZ] at x2 uT
  have x1' : w.cell? ⟨gx, off + q * 2 + 1, none⟩ = some (.slice (some ⟨gc, oc, none⟩) zn cx) := by rw [<- q1]; exact x1
  clear yZ x1 q1 rW
  have xF : q < r.steps.length := hq
  have jI : IntKind.i64.wrap (((m + 1 : Nat) : Int) - 1) = (m : Int) := by rw [IntWalk.i64_in _ (by omega)]; omega
  go_enter Tryz.func75, Tryz.ntmps75
  go_wp2_with (go_at_call 112; refine (uR.out _ _ (yW.out.below pM.out) (by simp [go_sem]) (by simp)).mono ?_; rintro e w2 ⟨rfl, pC⟩; obtain ⟨k1, k2, k3, k4⟩ := Z1T pC; have y1 := Kaa _ _ 1 _ _ _ k1; have y2 := (k4.cell (p := ⟨gx, off + q * 2 + 1, none⟩) hg).trans x1'; have y3 := (k4.cell (p := ⟨gc, oc + m, none⟩) kW).trans x2; have kX := Z0 k4; clear pC k1 k2 k4)
  go_ret2
  rw [uT]
  exact ⟨rfl, kX.out⟩
theorem Z7g {l : List Rat} (ha : l.Pairwise (fun a b => a.cls ≠ b.cls)) {k j : Nat} (hk : k < l.length) (hj : j < l.length) (h : l[k].cls = l[j].cls) : k = j := by
 rcases Nat.lt_trichotomy k j with e | e | e
 ·exact absurd h (Kb1.1 ha k j hk hj e)
 ·exact e
 ·exact absurd h.symm (Kb1.1 ha j k hj hk e)
theorem results_cell_tmp {fn : Func} {p u : Tmp} {ty : TypeId} (h : fn.results = #[.cell p ty, .tmp u]) (tmps : Array Value) (w : World) (g : Nat) (x : Value)
 (hp : tmps.getD p undef = .pointer (some ⟨g, 0, none⟩)) (hL : (loadVar ty ⟨g, 0, none⟩).run Tryz.prog w = .ok x w) : (results fn tmps).run Tryz.prog w = .ok (.tuple #[x, tmps.getD u undef]) w := by
 have hp' : tmps[p]?.getD undef = .pointer (some ⟨g, 0, none⟩) := by simpa using hp
 simp [results, h, hp', asAddr, hL, Result.andThen]
theorem Ze5 {w : World} {g : Nat} {a b c a' b' c' : Value} {t : TypeId} {fr : Nat × Nat} (h : w.1[g]? = some (.cells #[a, b, c] t fr)) :
 (((w.setCell ⟨g, 0, none⟩ a').setCell ⟨g, 1, none⟩ b').setCell ⟨g, 2, none⟩ c').1[g]? = some (.cells #[a', b', c'] t fr) := by
 simp [World.setCell, Kap, h]
theorem Z2J {B : Nat} {w w' : World} {g : Nat} {a b c : Value} (h : Below B w w') (hg : B <= g) : Below B w (((w'.setCell ⟨g, 0, none⟩ a).setCell ⟨g, 1, none⟩ b).setCell ⟨g, 2, none⟩ c) :=
 ((h.setCell (p := ⟨g, 0, none⟩) hg _).setCell (p := ⟨g, 1, none⟩) hg _).setCell (p := ⟨g, 2, none⟩) hg _
theorem Z00 {w : World} {g j : Nat} {cs : Array Value} {t : TypeId} (h : w.1[g]? = some (.cells cs t (0, 0))) : w.frozen? ⟨g, j, none⟩ = false := by simp [World.frozen?, h]
def ZhF (r : Rat) (sv : Value) : Value := .agg #[.int .u8 r.cls, sv, .int .i64 r.bar]
theorem Z5f {T : Tar} {vr vz : Value} (c : Int) (w : World) (h : RdTar w vr vz T) (hl : T.rates.length <= 20) {q : Nat} (hq : q < T.rates.length) (hc : T.rates[q].cls = c) (hn : ∀ i (hi : i < T.rates.length), i < q -> T.rates[i].cls ≠ c) :
 Calls Tryz.prog 36 #[.agg #[vr, vz], .int .u8 c] w fun e w' => ∃ sv, e = .returned (.tuple #[ZhF T.rates[q] sv, .bool true]) /\ Below w.1.size w w' /\ Z2D w' sv T.rates[q].steps := by
 obtain ⟨a, ca, rfl, pD⟩ := h.r
 obtain ⟨az, cz, rfl, _⟩ := h.z
 obtain ⟨g, off, rfl, hg, pE⟩ := pD (by omega)
 have rX := Z0 pE
 have HN := Z0 hn
 have HC := Z0 hc
 clear h pD pE hn hc
 have qG : Below w.1.size w ((w.alloc (.cells #[.slice (some ⟨g, off, none⟩) T.rates.length ca, .slice az T.zones.length cz] 29)).alloc (.cells #[.int .u8 0, .slice none 0 0, .int .i64 0] 60)) := ((Z9 _ w).alloc (Z1 _) _).alloc (by simp) _
 obtain ⟨t1, t2, t3, t4⟩ := Z19 (w := w) (A := .cells #[.slice (some ⟨g, off, none⟩) T.rates.length ca, .slice az T.zones.length cz] 29) (B := .cells #[.int .u8 0, .slice none 0 0, .int .i64 0] 60) rfl
 have pM := Z0 qG
 have sG := Z0 t2
 have lY := Z0 t3
 clear qG t1 t2 t3 t4
 unfold ZhF
 go_enter Tryz.func36, Tryz.ntmps36
 go_wp2_with fail
 go_loopw [11] (fun i wr => ∃ k : Nat, k <= q /\ i = .int .i64 k /\ Below w.1.size w wr /\ wr.1[w.1.size + 1]? = some (.cells #[.int .u8 0, .slice none 0 0, .int .i64 0] 60 (0, 0))) (fun i _ => T.rates.length - (intOf i).toNat)
 case atStart => exact ⟨0, ZE _, rfl, pM.out, sG.out⟩
 case round =>
  obtain ⟨k, hk, rfl, hb, h1⟩ := hrel
  have pB : k < T.rates.length := by omega
  obtain ⟨sv, hsv, pX⟩ := rX.out k pB
  obtain ⟨c0, c1, c2⟩ := pX.below hb hg
  have pG : g < wr.1.size := by have := hb.size; omega
  have pY := (Z5.1 h1).1
  have d4 : decide ((k : Int) < (T.rates.length : Int)) = true := Kac (by omega)
  have qX := Z0 hsv
  obtain ⟨sa, sc, rfl, _⟩ := hsv
  have HB := Z0 hb
  have H1 := Z0 h1
  by_cases e : k = q
  ·subst e
   have qR := HC.out
   clear pX rX HN HC hb h1
   generalize kY : T.rates[k] = r at c0 c1 c2 qX qR ⊢
   have d5 : (r.cls == c) = true := by rw [qR]; simp
   have z0 := Kaa _ _ 0 _ _ _ H1.out
   have z1 := Kaa _ _ 1 _ _ _ H1.out
   have z2 := Kaa _ _ 2 _ _ _ H1.out
   have y0 := Z00 (j := 0) H1.out
   have y1 := Z00 (j := 1) H1.out
   have y2 := Z00 (j := 2) H1.out
   go_wp2_with fail
   refine bodyPost_ret (results_cell_tmp rfl _ _ (w.1.size + 1) _ rfl (run_loadVar_row _ _ _ _ _ _ _ ((ZB _ _ _ (by simp [World.setCell]; omega)).trans (Ze5 H1.out)) Tryz.underlying60 rfl (by kernel_rfl))) rfl ?_
   have HF := (Z2J (g := w.1.size + 1) (a := .int .u8 c) (b := .slice sa r.steps.length sc) (c := .int .i64 r.bar) HB.out (Kbd w.1.size)).alloc (by simp [World.setCell]; omega) (.cells #[.int .u8 c, .slice sa r.steps.length sc, .int .i64 r.bar] 60)
   exact ⟨_, rfl, HF, qX.out.below HF⟩
  ·have pV := HN.out k pB (by omega)
   clear pX rX HN HC hb h1
   generalize T.rates[k] = r at c0 c1 c2 qX pV
   have d5 : (r.cls == c) = false := by rw [beq_eq_false_iff_ne]; exact pV
   go_wp2_with fail
   go_roundw
   case rel => exact ⟨k + 1, by omega, by go_num, HB.out.alloc HB.out.size _, (ZB _ _ _ pY).trans H1.out⟩
   case measure => simp [intOf]; omega
theorem Zed {T : Tar} {vr vz : Value} (c : Int) (w : World) (h : RdTar w vr vz T) (hl : T.rates.length <= 20) (hn : ∀ r ∈ T.rates, r.cls ≠ c) :
 Calls Tryz.prog 36 #[.agg #[vr, vz], .int .u8 c] w fun e w' => e = .returned (.tuple #[.agg #[.int .u8 0, .slice none 0 0, .int .i64 0], .bool false]) /\ Below w.1.size w w' := by
 obtain ⟨a, ca, rfl, pD⟩ := h.r
 obtain ⟨az, cz, rfl, _⟩ := h.z
 have HC := Z0 pD
 have HN := Z0 hn
 clear h pD hn
 obtain ⟨t1, t2, t3, t4⟩ := Z19 (w := w) (A := .cells #[.slice a T.rates.length ca, .slice az T.zones.length cz] 29) (B := .cells #[.int .u8 0, .slice none 0 0, .int .i64 0] 60) rfl
 have sG := Z0 t2
 have pP := Z0 t4
 clear t1 t2 t3 t4
 go_enter Tryz.func36, Tryz.ntmps36
 go_wp2_with fail
 go_loopw [11] (fun i wr => ∃ k : Nat, k <= T.rates.length /\ i = .int .i64 k /\ Below w.1.size w wr /\ wr.1[w.1.size + 1]? = some (.cells #[.int .u8 0, .slice none 0 0, .int .i64 0] 60 (0, 0))) (fun i _ => T.rates.length - (intOf i).toNat)
 case atStart => exact ⟨0, ZE _, rfl, pP.out, sG.out⟩
 case round =>
  obtain ⟨k, hk, rfl, hb, h1⟩ := hrel
  have pY := (Z5.1 h1).1
  have HB := Z0 hb
  have H1 := Z0 h1
  by_cases pB : k < T.rates.length
  ·obtain ⟨g, off, rfl, hg, pE⟩ := HC.out (by omega)
   obtain ⟨sv, hsv, pX⟩ := pE k pB
   obtain ⟨c0, c1, c2⟩ := pX.below hb hg
   have pG : g < wr.1.size := by have := hb.size; omega
   have d4 : decide ((k : Int) < (T.rates.length : Int)) = true := Kac (by omega)
   obtain ⟨sa, sc, rfl, _⟩ := hsv
   have pV := HN.out _ (Z4 pB)
   clear pX pE HN HC hb h1
   generalize T.rates[k] = r at c0 c1 c2 pV
   have d5 : (r.cls == c) = false := by rw [beq_eq_false_iff_ne]; exact pV
   go_wp2_with fail
   go_roundw
   case rel => exact ⟨k + 1, by omega, by go_num, HB.out.alloc HB.out.size _, (ZB _ _ _ pY).trans H1.out⟩
   case measure => simp [intOf]; omega
  ·obtain rfl : k = T.rates.length := by omega
   have z0 := Kaa _ _ 0 _ _ _ H1.out
   have z1 := Kaa _ _ 1 _ _ _ H1.out
   have z2 := Kaa _ _ 2 _ _ _ H1.out
   have y0 := Z00 (j := 0) H1.out
   have y1 := Z00 (j := 1) H1.out
   have y2 := Z00 (j := 2) H1.out
   clear hb h1
   go_wp2_with fail
   refine bodyPost_ret (results_cell_tmp rfl _ _ (w.1.size + 1) _ rfl (run_loadVar_row _ _ _ _ _ _ _ (Ze5 H1.out) Tryz.underlying60 rfl (by kernel_rfl))) rfl ?_
   exact ⟨rfl, Z2J HB.out (Kbd w.1.size)⟩
theorem ZfF {T : Tar} {vr vz : Value} (c : Int) (w : World) (h : RdTar w vr vz T) (hl : T.rates.length <= 20) {q : Nat} (hq : q < T.rates.length) (hc : T.rates[q].cls = c) (hn : ∀ i (hi : i < T.rates.length), i < q -> T.rates[i].cls ≠ c) :
 Calls Tryz.prog 66 #[.agg #[vr, vz], .int .u8 c] w fun e w' => e = .returned (.int .i64 T.rates[q].bar) /\ Below w.1.size w w' := by
 obtain ⟨a, ca, rfl, pD⟩ := h.r
 obtain ⟨az, cz, rfl, _⟩ := h.z
 obtain ⟨g, off, rfl, hg, pE⟩ := pD (by omega)
 have rX := Z0 pE
 have HN := Z0 hn
 have HC := Z0 hc
 clear h pD pE hn hc
 have pM := Z0 ((Z9 _ w).alloc (Z1 _) (.cells #[.slice (some ⟨g, off, none⟩) T.rates.length ca, .slice az T.zones.length cz] 29))
 go_enter Tryz.func66, Tryz.ntmps66
 go_wp2_with fail
 go_loopw [10] (fun i wr => ∃ k : Nat, k <= q /\ i = .int .i64 k /\ Below w.1.size w wr) (fun i _ => T.rates.length - (intOf i).toNat)
 case atStart => exact ⟨0, ZE _, rfl, pM.out⟩
 case round =>
  obtain ⟨k, hk, rfl, hb⟩ := hrel
  have pB : k < T.rates.length := by omega
  obtain ⟨sv, hsv, pX⟩ := rX.out k pB
  obtain ⟨c0, c1, c2⟩ := pX.below hb hg
  have pG : g < wr.1.size := by have := hb.size; omega
  have d4 : decide ((k : Int) < (T.rates.length : Int)) = true := Kac (by omega)
  obtain ⟨sa, sc, rfl, _⟩ := hsv
  have HB := Z0 hb
  by_cases e : k = q
  ·subst e
   have qR := HC.out
   clear pX rX HN HC hb
   generalize kY : T.rates[k] = r at c0 c1 c2 qR ⊢
   have d5 : (r.cls == c) = true := by rw [qR]; simp
   go_wp2_with fail
   go_ret
   exact ⟨rfl, HB.out.alloc HB.out.size _⟩
  ·have pV := HN.out k pB (by omega)
   clear pX rX HN HC hb
   generalize T.rates[k] = r at c0 c1 c2 pV
   have d5 : (r.cls == c) = false := by rw [beq_eq_false_iff_ne]; exact pV
   go_wp2_with fail
   go_roundw
   case rel => exact ⟨k + 1, by omega, by go_num, HB.out.alloc HB.out.size _⟩
   case measure => simp [intOf]; omega
theorem Z7R (s p : ByteArray) (w : World) : Calls Tryz.prog 113 #[.string s, .string p] w fun e w' => e = .returned (.bool (Z5Q p s)) /\ w' = w := Tryz.strings_HasPrefix s p w
theorem Z6e {fr till : ByteArray} {b r : Zn} (h : (Z5Q r.fr fr && Z5Q r.till till) = false) : Z1C fr till b r = b := by unfold Z1C; rw [h]; rfl
theorem Z2p {fr till : ByteArray} {b r : Zn} (h : Z5Q r.fr fr = true) (h' : Z5Q r.till till = true) (hc : b.zone = 0 \/ b.fr.size < r.fr.size \/ (r.fr.size = b.fr.size /\ b.till.size < r.till.size)) : Z1C fr till b r = r := by
 unfold Z1C; rw [h, h', Bool.and_self, if_pos rfl, if_pos hc]
theorem Z4e {fr till : ByteArray} {b r : Zn} (hc : ¬ (b.zone = 0 \/ b.fr.size < r.fr.size \/ (r.fr.size = b.fr.size /\ b.till.size < r.till.size))) : Z1C fr till b r = b := by
 unfold Z1C
 by_cases h : (Z5Q r.fr fr && Z5Q r.till till) = true
 ·rw [if_pos h, if_neg hc]
 ·rw [if_neg h]
def znO (z : Zn) : Obj := .cells #[.string z.fr, .string z.till, .int .i64 z.zone] 93
theorem Z7G (l : List Zn) (v : Value) (fr till : ByteArray) (w : World) (hv : RdZones w v l) (hl : l.length <= 500) (sV : ∀ r ∈ l, r.fr.size <= 1000 /\ r.till.size <= 1000) :
 Calls Tryz.prog 76 #[v, .string fr, .string till] w fun e w' => e = .returned (.int .i64 (Z2X l fr till)) /\ Below w.1.size w w' := by
 obtain ⟨a, ca, rfl, pD⟩ := hv
 have HC := Z0 pD
 have zA := Z0 sV
 have tF := Z0 ((Z9 _ w).alloc (Z1 _) (.cells #[.string ⟨#[]⟩, .string ⟨#[]⟩, .int .i64 0] 93))
 clear pD sV
 unfold Z2X
 go_enter Tryz.func76, Tryz.ntmps76
 go_wp2_with fail
 go_loopw [14] (fun i wr => ∃ (k : Nat) (b : Zn), k <= l.length /\ i = .int .i64 k /\ Below w.1.size w wr /\ wr.1[w.1.size]? = some (znO b) /\ Hid (b = Z2F l fr till k) /\ b.fr.size <= 1000 /\ b.till.size <= 1000) (fun i _ => l.length - (intOf i).toNat)
 case atStart => exact ⟨0, Zjx, ZE _, rfl, tF.out, Z02 w _, rfl, ZE _, ZE _⟩
 case round =>
  obtain ⟨k, b, hk, rfl, hb, h1, rI, b1, b2⟩ := hrel
  have pY := (Z5.1 h1).1
  have HB := Z0 hb
  have H1 := Z0 h1
  unfold znO at h1
  have z0 := Kaa _ _ 0 _ _ _ h1
  have z1 := Kaa _ _ 1 _ _ _ h1
  have z2 := Kaa _ _ 2 _ _ _ h1
  by_cases pB : k < l.length
  ·obtain ⟨g, off, rfl, hg, pE⟩ := HC.out (by omega)
   obtain ⟨c0, c1, c2⟩ := (pE k pB).below hb hg
   have pG : g < wr.1.size := by have := hb.size; omega
   have d4 : decide ((k : Int) < (l.length : Int)) = true := Kac (by omega)
   have qJ := Z0 (Z6d l fr till k pB)
   obtain ⟨r1, r2⟩ := zA.out _ (Z4 pB)
   have y0 := Z00 (j := 0) h1
   have y1 := Z00 (j := 1) h1
   have y2 := Z00 (j := 2) h1
   have H1' := Z0 h1
   clear pE HC zA hb h1
   generalize l[k] = r at c0 c1 c2 qJ r1 r2
   have qY := Z0 (fun W => Z7R fr r.fr W)
   have pT := Z0 (fun W => Z7R till r.till W)
   cases rY : Z5Q r.fr fr
   ·rw [rY] at qY
    go_wp2_with (first | (go_at_call 113; refine (pT.out _).mono ?_; rintro e w3 ⟨rfl, rfl⟩) | (go_at_call 113; refine (qY.out _).mono ?_; rintro e w2 ⟨rfl, rfl⟩))
    go_roundw
    case rel => exact ⟨k + 1, b, by omega, by go_num, HB.out.alloc HB.out.size _, (ZB _ _ _ pY).trans H1.out, (by show b = _; rw [qJ.out, <- rI.out]; exact (Z6e (by rw [rY]; rfl)).symm), b1, b2⟩
    case measure => simp [intOf]; omega
   ·rw [rY] at qY
    cases sH : Z5Q r.till till
    ·rw [sH] at pT
     go_wp2_with (first | (go_at_call 113; refine (pT.out _).mono ?_; rintro e w3 ⟨rfl, rfl⟩) | (go_at_call 113; refine (qY.out _).mono ?_; rintro e w2 ⟨rfl, rfl⟩))
     go_roundw
     case rel => exact ⟨k + 1, b, by omega, by go_num, HB.out.alloc HB.out.size _, (ZB _ _ _ pY).trans H1.out, (by show b = _; rw [qJ.out, <- rI.out]; exact (Z6e (by rw [rY, sH]; rfl)).symm), b1, b2⟩
     case measure => simp [intOf]; omega
    ·rw [sH] at pT
     by_cases e1 : b.zone = 0
     ·have d1 : (b.zone == 0) = true := by rw [e1]; rfl
      go_wp2_with (first | (go_at_call 113; refine (pT.out _).mono ?_; rintro e w3 ⟨rfl, rfl⟩) | (go_at_call 113; refine (qY.out _).mono ?_; rintro e w2 ⟨rfl, rfl⟩))
      go_roundw
      case rel => exact ⟨k + 1, r, by omega, by go_num, (Z2J HB.out (Z1 _)).alloc (by simp [World.setCell]; exact HB.out.size) _, (ZB _ _ _ (by simp [World.setCell]; exact pY)).trans (Ze5 H1'.out), (by show r = _; rw [qJ.out, <- rI.out]; exact (Z2p rY sH (.inl e1)).symm), r1, r2⟩
      case measure => simp [intOf]; omega
     ·have d1 : (b.zone == 0) = false := by rw [beq_eq_false_iff_ne]; exact e1
      by_cases e2 : b.fr.size < r.fr.size
      ·have d2 : decide ((b.fr.size : Int) < (r.fr.size : Int)) = true := Kac (by omega)
       go_wp2_with (first | (go_at_call 113; refine (pT.out _).mono ?_; rintro e w3 ⟨rfl, rfl⟩) | (go_at_call 113; refine (qY.out _).mono ?_; rintro e w2 ⟨rfl, rfl⟩))
       go_roundw
       case rel => exact ⟨k + 1, r, by omega, by go_num, (Z2J HB.out (Z1 _)).alloc (by simp [World.setCell]; exact HB.out.size) _, (ZB _ _ _ (by simp [World.setCell]; exact pY)).trans (Ze5 H1'.out), (by show r = _; rw [qJ.out, <- rI.out]; exact (Z2p rY sH (.inr (.inl e2))).symm), r1, r2⟩
       case measure => simp [intOf]; omega
      ·have d2 : decide ((b.fr.size : Int) < (r.fr.size : Int)) = false := Kad (by omega)
       by_cases e3 : r.fr.size = b.fr.size
       ·have d3 : ((r.fr.size : Int) == (b.fr.size : Int)) = true := by rw [e3]; simp
        by_cases e5 : b.till.size < r.till.size
        ·have d5 : decide ((b.till.size : Int) < (r.till.size : Int)) = true := Kac (by omega)
         go_wp2_with (first | (go_at_call 113; refine (pT.out _).mono ?_; rintro e w3 ⟨rfl, rfl⟩) | (go_at_call 113; refine (qY.out _).mono ?_; rintro e w2 ⟨rfl, rfl⟩))
         go_roundw
         case rel => exact ⟨k + 1, r, by omega, by go_num, (Z2J HB.out (Z1 _)).alloc (by simp [World.setCell]; exact HB.out.size) _, (ZB _ _ _ (by simp [World.setCell]; exact pY)).trans (Ze5 H1'.out), (by show r = _; rw [qJ.out, <- rI.out]; exact (Z2p rY sH (.inr (.inr ⟨e3, e5⟩))).symm), r1, r2⟩
         case measure => simp [intOf]; omega
        ·have d5 : decide ((b.till.size : Int) < (r.till.size : Int)) = false := Kad (by omega)
         go_wp2_with (first | (go_at_call 113; refine (pT.out _).mono ?_; rintro e w3 ⟨rfl, rfl⟩) | (go_at_call 113; refine (qY.out _).mono ?_; rintro e w2 ⟨rfl, rfl⟩))
         go_roundw
         case rel => exact ⟨k + 1, b, by omega, by go_num, HB.out.alloc HB.out.size _, (ZB _ _ _ pY).trans H1.out, (by show b = _; rw [qJ.out, <- rI.out]; exact (Z4e (by omega)).symm), b1, b2⟩
         case measure => simp [intOf]; omega
       ·have d3 : ((r.fr.size : Int) == (b.fr.size : Int)) = false := by rw [beq_eq_false_iff_ne]; omega
        go_wp2_with (first | (go_at_call 113; refine (pT.out _).mono ?_; rintro e w3 ⟨rfl, rfl⟩) | (go_at_call 113; refine (qY.out _).mono ?_; rintro e w2 ⟨rfl, rfl⟩))
        go_roundw
        case rel => exact ⟨k + 1, b, by omega, by go_num, HB.out.alloc HB.out.size _, (ZB _ _ _ pY).trans H1.out, (by show b = _; rw [qJ.out, <- rI.out]; exact (Z4e (by omega)).symm), b1, b2⟩
        case measure => simp [intOf]; omega
  ·obtain rfl : k = l.length := by omega
   go_wp2_with fail
   go_ret
   rw [<- rI.out]
   exact ⟨rfl, hb⟩
theorem Zci {z : Nat} {T : Tar} (hT : TarOk z T) {lo hb hc : Int} {ls : List Lev} (hF : FitT lo hb hc T ls) {vr vz v : Value} (w : World) (h : RdTar w vr vz T) (hr : RdLevs w v ls) (hf : ∀ l ∈ ls, Z0x l) (qK : Z0j ls = true) :
 Calls Tryz.prog 33 #[.agg #[vr, vz], v] w fun e w' => e = .returned (.bool true) /\ Below w.1.size w w' := by
 have tA := Z0y qK
 have qE := Z0 (fun W (hW : Below w.1.size w W) => Z3C hT W (h.below hW))
 have wG := Z0 (fun W (hW : Below w.1.size w W) => Z2g ls v W (hr.below hW) hf (by have := tA; unfold maxLen; omega))
 rw [qK] at wG
 have HT := Z0 hT
 obtain ⟨lo0, lo1, zB, kZ⟩ := hF.num
 have zC := Z0 hF.cents
 have zD := Z0 hF.bar
 have sI := Z0 hF.lev
 have uU := hT.rates
 have lZ := hT.zn
 obtain ⟨a, ca, rfl, pD⟩ := h.r
 obtain ⟨az, cz, rfl, _⟩ := h.z
 have HC := Z0 pD
 obtain ⟨al, cl, rfl, rJ⟩ := hr
 have sJ := Z0 rJ
 have tF := Z0 ((Z9 _ w).alloc (Z1 _) (.cells #[.slice a T.rates.length ca, .slice az T.zones.length cz] 29))
 clear pD rJ h hT hF qK hf
 go_enter Tryz.func33, Tryz.ntmps33
 go_wp2_with (first
  | (go_at_call 72; refine (qE.out _ tF.out).mono ?_; rintro e w1 ⟨rfl, pA⟩; obtain ⟨k1, k2, k3⟩ := Z2O pA; clear pA)
  | (go_at_call 39; refine (wG.out _ k3).mono ?_; rintro e w2 ⟨rfl, pC⟩; have j1 := (pC.block _ (by omega)).trans k1; have j3 := Z01 k3 k3.size pC; have j2 := Kaw k2 pC.size; clear pC k1 k2 k3))
 have qS := Z0 j1
 have rK := Z0 j3
 have qA := Z0 j2
 clear j1 j2 j3 qE wG
 go_loopw [5, 23] (fun x i wr => ∃ (k : Nat) (m : Int), k <= ls.length /\ i = .int .i64 k /\ x = .int .i64 m /\ 0 <= m /\ m <= hc /\ Below w.1.size w wr /\ wr.1[w.1.size]? = some (.cells #[.slice a T.rates.length ca, .slice az T.zones.length cz] 29 (0, 0))) (fun _ i _ => ls.length - (intOf i).toNat)
 case atStart => exact ⟨0, 0, ZE _, rfl, rfl, Kbi _, zB, rK.out, qS.out⟩
 case round =>
  obtain ⟨k, m, hk, rfl, rfl, m0, m1, pA, tG⟩ := hrel
  have HB := Z0 pA
  have zE := Z0 tG
  have pY := (Z5.1 tG).1
  by_cases pB : k < ls.length
  ·obtain ⟨g, off, rfl, hg, pE⟩ := sJ.out (by omega)
   obtain ⟨sv, lA, pX⟩ := pE k pB
   obtain ⟨t0, t1, t2, t3, t4⟩ := pX
   have s0 := (pA.cell (p := ⟨g, off + k * 5, none⟩) hg).trans t0
   have s1 := (pA.cell (p := ⟨g, off + k * 5 + 1, none⟩) hg).trans t1
   have s2 := (pA.cell (p := ⟨g, off + k * 5 + 2, none⟩) hg).trans t2
   have s3 := (pA.cell (p := ⟨g, off + k * 5 + 3, none⟩) hg).trans t3
   have s4 := (pA.cell (p := ⟨g, off + k * 5 + 4, none⟩) hg).trans t4
   have pG : g < wr.1.size := by have := pA.size; omega
   obtain ⟨q1, q2⟩ := sI.out _ (Z4 pB)
   have d4 : decide ((k : Int) < (ls.length : Int)) = true := Kac (by omega)
   obtain ⟨sa, sc, rfl, _⟩ := lA
   clear t0 t1 t2 t3 t4 pE sJ sI pA tG
   generalize ls[k] = l at s0 s1 s2 s3 s4 q1 q2
   have zF : 0 <= max m l.cents /\ max m l.cents <= hc := ⟨Int.le_trans m0 (Int.le_max_left _ _), by omega⟩
   have zG := Z0 zF
   clear zF
   go_wp2_with fail
   go_roundw
   case rel => exact ⟨k + 1, max m l.cents, by omega, by go_num, rfl, zG.out.1, zG.out.2, HB.out.alloc HB.out.size _, (ZB _ _ _ pY).trans zE.out⟩
   case measure => simp [intOf]; omega
  ·obtain rfl : k = ls.length := by omega
   have x0 := Kaa _ _ 0 _ _ _ tG
   clear sJ sI pA tG qS rK qA
   go_wp2_with fail
   go_loopw [35] (fun i wq => ∃ n : Nat, n <= T.rates.length /\ i = .int .i64 n /\ Below w.1.size w wq) (fun i _ => T.rates.length - (intOf i).toNat)
   case atStart => exact ⟨0, ZE _, rfl, HB.out⟩
   case round =>
    clear HB zE pY x0
    obtain ⟨n, hn, rfl, pC⟩ := hrel
    have HB := Z0 pC
    by_cases uV : n < T.rates.length
    ·obtain ⟨g, off, rfl, hg, pE⟩ := HC.out (by omega)
     obtain ⟨sv, hsv, pX⟩ := pE n uV
     obtain ⟨c0, c1, c2⟩ := pX.below pC hg
     have pG : g < wr.1.size := by have := pC.size; omega
     have d4 : decide ((n : Int) < (T.rates.length : Int)) = true := Kac (by omega)
     obtain ⟨_, _, pK⟩ := HT.out.rate _ (Z4 uV)
     have wH := pK.bar
     have sU := pK.some_
     have qZ := fun s hs => (pK.cents s hs).1
     have sK := Z0 qZ
     have sS := Z0 (fun s hs c rP => ((pK.cents s hs).2 c rP).2)
     have lB := zD.out _ (Z4 uV)
     have uW := Z0 (zC.out _ (Z4 uV))
     obtain ⟨sa, sc, rfl, zH⟩ := hsv
     have uX := Z0 zH
     clear pE pX HC zD zC pK qZ zH pC
     generalize T.rates[n] = r at c0 c1 c2 wH sU sK sS lB uW uX
     go_wp2_with fail
     go_loopw [10, 42] (fun x i wq => ∃ (j : Nat) (y : Int), j <= r.steps.length /\ i = .int .i64 j /\ x = .int .i64 y /\ lo <= y /\ y <= 1000000 /\ Below w.1.size w wq /\ wq.1[wr.1.size]? = some (.cells #[.int .u8 r.cls, .slice sa r.steps.length sc, .int .i64 r.bar] 60 (0, 0))) (fun _ i _ => r.steps.length - (intOf i).toNat)
     case atStart => exact ⟨0, 1000000, ZE _, rfl, rfl, by omega, by omega, HB.out.alloc HB.out.size _, Z02 _ _⟩
     case round =>
      obtain ⟨j, y, hj, rfl, rfl, y0, y1, pF, h3⟩ := hrel
      have qL := Z0 pF
      have H3 := Z0 h3
      have lC := (Z5.1 h3).1
      by_cases rL : j < r.steps.length
      ·obtain ⟨gs, os, rfl, zI, zJ⟩ := uX.out (by omega)
       obtain ⟨cv, zK, pO⟩ := zJ j rL
       have f0 : wr.cell? ⟨gs, os + j * 2, none⟩ = some (.int .i64 r.steps[j].grams) := (pF.cell (p := ⟨gs, os + j * 2, none⟩) zI).trans (pO 0 _ rfl)
       have f1 : wr.cell? ⟨gs, os + j * 2 + 1, none⟩ = some cv := (pF.cell (p := ⟨gs, os + j * 2 + 1, none⟩) zI).trans (pO 1 _ rfl)
       have mA : gs < wr.1.size := by have := pF.size; omega
       have uY := sK.out _ (Z4 rL)
       have uO : Hid (∀ W, Below w.1.size w W -> Calls Tryz.prog 73 #[cv] W fun e w' => ∃ m, m ∈ r.steps[j].cents /\ e = .returned (.int .i64 m) /\ w' = W) := fun W hW => ZhS _ _ W (zK.below hW) (by omega) (by omega)
       have zL := Z0 (uW.out _ (Z4 rL))
       have zM := Z0 (sS.out _ (Z4 rL))
       obtain ⟨ax, cx, rfl, _⟩ := zK
       have d6 : decide ((j : Int) < (r.steps.length : Int)) = true := Kac (by omega)
       clear pO zJ uX sK uW sS pF h3 uY
       generalize r.steps[j] = st at f0 f1 uO zL zM
       go_wp2_with (go_at_call 73; refine (uO.out _ (qL.out.alloc qL.out.size _)).mono ?_; rintro e w5 ⟨m, hm, rfl, rfl⟩; have n1 := zL.out m hm; have n2 := zM.out m hm; have zN : Hid (lo <= min y m /\ min y m <= 1000000) := (⟨by omega, by omega⟩ : lo <= min y m /\ min y m <= 1000000); clear hm)
       go_roundw
       case rel => exact ⟨j + 1, min y m, by omega, by go_num, rfl, zN.out.1, zN.out.2, qL.out.alloc qL.out.size _, (ZB _ _ _ lC).trans H3.out⟩
       case measure => simp [intOf]; omega
      ·obtain rfl : j = r.steps.length := by omega
       have x2 := Kaa _ _ 2 _ _ _ h3
       have lD : IntKind.i64.wrap (y - r.bar) = y - r.bar := IntWalk.i64_in _ (by omega)
       have lE : IntKind.i64.wrap (y - r.bar - m) = y - r.bar - m := IntWalk.i64_in _ (by omega)
       have d7 : decide (y - r.bar - m < 0) = false := Kad (by omega)
       clear uX sK uW sS pF h3
       go_wp2_with fail
       go_roundw
       case rel => exact ⟨n + 1, by omega, by go_num, qL.out⟩
       case measure => simp [intOf]; omega
    ·obtain rfl : n = T.rates.length := by omega
     go_wp2_with fail
     go_ret
     exact ⟨rfl, HB.out⟩
theorem Zi5 {T : Tar} (uU : 1 <= T.rates.length /\ T.rates.length <= 20) {vr v : Value} (w : World) (h : RdRates w vr T.rates) (hv : ∃ a n c, v = .slice a n c) :
 Calls Tryz.prog 33 #[.agg #[vr, .slice none 0 0], v] w fun e w' => e = .returned (.bool false) /\ Below w.1.size w w' := by
 have qE := Z0 (fun W (hW : Below w.1.size w W) => ZdJ (z := 1) uU W (h.below hW))
 obtain ⟨a, ca, rfl, _⟩ := h
 obtain ⟨al, nl, cl, rfl⟩ := hv
 have tF := Z0 ((Z9 _ w).alloc (Z1 _) (.cells #[.slice a T.rates.length ca, .slice none 0 0] 29))
 go_enter Tryz.func33, Tryz.ntmps33
 go_wp2_with (go_at_call 72; refine (qE.out _ tF.out).mono ?_; rintro e w1 ⟨rfl, pA⟩; obtain ⟨k1, k2, k3⟩ := Z2O pA; clear pA)
 go_ret
 exact ⟨rfl, k3⟩
end
section
open Go.RowKit Go.Sort
theorem Zaq {z : Nat} {T : Tar} (hT : TarOk z T) (fr till : ByteArray) : 1 <= Z2X T.zones fr till /\ Z2X T.zones fr till <= z := by
 have key : ∀ k, k <= T.zones.length -> ((Z2F T.zones fr till k).zone = 0 \/ (1 <= (Z2F T.zones fr till k).zone /\ (Z2F T.zones fr till k).zone <= z)) /\ ((∃ j, j < k /\ ∃ h : j < T.zones.length, T.zones[j].fr.size = 0 /\ T.zones[j].till.size = 0) -> (Z2F T.zones fr till k).zone ≠ 0) := fun k => by
  induction k with
  | zero => exact fun _ => ⟨.inl rfl, fun ⟨j, hj, _⟩ => absurd hj (Ka2 _)⟩
  | succ k ih =>
   intro hk
   obtain ⟨i1, i2⟩ := ih (by omega)
   have qO := (hT.row _ (Z4 (show k < T.zones.length by omega))).2.2
   rw [Z6d _ _ _ _ (by omega)]
   have pE : Z1C fr till (Z2F T.zones fr till k) (T.zones[k]'(by omega)) = Z2F T.zones fr till k \/ Z1C fr till (Z2F T.zones fr till k) (T.zones[k]'(by omega)) = T.zones[k]'(by omega) := by
    unfold Z1C
    split
    ·split
     ·exact .inr rfl
     ·exact .inl rfl
    ·exact .inl rfl
   refine ⟨?_, fun ⟨j, hj, h, h1, h2⟩ => ?_⟩
   ·rcases pE with e | e
    ·rw [e]; exact i1
    ·rw [e]; exact .inr qO
   ·by_cases ej : j = k
    ·subst ej
     by_cases e0 : (Z2F T.zones fr till j).zone = 0
     ·rw [Z2p (Z9w h1 fr) (Z9w h2 till) (.inl e0)]
      omega
     ·rcases pE with e | e
      ·rw [e]; exact e0
      ·rw [e]; omega
    ·have := i2 ⟨j, by omega, h, h1, h2⟩
     rcases pE with e | e
     ·rw [e]; exact this
     ·rw [e]; omega
 obtain ⟨r, hr, h1, h2⟩ := hT.all
 obtain ⟨j, hj, rfl⟩ := List.getElem_of_mem hr
 obtain ⟨k1, k2⟩ := key T.zones.length (Z1 _)
 have := k2 ⟨j, hj, hj, h1, h2⟩
 unfold Z2X
 omega
def Z16 (T : Tar) (r : Rat) (m : Mai) (i : Nat) : Int × Int := let p := m.ps.getD i ⟨0, 0, ⟨#[]⟩, 0, false⟩; Z3U r (Z2X T.zones m.origin p.code) p.grams
theorem Z4E {m : Mai} (h : Z1r m = true) : (1 <= m.cls /\ 1 <= m.ctr /\ m.ctr <= 3) /\ Z0D m.origin = true /\ m.ps.length <= 2000 := by
 unfold Z1r at h
 simp only [ZF, Kab] at h
 exact ⟨h.1, h.2.1, h.2.2.1⟩
theorem Z4T {w w' : World} (h : w.grownBy w' none) : Below w.1.size w w' := ⟨h.os, h.tape, h.output, h.size, fun k hk => h.block k hk (by simp)⟩
theorem ZeR : (Tryz.prog.info? 3).map (fun i => (i.zero, i.size, i.bytes)) = some (some (.int .i64 0), 1, 8) := by kernel_rfl
theorem Zcr {z : Nat} {T : Tar} (hT : TarOk z T) {vr vz vp : Value} {m : Mai} (w : World) (h : RdTar w vr vz T) (pQ : RdPces w vp m.ps) (hm : Z1r m = true) (h8 : m.cls <= 255) (pJ : ∀ p ∈ m.ps, p.code.size <= maxLen) {q : Nat} (hq : q < T.rates.length) (qF : T.rates[q].cls = m.cls)
 (pK : ∀ i, i < m.ps.length -> (Z16 T T.rates[q] m i).2 = 0) :
 Calls Tryz.prog 35 #[.agg #[vr, vz], Z0N m vp] w fun e w' => ∃ g, e = .returned (.tuple #[.slice (some ⟨g, 0, none⟩) m.ps.length m.ps.length, .int .i64 0]) /\ Below w.1.size w w' /\ w.1.size <= g /\
  w'.ownsRow w.1.size 3 1 (.slice (some ⟨g, 0, none⟩) m.ps.length m.ps.length) m.ps.length ((List.range m.ps.length).map (fun i => Value.int .i64 (Z16 T T.rates[q] m i).1)) := by
 obtain ⟨i0, hi⟩ := info_parts ZeR
 have HI := Z0 hi
 clear hi
 obtain ⟨m1, m2, m3⟩ := Z4E hm
 have pZ : m.origin.size <= maxLen := by have := Z0i m2; unfold maxLen; omega
 have qE := Z0 (fun W (hW : Below w.1.size w W) => Z3C hT W (h.below hW))
 have pH := Z0 (fun W (hW : Below w.1.size w W) => Z1q m vp W (pQ.below hW) ⟨by omega, h8, by omega, by omega⟩ pZ (by omega) pJ)
 rw [hm] at pH
 have pU := Z0 (fun W (hW : Below w.1.size w W) => Z5f m.cls W (h.below hW) hT.rates.2 hq qF (fun i hi pB e => by have := Z7g hT.apart hi hq (e.trans qF.symm); omega))
 have tH : Hid (∀ W (c : ByteArray), Below w.1.size w W -> Calls Tryz.prog 76 #[vz, .string m.origin, .string c] W fun e w' => e = .returned (.int .i64 (Z2X T.zones m.origin c)) /\ Below W.1.size W w') := fun W c hW =>
  Z7G T.zones vz m.origin c W (h.z.below hW) hT.zones.2 (fun r hr => by
   obtain ⟨x1, x2, _⟩ := hT.row r hr
   constructor
   ·rcases x1 with x | x
    ·omega
    ·have := Z0i x; omega
   ·rcases x2 with x | x
    ·omega
    ·have := Z0i x; omega)
 have qT : Hid (∀ W (i : Nat) sv, Z2D W sv T.rates[q].steps -> i < m.ps.length -> Calls Tryz.prog 75 #[ZhF T.rates[q] sv, .int .i64 (Z2X T.zones m.origin (m.ps.getD i ⟨0, 0, ⟨#[]⟩, 0, false⟩).code), .int .i64 (m.ps.getD i ⟨0, 0, ⟨#[]⟩, 0, false⟩).grams] W fun e w' => e = .returned (.tuple #[.int .i64 (Z16 T T.rates[q] m i).1, .int .i64 0]) /\ Below W.1.size W w') := fun W i sv hs hi => by
  have := Z9u (hT.rate _ (Z4 hq)).2.2 sv (Z2X T.zones m.origin (m.ps.getD i ⟨0, 0, ⟨#[]⟩, 0, false⟩).code) (m.ps.getD i ⟨0, 0, ⟨#[]⟩, 0, false⟩).grams W hs (Zaq hT _ _) hT.zn.2
  have e := pK i hi
  unfold Z16 at e ⊢
  rw [e] at this
  exact this
 obtain ⟨a, ca, rfl, _⟩ := h.r
 obtain ⟨az, cz, rfl, _⟩ := h.z
 obtain ⟨ap, cp, rfl, rM⟩ := pQ
 have rA := Z0 rM
 generalize T.rates[q] = r at pU qT ⊢
 clear rM h hT hm qF pK pJ m2 pZ hq
 obtain ⟨t1, t2, t3, t4⟩ := Z19 (w := w) (A := .cells #[.slice a T.rates.length ca, .slice az T.zones.length cz] 29) (B := .cells #[.int .u8 m.cls, .int .u8 m.ctr, .string m.origin, .slice ap m.ps.length cp] 34) rfl
 have pP := Z0 t4
 clear t1 t2 t3 t4
 unfold Z0N at pH ⊢
 unfold ZhF at pU qT
 go_enter Tryz.func35, Tryz.ntmps35
 go_wp2_with (first
  | (go_at_call 34; refine (pH.out _ k4).mono ?_; rintro e w2 ⟨rfl, pC⟩; have j1 := (pC.block _ (by omega)).trans k1; have j2 := (pC.block _ (by omega)).trans k2; have j4 := Z01 k4 k4.size pC; have j3 := Kaw k3 pC.size; clear pC k1 k2 k3 k4; have x10 := Kaa _ _ 0 _ _ _ j1; have x11 := Kaa _ _ 1 _ _ _ j1; have x20 := Kaa _ _ 0 _ _ _ j2)
  | (go_at_call 72; refine (qE.out _ pP.out).mono ?_; rintro e w1 ⟨rfl, pA⟩; obtain ⟨k1, k2, k3, k4⟩ := Z1T pA; clear pA; have x20 := Kaa _ _ 0 _ _ _ k2; have x21 := Kaa _ _ 1 _ _ _ k2; have x22 := Kaa _ _ 2 _ _ _ k2; have x23 := Kaa _ _ 3 _ _ _ k2)
  | (go_at_call 36; refine (pU.out _ j4).mono ?_; rintro e w3 ⟨sv, rfl, pF, hsv⟩; obtain ⟨sva, svc, rfl, _⟩ := id hsv; have i1 := (pF.block _ (by omega)).trans j1; have i2 := (pF.block _ (by omega)).trans j2; have i4 := Z01 j4 j4.size pF; have i3 := Kaw j3 pF.size; clear pF j1 j2 j3 j4 x20 x21 x22 x23 x10 x11; have z0 := Kaa _ _ 3 _ _ _ i2; have rS : w.1.size + 1 < w3.1.size := by omega)
  | (at_make; refine wpList_make_own _ rfl _ _ 35 rfl w.1.size 3 i0 (.int .i64 0) 1 Tryz.underlying35 HI.out.1 HI.out.2.1 HI.out.2.2.1 _ _ _ m.ps.length rfl (by first | rfl | simp) rfl (by rw [HI.out.2.2.2]; omega) (by unfold maxLen; omega) (by have := i4.size; simp; omega) ?_; intro w4 sL qW; rw [Z6] at sL; obtain ⟨l1, l2, l3⟩ := Z2O (Z4T qW); have n1 := (l3.block _ (by omega)).trans i1; have n2 := (l3.block _ (by omega)).trans i2; have n4 := Z01 i4 i4.size l3; have z4 := Kaa _ _ 3 _ _ _ n2; clear qW))
 have zO := Z0 l1
 have zP := Z0 l3
 have zQ := Z0 n1
 have zR := Z0 n2
 have qM := Z0 n4
 have tI := Z0 sL
 have qX := Z0 hsv
 have lF := Z0 i3
 have rU := Z0 i4
 clear l1 l2 l3 n1 n2 n4 z4 sL hsv i1 i2 i3 i4 z0 rS qE pH pU pP
 go_loopw [8, 37] (fun x i wr => ∃ k : Nat, k <= m.ps.length /\ i = .int .i64 k /\ x = .slice (some ⟨w3.1.size + 1, 0, none⟩) k m.ps.length /\ Below w.1.size w wr /\ Below w3.1.size w3 wr /\ wr.1[w.1.size]? = some (.cells #[.slice a T.rates.length ca, .slice az T.zones.length cz] 29 (0, 0)) /\ wr.1[w.1.size + 1]? = some (.cells #[.int .u8 m.cls, .int .u8 m.ctr, .string m.origin, .slice ap m.ps.length cp] 34 (0, 0)) /\
  wr.1[w3.1.size]? = some (.cells #[.int .u8 r.cls, .slice sva r.steps.length svc, .int .i64 r.bar] 60 (0, 0)) /\ wr.ownsRow w.1.size 3 1 (.slice (some ⟨w3.1.size + 1, 0, none⟩) k m.ps.length) k ((List.range k).map (fun i => Value.int .i64 (Z16 T r m i).1))) (fun _ i _ => m.ps.length - (intOf i).toNat)
 case atStart => exact ⟨0, ZE _, rfl, rfl, qM.out, zP.out, zQ.out, zR.out, zO.out, tI.out⟩
 case round =>
  clear zO zP zQ zR qM tI
  obtain ⟨k, hk, rfl, rfl, hB, qH, rC, wI, rN, hO⟩ := hrel
  have HB := Z0 hB
  have qL := Z0 qH
  have uZ := Z0 rC
  have zS := Z0 wI
  have tJ := Z0 rN
  have HO := Z0 hO
  by_cases pB : k < m.ps.length
  ·obtain ⟨g, off, rfl, hg, pE⟩ := rA.out (by omega)
   obtain ⟨p0, p1, p2, p3, p4⟩ := (pE k pB).below hB hg
   have pG : g < wr.1.size := by have := hB.size; omega
   have d4 : decide ((k : Int) < (m.ps.length : Int)) = true := Kac (by omega)
   have tK : m.ps.getD k ⟨0, 0, ⟨#[]⟩, 0, false⟩ = m.ps[k] := by rw [Z2, Z3 pB]; rfl
   have tL : Hid (∀ W, Below wr.1.size wr W -> Calls Tryz.prog 75 #[.agg #[.int .u8 r.cls, .slice sva r.steps.length svc, .int .i64 r.bar], .int .i64 (Z2X T.zones m.origin m.ps[k].code), .int .i64 m.ps[k].grams] W fun e w' => e = .returned (.tuple #[.int .i64 (Z16 T r m k).1, .int .i64 0]) /\ Below W.1.size W w') := fun W hW => by
    have := qT.out W k _ (qX.out.below (Z01 qL.out qL.out.size hW)) pB
    rw [tK] at this
    exact this
   have vA : Hid (∀ W, Below wr.1.size wr W -> Calls Tryz.prog 76 #[.slice az T.zones.length cz, .string m.origin, .string m.ps[k].code] W fun e w' => e = .returned (.int .i64 (Z2X T.zones m.origin m.ps[k].code)) /\ Below W.1.size W w') := fun W hW => tH.out W _ (Z01 HB.out HB.out.size hW)
   have vB := (Z5.1 rN).1
   have wJ := (Z5.1 wI).1
   have wK := (Z5.1 rC).1
   clear pE rA qT tH qX hB qH rC wI rN hO tK
   generalize m.ps[k] = p at p0 p1 p2 p3 p4 tL vA
   generalize Z2X T.zones m.origin p.code = zz at tL vA
   generalize zT : (Z16 T r m k).1 = pr at tL
   have lG := Z0 zT
   clear zT
   obtain ⟨Wp, rB⟩ : ∃ Wp, Wp = wr.alloc (.cells #[.int .i64 p.id, .int .i64 p.point, .string p.code, .int .i64 p.grams, .bool p.barred] 65) := ⟨_, rfl⟩
   have pR : Below wr.1.size wr Wp := by rw [rB]; exact (Z9 _ _).alloc (Z1 _) _
   have rZ : Wp.1[wr.1.size]? = some (.cells #[.int .i64 p.id, .int .i64 p.point, .string p.code, .int .i64 p.grams, .bool p.barred] 65 (0, 0)) := by rw [rB]; exact Z02 _ _
   have b1 := (pR.block _ wK).trans uZ.out
   have b2 := (pR.block _ wJ).trans zS.out
   have b3 := (pR.block _ vB).trans tJ.out
   have s0 := Z0M (Kaa _ _ 0 _ _ _ b3)
   have s1 := Z0M (Kaa _ _ 1 _ _ _ b3)
   have s2 := Z0M (Kaa _ _ 2 _ _ _ b3)
   have s3 := Z0M (Kaa _ _ 1 _ _ _ b1)
   have s4 := Z0M (Kaa _ _ 2 _ _ _ b2)
   have s5 := Z0M (Kaa _ _ 2 _ _ _ rZ)
   have s6 := Z0M (Kaa _ _ 3 _ _ _ rZ)
   have sM : Hid (∀ W, Below Wp.1.size Wp W -> Calls Tryz.prog 76 #[.slice az T.zones.length cz, .string m.origin, .string p.code] W fun e w' => e = .returned (.int .i64 zz) /\ Below W.1.size W w') := fun W hW => vA.out W (Z01 pR pR.size hW)
   have pT : Hid (∀ W, Below Wp.1.size Wp W -> Calls Tryz.prog 75 #[.agg #[.int .u8 r.cls, .slice sva r.steps.length svc, .int .i64 r.bar], .int .i64 zz, .int .i64 p.grams] W fun e w' => e = .returned (.tuple #[.int .i64 pr, .int .i64 0]) /\ Below W.1.size W w') := fun W hW => tL.out W (Z01 pR pR.size hW)
   have sA := Z0 pR
   clear pR rZ b1 b2 b3 vA tL
   go_wp2_with fail
   rw [<- rB]
   clear rB
   refine wp_region_quiet_below (by kernel_rfl) (by kernel_rfl) ?_
   repeat (go_big_quiet_step ((first | (with_reducible exact Z3E sM.out _) | (with_reducible exact Z3E pT.out _))))
   refine wpQuiet_nil ?_
   intro _ hw'
   obtain ⟨pp, hw''⟩ := hw'
   subst hw''
   have pS : Below wr.1.size wr (grow (redrawn Wp pp.d) pp.os) := Z01 sA.out sA.out.size (Zag Wp pp)
   generalize grow (redrawn Wp pp.d) pp.os = Wq at pS ⊢
   have lH := HO.out.kept (Z0a pS) (Kbm _)
   have wL := Z0 pS
   have lI := pS.size
   have mB := HB.out.size
   clear pS s0 s1 s2 s3 s4 s5 s6 sM pT sA
   go_wp2_with (at_builtin; refine wpList_append_fits _ rfl _ _ 35 rfl w.1.size 3 i0 1 Tryz.underlying35 HI.out.1 HI.out.2.2.1 (w3.1.size + 1) k m.ps.length _ rfl (lH.alloc _) ⟨Wq.1.size, 0, none⟩ 1 1 [.int .i64 pr] rfl rfl (cell_one_new _ _ _) (by simp [Value.oneCell']) (by omega) ?_; intro w6 lJ wM)
   have wN : Below wr.1.size wr (Wq.alloc (.cells #[.int .i64 pr] 3)) := wL.out.alloc lI _
   have sY : w3.1.size + 1 < wr.1.size := (HO.out.lt _ rfl).2
   have lK := rU.out.size
   have wO : ∀ b, b < w3.1.size + 1 -> w6.1[b]? = wr.1[b]? := fun b hb => (wM.block b (by simp; omega) (by intro e; have := Kav e; omega)).trans (wN.block b (by omega))
   go_roundw
   case rel =>
    refine ⟨k + 1, by omega, by go_num, rfl, (Z01 HB.out HB.out.size wN).grown wM (by simp; omega) (fun r e => by rw [<- Kav e]; omega), (Z01 qL.out qL.out.size wN).grown wM (by simp; have := qL.out.size; omega) (fun r e => by rw [<- Kav e]; omega), (wO _ (by omega)).trans uZ.out, (wO _ (by have := lF.out; omega)).trans zS.out, (wO _ (by omega)).trans tJ.out, ?_⟩
    rw [Kaq, ZD, List.map_singleton, lG.out]
    exact lJ
   case measure => simp [intOf]; omega
  ·obtain rfl : k = m.ps.length := by omega
   go_wp2_with fail
   go_ret2
   exact ⟨_, rfl, HB.out, by have := rU.out.size; omega, HO.out⟩
theorem Zdv {z : Nat} {T : Tar} (hT : TarOk z T) {vr vz vp : Value} {m : Mai} (w : World) (h : RdTar w vr vz T) (pQ : RdPces w vp m.ps) (hm : Z1r m = true) (h8 : m.cls <= 255) (pJ : ∀ p ∈ m.ps, p.code.size <= maxLen) (tE : ∀ r ∈ T.rates, r.cls ≠ m.cls) :
 Calls Tryz.prog 35 #[.agg #[vr, vz], Z0N m vp] w fun e w' => e = .returned (.tuple #[.slice none 0 0, .int .i64 6]) /\ Below w.1.size w w' := by
 obtain ⟨m1, m2, m3⟩ := Z4E hm
 have pZ : m.origin.size <= maxLen := by have := Z0i m2; unfold maxLen; omega
 have qE := Z0 (fun W (hW : Below w.1.size w W) => Z3C hT W (h.below hW))
 have pH := Z0 (fun W (hW : Below w.1.size w W) => Z1q m vp W (pQ.below hW) ⟨by omega, h8, by omega, by omega⟩ pZ (by omega) pJ)
 rw [hm] at pH
 have pU := Z0 (fun W (hW : Below w.1.size w W) => Zed m.cls W (h.below hW) hT.rates.2 tE)
 obtain ⟨a, ca, rfl, _⟩ := h.r
 obtain ⟨az, cz, rfl, _⟩ := h.z
 obtain ⟨ap, cp, rfl, _⟩ := pQ
 clear h hT hm pJ m2 pZ tE
 obtain ⟨t1, t2, t3, t4⟩ := Z19 (w := w) (A := .cells #[.slice a T.rates.length ca, .slice az T.zones.length cz] 29) (B := .cells #[.int .u8 m.cls, .int .u8 m.ctr, .string m.origin, .slice ap m.ps.length cp] 34) rfl
 have pP := Z0 t4
 clear t1 t2 t3 t4
 unfold Z0N at pH ⊢
 go_enter Tryz.func35, Tryz.ntmps35
 go_wp2_with (first
  | (go_at_call 34; refine (pH.out _ k4).mono ?_; rintro e w2 ⟨rfl, pC⟩; have j1 := (pC.block _ (by omega)).trans k1; have j2 := (pC.block _ (by omega)).trans k2; have j4 := Z01 k4 k4.size pC; have j3 := Kaw k3 pC.size; clear pC k1 k2 k3 k4; have x10 := Kaa _ _ 0 _ _ _ j1; have x11 := Kaa _ _ 1 _ _ _ j1; have x20 := Kaa _ _ 0 _ _ _ j2)
  | (go_at_call 72; refine (qE.out _ pP.out).mono ?_; rintro e w1 ⟨rfl, pA⟩; obtain ⟨k1, k2, k3, k4⟩ := Z1T pA; clear pA; have x20 := Kaa _ _ 0 _ _ _ k2; have x21 := Kaa _ _ 1 _ _ _ k2; have x22 := Kaa _ _ 2 _ _ _ k2; have x23 := Kaa _ _ 3 _ _ _ k2)
  | (go_at_call 36; refine (pU.out _ j4).mono ?_; rintro e w3 ⟨rfl, pF⟩; have i4 := Z01 j4 j4.size pF; clear pF))
 go_ret2
 exact ⟨rfl, i4.alloc i4.size _⟩
theorem Zdw {z : Nat} {T : Tar} (hT : TarOk z T) {vr vz vp : Value} {m : Mai} (w : World) (h : RdTar w vr vz T) (pQ : RdPces w vp m.ps) (hm : Z1r m = true) (h8 : m.cls <= 255) (pJ : ∀ p ∈ m.ps, p.code.size <= maxLen) {q : Nat} (hq : q < T.rates.length) (qF : T.rates[q].cls = m.cls)
 (h0 : 0 < m.ps.length) (tM : (Z16 T T.rates[q] m 0) = (0, 3)) :
 Calls Tryz.prog 35 #[.agg #[vr, vz], Z0N m vp] w fun e w' => e = .returned (.tuple #[.slice none 0 0, .int .i64 3]) /\ Below w.1.size w w' := by
 obtain ⟨i0, hi⟩ := info_parts ZeR
 have HI := Z0 hi
 clear hi
 obtain ⟨m1, m2, m3⟩ := Z4E hm
 have pZ : m.origin.size <= maxLen := by have := Z0i m2; unfold maxLen; omega
 have qE := Z0 (fun W (hW : Below w.1.size w W) => Z3C hT W (h.below hW))
 have pH := Z0 (fun W (hW : Below w.1.size w W) => Z1q m vp W (pQ.below hW) ⟨by omega, h8, by omega, by omega⟩ pZ (by omega) pJ)
 rw [hm] at pH
 have pU := Z0 (fun W (hW : Below w.1.size w W) => Z5f m.cls W (h.below hW) hT.rates.2 hq qF (fun i hi pB e => by have := Z7g hT.apart hi hq (e.trans qF.symm); omega))
 have tH : Hid (∀ W (c : ByteArray), Below w.1.size w W -> Calls Tryz.prog 76 #[vz, .string m.origin, .string c] W fun e w' => e = .returned (.int .i64 (Z2X T.zones m.origin c)) /\ Below W.1.size W w') := fun W c hW =>
  Z7G T.zones vz m.origin c W (h.z.below hW) hT.zones.2 (fun r hr => by
   obtain ⟨x1, x2, _⟩ := hT.row r hr
   constructor
   ·rcases x1 with x | x
    ·omega
    ·have := Z0i x; omega
   ·rcases x2 with x | x
    ·omega
    ·have := Z0i x; omega)
 have qT : Hid (∀ W sv, Z2D W sv T.rates[q].steps -> Calls Tryz.prog 75 #[ZhF T.rates[q] sv, .int .i64 (Z2X T.zones m.origin (m.ps[0]'h0).code), .int .i64 (m.ps[0]'h0).grams] W fun e w' => e = .returned (.tuple #[.int .i64 0, .int .i64 3]) /\ Below W.1.size W w') := fun W sv hs => by
  have := Z9u (hT.rate _ (Z4 hq)).2.2 sv (Z2X T.zones m.origin (m.ps[0]'h0).code) (m.ps[0]'h0).grams W hs (Zaq hT _ _) hT.zn.2
  have e : Z3U T.rates[q] (Z2X T.zones m.origin (m.ps[0]'h0).code) (m.ps[0]'h0).grams = (0, 3) := by
   have e2 : m.ps.getD 0 ⟨0, 0, ⟨#[]⟩, 0, false⟩ = m.ps[0]'h0 := by rw [Z2, Z3 h0]; rfl
   unfold Z16 at tM
   rw [e2] at tM
   exact tM
  rw [e] at this
  exact this
 obtain ⟨a, ca, rfl, _⟩ := h.r
 obtain ⟨az, cz, rfl, _⟩ := h.z
 obtain ⟨ap, cp, rfl, rM⟩ := pQ
 obtain ⟨g, off, rfl, hg, pE⟩ := rM h0
 have wP := pE 0 h0
 rw [Kc1, Kdc] at wP
 have rA := Z0 wP
 generalize T.rates[q] = r at pU qT tM
 generalize m.ps[0]'h0 = p at qT rA
 clear rM h hT hm qF pJ m2 pZ hq pE wP tM
 obtain ⟨t1, t2, t3, t4⟩ := Z19 (w := w) (A := .cells #[.slice a T.rates.length ca, .slice az T.zones.length cz] 29) (B := .cells #[.int .u8 m.cls, .int .u8 m.ctr, .string m.origin, .slice (some ⟨g, off, none⟩) m.ps.length cp] 34) rfl
 have pP := Z0 t4
 clear t1 t2 t3 t4
 unfold Z0N at pH ⊢
 unfold ZhF at pU qT
 go_enter Tryz.func35, Tryz.ntmps35
 go_wp2_with (first
  | (go_at_call 34; refine (pH.out _ k4).mono ?_; rintro e w2 ⟨rfl, pC⟩; have j1 := (pC.block _ (by omega)).trans k1; have j2 := (pC.block _ (by omega)).trans k2; have j4 := Z01 k4 k4.size pC; have j3 := Kaw k3 pC.size; clear pC k1 k2 k3 k4; have x10 := Kaa _ _ 0 _ _ _ j1; have x11 := Kaa _ _ 1 _ _ _ j1; have x20 := Kaa _ _ 0 _ _ _ j2)
  | (go_at_call 72; refine (qE.out _ pP.out).mono ?_; rintro e w1 ⟨rfl, pA⟩; obtain ⟨k1, k2, k3, k4⟩ := Z1T pA; clear pA; have x20 := Kaa _ _ 0 _ _ _ k2; have x21 := Kaa _ _ 1 _ _ _ k2; have x22 := Kaa _ _ 2 _ _ _ k2; have x23 := Kaa _ _ 3 _ _ _ k2)
  | (go_at_call 36; refine (pU.out _ j4).mono ?_; rintro e w3 ⟨sv, rfl, pF, hsv⟩; obtain ⟨sva, svc, rfl, _⟩ := id hsv; have i1 := (pF.block _ (by omega)).trans j1; have i2 := (pF.block _ (by omega)).trans j2; have i4 := Z01 j4 j4.size pF; have i3 := Kaw j3 pF.size; clear pF j1 j2 j3 j4 x20 x21 x22 x23 x10 x11; have z0 := Kaa _ _ 3 _ _ _ i2; have rS : w.1.size + 1 < w3.1.size := by omega)
  | (at_make; refine wpList_make_own _ rfl _ _ 35 rfl w.1.size 3 i0 (.int .i64 0) 1 Tryz.underlying35 HI.out.1 HI.out.2.1 HI.out.2.2.1 _ _ _ m.ps.length rfl (by first | rfl | simp) rfl (by rw [HI.out.2.2.2]; omega) (by unfold maxLen; omega) (by have := i4.size; simp; omega) ?_; intro w4 sL qW; rw [Z6] at sL; obtain ⟨l1, l2, l3⟩ := Z2O (Z4T qW); have n1 := (l3.block _ (by omega)).trans i1; have n2 := (l3.block _ (by omega)).trans i2; have n4 := Z01 i4 i4.size l3; have z4 := Kaa _ _ 3 _ _ _ n2; clear qW))
 obtain ⟨p0, p1, p2, p3, p4⟩ := rA.out.below n4 hg
 have pG : g < w4.1.size := by have := n4.size; omega
 have d4 : decide ((0 : Int) < (m.ps.length : Int)) = true := Kac (by omega)
 have d5 : decide ((0 : Int) < m.ps.length) = true := d4
 have qX := Z0 (hsv.below l3)
 have qM := Z0 n4
 obtain ⟨Wp, rB⟩ : ∃ Wp, Wp = w4.alloc (.cells #[.int .i64 p.id, .int .i64 p.point, .string p.code, .int .i64 p.grams, .bool p.barred] 65) := ⟨_, rfl⟩
 have pR : Below w4.1.size w4 Wp := by rw [rB]; exact (Z9 _ _).alloc (Z1 _) _
 have rZ : Wp.1[w4.1.size]? = some (.cells #[.int .i64 p.id, .int .i64 p.point, .string p.code, .int .i64 p.grams, .bool p.barred] 65 (0, 0)) := by rw [rB]; exact Z02 _ _
 have b1 := (pR.block _ (by have := l3.size; omega)).trans n1
 have b2 := (pR.block _ (by have := l3.size; omega)).trans n2
 have b3 := (pR.block _ (by omega)).trans l1
 have s0 := Z0M (Kaa _ _ 0 _ _ _ b3)
 have s1 := Z0M (Kaa _ _ 1 _ _ _ b3)
 have s2 := Z0M (Kaa _ _ 2 _ _ _ b3)
 have s3 := Z0M (Kaa _ _ 1 _ _ _ b1)
 have s4 := Z0M (Kaa _ _ 2 _ _ _ b2)
 have s5 := Z0M (Kaa _ _ 2 _ _ _ rZ)
 have s6 := Z0M (Kaa _ _ 3 _ _ _ rZ)
 have sM : Hid (∀ W, Below Wp.1.size Wp W -> Calls Tryz.prog 76 #[.slice az T.zones.length cz, .string m.origin, .string p.code] W fun e w' => e = .returned (.int .i64 (Z2X T.zones m.origin p.code)) /\ Below W.1.size W w') := fun W hW => tH.out W _ (Z01 qM.out qM.out.size (Z01 pR pR.size hW))
 have pT : Hid (∀ W, Below Wp.1.size Wp W -> Calls Tryz.prog 75 #[.agg #[.int .u8 r.cls, .slice sva r.steps.length svc, .int .i64 r.bar], .int .i64 (Z2X T.zones m.origin p.code), .int .i64 p.grams] W fun e w' => e = .returned (.tuple #[.int .i64 0, .int .i64 3]) /\ Below W.1.size W w') := fun W hW => qT.out W _ (qX.out.below (Z01 pR pR.size hW))
 have sA := Z0 pR
 generalize Z2X T.zones m.origin p.code = zz at sM pT
 have lL := Z0 rB
 clear pR rZ b1 b2 b3 qT tH qX rA sL hsv l1 l2 l3 n1 n2 n4 i1 i2 i3 i4 z0 z4 rS qE pH pU pP HI rB
 go_loopw [8, 37] (fun x i wr => i = .int .i64 0 /\ x = .slice (some ⟨w3.1.size + 1, 0, none⟩) 0 m.ps.length /\ Hid (wr = w4)) (fun _ i _ => m.ps.length - (intOf i).toNat)
 case atStart => exact ⟨rfl, rfl, rfl⟩
 case round =>
  obtain ⟨rfl, rfl, HW⟩ := hrel
  have lM := HW.out
  subst lM
  go_wp2_with fail
  rw [<- lL.out]
  refine wp_region_quiet_below (by kernel_rfl) (by kernel_rfl) ?_
  repeat (go_big_quiet_step ((first | (with_reducible exact Z3E sM.out _) | (with_reducible exact Z3E pT.out _))))
  refine wpQuiet_nil ?_
  intro _ hw'
  obtain ⟨pp, hw''⟩ := hw'
  subst hw''
  have pS := Z01 sA.out sA.out.size (Zag Wp pp)
  generalize grow (redrawn Wp pp.d) pp.os = Wq at pS ⊢
  have wL := Z0 (Z01 qM.out qM.out.size pS)
  clear pS s0 s1 s2 s3 s4 s5 s6 sM pT sA
  go_wp2_with fail
  go_ret2
  exact ⟨rfl, wL.out⟩
theorem Zge {z : Nat} {r : Rat} (hr : RatOk z r) {zz g : Int} (hz : 1 <= zz /\ zz <= z) (h : (Z3U r zz g).2 = 0) : ∃ s ∈ r.steps, (Z3U r zz g).1 ∈ s.cents := by
 unfold Z3U at h ⊢
 split at h
 ·cases h
 ·rename_i hs
  rw [if_neg hs]
  rcases Z9W (fun s : Stp => decide (g <= s.grams)) r.steps with ⟨h1, _⟩ | ⟨q, hq, h1, _⟩
  ·exact absurd h1 (fun e => hs (by unfold stepOf; omega))
  ·have pE : stepOf r.steps g = q := h1
   rw [pE, Kar, Z2, Z3 hq]
   refine ⟨r.steps[q], Z4 hq, ?_⟩
   show Zaf r.steps[q] zz ∈ r.steps[q].cents
   have hl := (hr.cents _ (Z4 hq)).1
   unfold Zaf
   rw [Z2, Z3 (by omega)]
   exact Z4 _
def Zbr (ls : List Lev) (n : Int) : Int := (ls.getD n.toNat ⟨⟨#[]⟩, 0, [], 0, 0⟩).cents
def Zbu (m : Mai) (i : Nat) : Bool := (m.ps.getD i ⟨0, 0, ⟨#[]⟩, 0, false⟩).barred
def Z7v (T : Tar) (r : Rat) (ls : List Lev) (m : Mai) (zs : List Int) (i : Nat) : Int := (Z16 T r m i).1 - (if Zbu m i then r.bar else 0) - Zbr ls (zs.getD i (-1))
theorem Z6v {F : Nat -> Value} {n k : Nat} (u : Value) (hk : k < n) : ((List.range n).map F).set k u = (List.range n).map (fun i => if i = k then u else F i) := by
 refine Kcf (by simp) (fun q h1 h2 => ?_)
 rw [List.getElem_set]
 simp only [Kba, Kbv]
 by_cases e : k = q
 ·rw [if_pos e, if_pos e.symm]
 ·rw [if_neg e, if_neg (fun e' => e e'.symm)]
theorem Z5Y {F : Nat -> Value} {n k : Nat} (hk : k < n) : ((List.range n).map F)[k]? = some (F k) := by
 rw [Kal, Kb2 hk]; rfl
theorem ZcU {z : Nat} {T : Tar} (hT : TarOk z T) {lo hb hc : Int} {ls : List Lev} (hF : FitT lo hb hc T ls) {vr vz vp vl vn : Value} {m : Mai} {zs : List Int} (w : World) (h : RdTar w vr vz T) (hr : RdLevs w vl ls) (hf : ∀ l ∈ ls, Z0x l) (qK : Z0j ls = true)
 (pQ : RdPces w vp m.ps) (hm : Z1r m = true) (h8 : m.cls <= 255) (pJ : ∀ p ∈ m.ps, p.code.size <= maxLen) (hn : RdInts w vn zs) (qZ : zs.length = m.ps.length) (sN : ∀ x ∈ zs, 0 <= x /\ x < (ls.length : Int)) {q : Nat} (hq : q < T.rates.length) (qF : T.rates[q].cls = m.cls)
 (pK : ∀ i, i < m.ps.length -> (Z16 T T.rates[q] m i).2 = 0) :
 Calls Tryz.prog 13 #[.agg #[vr, vz], vl, Z0N m vp, vn] w fun e w' => ∃ g, e = .returned (.tuple #[.slice (some ⟨g, 0, none⟩) m.ps.length m.ps.length, .int .i64 0]) /\ Below w.1.size w w' /\ w.1.size <= g /\
  w'.ownsRow w.1.size 3 1 (.slice (some ⟨g, 0, none⟩) m.ps.length m.ps.length) m.ps.length ((List.range m.ps.length).map (fun i => Value.int .i64 (Z7v T T.rates[q] ls m zs i))) := by
 obtain ⟨m1, m2, m3⟩ := Z4E hm
 have tA := Z0y qK
 have pZ : m.origin.size <= maxLen := by have := Z0i m2; unfold maxLen; omega
 have qC := Z0 (fun W (hW : Below w.1.size w W) => Zci hT hF W (h.below hW) (hr.below hW) hf qK)
 have pH := Z0 (fun W (hW : Below w.1.size w W) => Z1q m vp W (pQ.below hW) ⟨by omega, h8, by omega, by omega⟩ pZ (by omega) pJ)
 have zU := Z0 (fun W (hW : Below w.1.size w W) => Zcr hT W (h.below hW) (pQ.below hW) hm h8 pJ hq qF pK)
 rw [hm] at pH
 have pU := Z0 (fun W (hW : Below w.1.size w W) => Z5f m.cls W (h.below hW) hT.rates.2 hq qF (fun i hi pB e => by have := Z7g hT.apart hi hq (e.trans qF.symm); omega))
 have wH := (hT.rate _ (Z4 hq)).2.2.bar
 have zV : Hid (∀ i, i < m.ps.length -> 0 <= (Z16 T T.rates[q] m i).1 /\ (Z16 T T.rates[q] m i).1 <= 1000000) := fun i hi => by
  obtain ⟨s, hs, rP⟩ := Zge (hT.rate _ (Z4 hq)).2.2 (Zaq hT _ _) (pK i hi)
  exact ((hT.rate _ (Z4 hq)).2.2.cents s hs).2 _ rP
 obtain ⟨lo0, lo1, zB, kZ⟩ := hF.num
 have sI := Z0 hF.lev
 have rP : hc <= 1000000 := by
  have := hF.bar _ (Z4 hq)
  omega
 obtain ⟨a, ca, rfl, _⟩ := h.r
 obtain ⟨az, cz, rfl, _⟩ := h.z
 obtain ⟨ap, cp, rfl, rM⟩ := pQ
 obtain ⟨al, cl, rfl, rJ⟩ := hr
 obtain ⟨an, cn, rfl, tN⟩ := hn
 have rA := Z0 rM
 have sJ := Z0 rJ
 have tO := Z0 tN
 have vC := Z0 sN
 have zW := Z0 sN
 have sK := Z0 qZ
 obtain ⟨R, hR⟩ : ∃ R : Nat -> Int, R = Z7v T T.rates[q] ls m zs := ⟨_, rfl⟩
 obtain ⟨Bs, rO⟩ : ∃ Bs : Nat -> Int, Bs = fun i => (Z16 T T.rates[q] m i).1 := ⟨_, rfl⟩
 have wQ : Hid (∀ i, R i = Bs i - (if Zbu m i then T.rates[q].bar else 0) - Zbr ls (zs.getD i (-1))) := fun i => by rw [hR, rO]; rfl
 have zX : Hid (∀ i, i < m.ps.length -> 0 <= Bs i /\ Bs i <= 1000000) := fun i hi => by rw [rO]; exact zV.out i hi
 have sO : Hid (∀ W, Below w.1.size w W -> Calls Tryz.prog 35 #[.agg #[.slice a T.rates.length ca, .slice az T.zones.length cz], Z0N m (.slice ap m.ps.length cp)] W fun e w' => ∃ g, e = .returned (.tuple #[.slice (some ⟨g, 0, none⟩) m.ps.length m.ps.length, .int .i64 0]) /\ Below W.1.size W w' /\ W.1.size <= g /\
  w'.ownsRow W.1.size 3 1 (.slice (some ⟨g, 0, none⟩) m.ps.length m.ps.length) m.ps.length ((List.range m.ps.length).map (fun i => Value.int .i64 (Bs i)))) := fun W hW => by rw [rO]; exact zU.out W hW
 have zY : (fun i => Value.int .i64 (Z7v T T.rates[q] ls m zs i)) = fun i => Value.int .i64 (R i) := by rw [hR]
 rw [zY]
 clear zY hR rO zU zV
 generalize T.rates[q] = r at pU wH wQ
 clear rM rJ tN sN h hT hm qF pK pJ m2 pZ hq hF hf qK
 have wR : ((zs.length : Int) != (m.ps.length : Int)) = false := by rw [qZ]; simp
 have lN : zs.length <= 2000 := by omega
 clear qZ
 obtain ⟨t1, t2, t3, t4⟩ := Z19 (w := w) (A := .cells #[.slice a T.rates.length ca, .slice az T.zones.length cz] 29) (B := .cells #[.int .u8 m.cls, .int .u8 m.ctr, .string m.origin, .slice ap m.ps.length cp] 34) rfl
 have pP := Z0 t4
 clear t1 t2 t3 t4
 unfold Z0N at pH sO ⊢
 unfold ZhF at pU
 go_enter Tryz.func13, Tryz.ntmps13
 go_wp2_with (first
  | (go_at_call 34; refine (pH.out _ k4).mono ?_; rintro e w2 ⟨rfl, pC⟩; have j1 := (pC.block _ (by omega)).trans k1; have j2 := (pC.block _ (by omega)).trans k2; have j4 := Z01 k4 k4.size pC; have j3 := Kaw k3 pC.size; clear pC k1 k2 k3 k4 x20 x21 x22; have x23 := Kaa _ _ 3 _ _ _ j2)
  | (go_at_call 33; refine (qC.out _ pP.out).mono ?_; rintro e w1 ⟨rfl, pA⟩; obtain ⟨k1, k2, k3, k4⟩ := Z1T pA; clear pA; have x20 := Kaa _ _ 0 _ _ _ k2; have x21 := Kaa _ _ 1 _ _ _ k2; have x22 := Kaa _ _ 2 _ _ _ k2; have x23 := Kaa _ _ 3 _ _ _ k2))
 have qS := Z0 j1
 have qA := Z0 j2
 have rK := Z0 j3
 have qB := Z0 j4
 clear j1 j2 j3 j4 x23 qC pH pP wR
 go_loop [37] (fun i => ∃ k : Nat, k <= zs.length /\ i = .int .i64 k) (fun i => zs.length - (intOf i).toNat)
 case atStart => exact ⟨0, ZE _, rfl⟩
 case round =>
  obtain ⟨k, hk, rfl⟩ := hrel
  by_cases pB : k < zs.length
  ·obtain ⟨gz, oz, rfl, rH, pO⟩ := tO.out (by omega)
   have c1 := (qB.out.cell (p := ⟨gz, oz + k, none⟩) rH).trans (pO k pB)
   have pG : gz < w2.1.size := by have := qB.out.size; omega
   obtain ⟨s1, s2⟩ := vC.out _ (Z4 pB)
   clear pO
   generalize zs[k] = y at c1 s1 s2
   have d1 : decide (y < 0) = false := Kad (by omega)
   have d2 : decide ((ls.length : Int) <= y) = false := Kad (by omega)
   have d4 : decide ((k : Int) < (zs.length : Int)) = true := Kac (by omega)
   go_wp2_with fail
   go_round
   case rel => exact ⟨k + 1, by omega, by go_num⟩
   case measure => simp [intOf]; omega
  ·obtain rfl : k = zs.length := by omega
   have x20 := Kaa _ _ 0 _ _ _ qA.out
   have x21 := Kaa _ _ 1 _ _ _ qA.out
   have x22 := Kaa _ _ 2 _ _ _ qA.out
   have x23 := Kaa _ _ 3 _ _ _ qA.out
   have x10 := Kaa _ _ 0 _ _ _ qS.out
   have x11 := Kaa _ _ 1 _ _ _ qS.out
   go_wp2_with (first
    | (go_at_call 36; refine (pU.out _ i4).mono ?_; rintro e w4 ⟨sv, rfl, qI, hsv⟩; obtain ⟨sva, svc, rfl, _⟩ := id hsv; have n1 := (qI.block _ (by omega)).trans i1; have n2 := (qI.block _ (by omega)).trans i2; have n4 := Z01 i4 i4.size qI; have n3 := Kaw i3 qI.size; have n5 := wS.kept (Z0a qI) (Kbm _); clear qI i1 i2 i4 wS y20 y21 y22 y23 y10 y11; have z3 := Kaa _ _ 3 _ _ _ n2; have rS : w.1.size + 1 < w4.1.size := by omega)
    | (go_at_call 35; refine (sO.out _ qB.out).mono ?_; rintro e w3 ⟨G, rfl, pF, hG, wS⟩; have i1 := (pF.block _ (by have := rK.out; omega)).trans qS.out; have i2 := (pF.block _ (by have := rK.out; omega)).trans qA.out; have i4 := Z01 qB.out qB.out.size pF; have i3 := Kaw rK.out pF.size; have lO := (wS.lt G rfl).2; clear pF x20 x21 x22 x23 x10 x11; have y20 := Kaa _ _ 0 _ _ _ i2; have y21 := Kaa _ _ 1 _ _ _ i2; have y22 := Kaa _ _ 2 _ _ _ i2; have y23 := Kaa _ _ 3 _ _ _ i2; have y10 := Kaa _ _ 0 _ _ _ i1; have y11 := Kaa _ _ 1 _ _ _ i1))
   have HG := Z0 hG
   have qM := Z0 n4
   have tI := Z0 n5
   have vD := Z0 qB.out.size
   have zZ := Z0 (n5.lt G rfl).2
   clear n1 n2 n3 n4 n5 z3 rS qS qA rK qB pU sO vC hsv lO hG
   go_loopw [69] (fun i wr => ∃ (k : Nat) (F : Nat -> Int), k <= m.ps.length /\ i = .int .i64 k /\ Below w.1.size w wr /\ wr.1[w4.1.size]? = some (.cells #[.int .u8 r.cls, .slice sva r.steps.length svc, .int .i64 r.bar] 60 (0, 0)) /\ wr.ownsRow w2.1.size 3 1 (.slice (some ⟨G, 0, none⟩) m.ps.length m.ps.length) m.ps.length ((List.range m.ps.length).map (fun i => Value.int .i64 (F i))) /\ Hid (∀ i, i < k -> F i = R i) /\ Hid (∀ i, k <= i -> F i = Bs i)) (fun i _ => m.ps.length - (intOf i).toNat)
   case atStart => exact ⟨0, Bs, ZE _, rfl, qM.out.alloc qM.out.size _, Z02 _ _, tI.out.alloc _, fun i hi => absurd hi (Ka2 _), fun _ _ => rfl⟩
   case round =>
    clear qM tI
    obtain ⟨k, F, hk, rfl, hB, rN, hO, wT, wU⟩ := hrel
    have HB := Z0 hB
    have tJ := Z0 rN
    have HO := Z0 hO
    have vB := (Z5.1 rN).1
    have mC := (hO.lt G rfl).2
    by_cases pB : k < m.ps.length
    ·obtain ⟨g, off, rfl, hg, pE⟩ := rA.out (by omega)
     obtain ⟨p0, p1, p2, p3, p4⟩ := (pE k pB).below hB hg
     have pG : g < wr.1.size := by have := hB.size; omega
     have wV : k < zs.length := by rw [sK.out]; exact pB
     obtain ⟨gz, oz, rfl, rH, uY⟩ := tO.out (by omega)
     have z1 := (hB.cell (p := ⟨gz, oz + k, none⟩) rH).trans (uY k wV)
     have mD : gz < wr.1.size := by have := hB.size; omega
     obtain ⟨s1, s2⟩ := zW.out _ (Z4 wV)
     obtain ⟨j, hj⟩ : ∃ j : Nat, zs[k] = j := ⟨zs[k].toNat, by omega⟩
     rw [hj] at z1 s2
     have rL : j < ls.length := by omega
     obtain ⟨gl, ol, rfl, tB, rJ⟩ := sJ.out (by omega)
     obtain ⟨lv, _, iA⟩ := rJ j rL
     have l4 := (hB.cell (p := ⟨gl, ol + j * 5 + 4, none⟩) tB).trans iA.2.2.2.2
     have mE : gl < wr.1.size := by have := hB.size; omega
     obtain ⟨q1, q2⟩ := sI.out _ (Z4 rL)
     have iB := wU.out k (Z1 _)
     obtain ⟨bb0, bb1⟩ := zX.out k pB
     have o1 : wr.cell? ⟨G, k, none⟩ = some (.int .i64 (Bs k)) := by rw [hO.cellAt k (by omega), Z5Y pB, iB]
     have o2 : wr.frozen? ⟨G, k, none⟩ = false := hO.frozenAt k
     have y2 := Kaa _ _ 2 _ _ _ rN
     have wW := wQ.out k
     have tK : Zbu m k = m.ps[k].barred := by unfold Zbu; rw [Z2, Z3 pB]; rfl
     have iC : Zbr ls (zs.getD k (-1)) = ls[j].cents := by
      unfold Zbr
      rw [Z2, Z2, Z3 wV, Kcu, hj, Kar, Z3 rL]; rfl
     rw [tK, iC] at wW
     have sB := Z0 wW
     have d4 : decide ((k : Int) < (m.ps.length : Int)) = true := Kac (by omega)
     clear pE uY rJ iA hj wW tK iC hB rN hO iB rA tO sJ zW sI wQ zX s1
     generalize ls[j] = l at l4 q1 q2 sB
     generalize m.ps[k] = p at p0 p1 p2 p3 p4 sB
     generalize Bs k = bk at bb0 bb1 o1 sB
     have lD : IntKind.i64.wrap (bk - l.cents) = bk - l.cents := IntWalk.i64_in _ (by omega)
     cases iD : p.barred
     ·rw [iD] at p4 sB
      go_wp2_with fail
      go_region
      have qN := ZaQ HO.out (j := k) (by rw [Z7, Kay]; exact pB) (.int .i64 (bk - l.cents))
      rw [Z6v _ pB] at qN
      have wX := Z0 qN
      clear qN
      go_wp2_with fail
      go_roundw
      case rel =>
       refine ⟨k + 1, fun i => if i = k then bk - l.cents else F i, by omega, by go_num, ((HB.out.setCell (p := ⟨G, k, none⟩) (by have := HG.out; have := vD.out; show w.1.size <= G; omega) _).alloc (by simp [World.setCell]; exact HB.out.size) _).drew, ?_, ?_, ?_, ?_⟩
       ·exact (ZB _ _ _ (by simp [World.setCell]; exact vB)).trans ((ZA _ _ _ _ (by have := zZ.out; show w4.1.size ≠ G; omega)).trans tJ.out)
       ·have wY : (fun i => Value.int .i64 (if i = k then bk - l.cents else F i)) = fun i => if i = k then Value.int .i64 (bk - l.cents) else Value.int .i64 (F i) := by funext i; split <;> rfl
        rw [wY]
        exact (wX.out.alloc _).drew
       ·intro i hi
        dsimp only
        by_cases e : i = k
        ·subst e; rw [if_pos rfl, sB.out]; simp
        ·rw [if_neg e]; exact wT.out i (by omega)
       ·intro i hi
        dsimp only
        rw [if_neg (by omega)]
        exact wU.out i (by omega)
      case measure => simp [intOf]; omega
     ·rw [iD] at p4 sB
      have lE : IntKind.i64.wrap (bk - r.bar) = bk - r.bar := IntWalk.i64_in _ (by omega)
      have lK : IntKind.i64.wrap (bk - r.bar - l.cents) = bk - r.bar - l.cents := IntWalk.i64_in _ (by omega)
      go_wp2_with fail
      go_region
      go_wp2_with fail
      have iE : w.1.size <= G := by have := HG.out; have := vD.out; omega
      have iF : w4.1.size ≠ G := by have := zZ.out; omega
      obtain ⟨W1, qU⟩ : ∃ W1, W1 = ((wr.setCell ⟨G, k, none⟩ (.int .i64 (bk - r.bar))).alloc (.cells #[.int .i64 p.id, .int .i64 p.point, .string p.code, .int .i64 p.grams, .bool true] 65)).drew := ⟨_, rfl⟩
      have pL : Below w.1.size w W1 := by rw [qU]; exact ((HB.out.setCell (p := ⟨G, k, none⟩) iE _).alloc (by simp [World.setCell]; exact HB.out.size) _).drew
      have iG : W1.1[w4.1.size]? = some (.cells #[.int .u8 r.cls, .slice sva r.steps.length svc, .int .i64 r.bar] 60 (0, 0)) := by
       rw [qU]
       exact (ZB _ _ _ (by simp [World.setCell]; exact vB)).trans ((ZA _ _ _ _ iF).trans tJ.out)
      have qN := ZaQ HO.out (j := k) (by rw [Z7, Kay]; exact pB) (.int .i64 (bk - r.bar))
      rw [Z6v _ pB] at qN
      have tP : W1.ownsRow w2.1.size 3 1 (.slice (some ⟨G, 0, none⟩) m.ps.length m.ps.length) m.ps.length ((List.range m.ps.length).map (fun i => if i = k then Value.int .i64 (bk - r.bar) else Value.int .i64 (F i))) := by rw [qU]; exact (qN.alloc _).drew
      have o1' : W1.cell? ⟨G, k, none⟩ = some (.int .i64 (bk - r.bar)) := by rw [tP.cellAt k (by omega), Z5Y pB, if_pos rfl]
      have o2' : W1.frozen? ⟨G, k, none⟩ = false := tP.frozenAt k
      have mF := (tP.lt G rfl).2
      have e1 : ∀ g o, g < w.1.size -> W1.cell? ⟨g, o, none⟩ = wr.cell? ⟨g, o, none⟩ := fun g o hg => (pL.cell (p := ⟨g, o, none⟩) hg).trans (HB.out.cell (p := ⟨g, o, none⟩) hg).symm
      have z1' := (e1 gz (oz + k) rH).trans z1
      have l4' := (e1 gl (ol + j * 5 + 4) tB).trans l4
      have mG : gz < W1.1.size := by have := pL.size; omega
      have mH : gl < W1.1.size := by have := pL.size; omega
      rw [<- qU]
      have lP := Z0 pL
      have uZ := Z0 iG
      have lQ := Z0 tP
      clear qU pL iG tP qN e1 o1 o2 z1 l4 y2 p0 p1 p2 p3 p4
      go_region
      have qN := ZaQ lQ.out (j := k) (by rw [Z7, Kay]; exact pB) (.int .i64 (bk - r.bar - l.cents))
      rw [Z6v _ pB] at qN
      have wX := Z0 qN
      clear qN
      go_wp2_with fail
      go_roundw
      case rel =>
       refine ⟨k + 1, fun i => if i = k then bk - r.bar - l.cents else F i, by omega, by go_num, (lP.out.setCell (p := ⟨G, k, none⟩) iE _).drew, ?_, ?_, ?_, ?_⟩
       ·exact (ZA _ _ _ _ iF).trans uZ.out
       ·have wY : (fun i => Value.int .i64 (if i = k then bk - r.bar - l.cents else F i)) = fun i => if i = k then Value.int .i64 (bk - r.bar - l.cents) else (if i = k then Value.int .i64 (bk - r.bar) else Value.int .i64 (F i)) := by
         funext i
         by_cases e : i = k
         ·rw [if_pos e, if_pos e]
         ·rw [if_neg e, if_neg e, if_neg e]
        rw [wY]
        exact wX.out.drew
       ·intro i hi
        dsimp only
        by_cases e : i = k
        ·subst e; rw [if_pos rfl, sB.out]; simp
        ·rw [if_neg e]; exact wT.out i (by omega)
       ·intro i hi
        dsimp only
        rw [if_neg (by omega)]
        exact wU.out i (by omega)
      case measure => simp [intOf]; omega
    ·obtain rfl : k = m.ps.length := by omega
     have vQ : (List.range m.ps.length).map (fun i => Value.int .i64 (F i)) = (List.range m.ps.length).map (fun i => Value.int .i64 (R i)) := Kbg (fun i hi => by rw [wT.out i (Ka8.1 hi)])
     rw [vQ] at HO
     go_wp2_with fail
     go_ret2
     exact ⟨G, rfl, HB.out, Kaw vD.out HG.out, Z61 HO.out vD.out⟩
theorem ZaG {T : Tar} (uU : 1 <= T.rates.length /\ T.rates.length <= 20) {vr vl vp vn : Value} {m : Mai} (w : World) (h : RdRates w vr T.rates) (hl : ∃ a n c, vl = .slice a n c) (hp : ∃ a n c, vp = .slice a n c) (hn : ∃ a n c, vn = .slice a n c) :
 Calls Tryz.prog 13 #[.agg #[vr, .slice none 0 0], vl, Z0N m vp, vn] w fun e w' => e = .returned (.tuple #[.slice none 0 0, .int .i64 2]) /\ Below w.1.size w w' := by
 have qC := Z0 (fun W (hW : Below w.1.size w W) => Zi5 uU W (h.below hW) hl)
 obtain ⟨a, ca, rfl, _⟩ := h
 obtain ⟨al, nl, cl, rfl⟩ := hl
 obtain ⟨ap, np, cp, rfl⟩ := hp
 obtain ⟨an, nn, cn, rfl⟩ := hn
 obtain ⟨t1, t2, t3, t4⟩ := Z19 (w := w) (A := .cells #[.slice a T.rates.length ca, .slice none 0 0] 29) (B := .cells #[.int .u8 m.cls, .int .u8 m.ctr, .string m.origin, .slice ap np cp] 34) rfl
 have pP := Z0 t4
 clear t1 t2 t3 t4
 unfold Z0N
 go_enter Tryz.func13, Tryz.ntmps13
 go_wp2_with (go_at_call 33; refine (qC.out _ pP.out).mono ?_; rintro e w1 ⟨rfl, pA⟩; obtain ⟨k1, k2, k3, k4⟩ := Z1T pA; clear pA)
 go_ret2
 exact ⟨rfl, k4⟩
theorem Z6w {z : Nat} {T : Tar} (hT : TarOk z T) {lo hb hc : Int} {ls : List Lev} (hF : FitT lo hb hc T ls) {vr vz vp vl vn : Value} {m : Mai} {zs : List Int} (w : World) (h : RdTar w vr vz T) (hr : RdLevs w vl ls) (hf : ∀ l ∈ ls, Z0x l) (qK : Z0j ls = true)
 (pQ : RdPces w vp m.ps) (hm : Z1r m = true) (h8 : m.cls <= 255) (pJ : ∀ p ∈ m.ps, p.code.size <= maxLen) (hn : RdInts w vn zs) (qZ : zs.length = m.ps.length) (sN : ∀ x ∈ zs, 0 <= x /\ x < (ls.length : Int)) {er : Int} (iH : er ≠ 0)
 (iI : ∀ W, Below w.1.size w W -> Calls Tryz.prog 35 #[.agg #[vr, vz], Z0N m vp] W fun e w' => e = .returned (.tuple #[.slice none 0 0, .int .i64 er]) /\ Below W.1.size W w') :
 Calls Tryz.prog 13 #[.agg #[vr, vz], vl, Z0N m vp, vn] w fun e w' => e = .returned (.tuple #[.slice none 0 0, .int .i64 er]) /\ Below w.1.size w w' := by
 obtain ⟨m1, m2, m3⟩ := Z4E hm
 have tA := Z0y qK
 have pZ : m.origin.size <= maxLen := by have := Z0i m2; unfold maxLen; omega
 have qC := Z0 (fun W (hW : Below w.1.size w W) => Zci hT hF W (h.below hW) (hr.below hW) hf qK)
 have pH := Z0 (fun W (hW : Below w.1.size w W) => Z1q m vp W (pQ.below hW) ⟨by omega, h8, by omega, by omega⟩ pZ (by omega) pJ)
 have sO := Z0 iI
 rw [hm] at pH
 obtain ⟨a, ca, rfl, _⟩ := h.r
 obtain ⟨az, cz, rfl, _⟩ := h.z
 obtain ⟨ap, cp, rfl, _⟩ := pQ
 obtain ⟨al, cl, rfl, _⟩ := hr
 obtain ⟨an, cn, rfl, tN⟩ := hn
 have tO := Z0 tN
 have vC := Z0 sN
 have mI : (er != 0) = true := by simpa using iH
 clear tN sN h hT hm pJ m2 pZ hF hf qK iI iH
 have wR : ((zs.length : Int) != (m.ps.length : Int)) = false := by rw [qZ]; simp
 have lN : zs.length <= 2000 := by omega
 clear qZ
 obtain ⟨t1, t2, t3, t4⟩ := Z19 (w := w) (A := .cells #[.slice a T.rates.length ca, .slice az T.zones.length cz] 29) (B := .cells #[.int .u8 m.cls, .int .u8 m.ctr, .string m.origin, .slice ap m.ps.length cp] 34) rfl
 have pP := Z0 t4
 clear t1 t2 t3 t4
 unfold Z0N at pH sO ⊢
 go_enter Tryz.func13, Tryz.ntmps13
 go_wp2_with (first
  | (go_at_call 34; refine (pH.out _ k4).mono ?_; rintro e w2 ⟨rfl, pC⟩; have j1 := (pC.block _ (by omega)).trans k1; have j2 := (pC.block _ (by omega)).trans k2; have j4 := Z01 k4 k4.size pC; have j3 := Kaw k3 pC.size; clear pC k1 k2 k3 k4 x20 x21 x22; have x23 := Kaa _ _ 3 _ _ _ j2)
  | (go_at_call 33; refine (qC.out _ pP.out).mono ?_; rintro e w1 ⟨rfl, pA⟩; obtain ⟨k1, k2, k3, k4⟩ := Z1T pA; clear pA; have x20 := Kaa _ _ 0 _ _ _ k2; have x21 := Kaa _ _ 1 _ _ _ k2; have x22 := Kaa _ _ 2 _ _ _ k2; have x23 := Kaa _ _ 3 _ _ _ k2))
 have qS := Z0 j1
 have qA := Z0 j2
 have rK := Z0 j3
 have qB := Z0 j4
 clear j1 j2 j3 j4 x23 qC pH pP wR
 go_loop [37] (fun i => ∃ k : Nat, k <= zs.length /\ i = .int .i64 k) (fun i => zs.length - (intOf i).toNat)
 case atStart => exact ⟨0, ZE _, rfl⟩
 case round =>
  obtain ⟨k, hk, rfl⟩ := hrel
  by_cases pB : k < zs.length
  ·obtain ⟨gz, oz, rfl, rH, pO⟩ := tO.out (by omega)
   have c1 := (qB.out.cell (p := ⟨gz, oz + k, none⟩) rH).trans (pO k pB)
   have pG : gz < w2.1.size := by have := qB.out.size; omega
   obtain ⟨s1, s2⟩ := vC.out _ (Z4 pB)
   clear pO
   generalize zs[k] = y at c1 s1 s2
   have d1 : decide (y < 0) = false := Kad (by omega)
   have d2 : decide ((ls.length : Int) <= y) = false := Kad (by omega)
   have d4 : decide ((k : Int) < (zs.length : Int)) = true := Kac (by omega)
   go_wp2_with fail
   go_round
   case rel => exact ⟨k + 1, by omega, by go_num⟩
   case measure => simp [intOf]; omega
  ·obtain rfl : k = zs.length := by omega
   have x20 := Kaa _ _ 0 _ _ _ qA.out
   have x21 := Kaa _ _ 1 _ _ _ qA.out
   have x22 := Kaa _ _ 2 _ _ _ qA.out
   have x23 := Kaa _ _ 3 _ _ _ qA.out
   have x10 := Kaa _ _ 0 _ _ _ qS.out
   have x11 := Kaa _ _ 1 _ _ _ qS.out
   go_wp2_with (go_at_call 35; refine (sO.out _ qB.out).mono ?_; rintro e w3 ⟨rfl, pF⟩; have i4 := Z01 qB.out qB.out.size pF; clear pF)
   go_ret2
   exact ⟨rfl, i4⟩
theorem LnIn.mono {m m' : Int} {x : Ln} (h : LnIn m x) (hm : m <= m') : LnIn m' x := by
 obtain ⟨a1, a2, a3, a4, a5, a6, a7⟩ := h
 exact ⟨by omega, by omega, by omega, by omega, by omega, by omega, by omega⟩
theorem Zaw {m : Int} (lv : Int) {l : List Ln} (h : ∀ x ∈ l, LnIn m x) (hm : 0 <= m /\ m <= 1000000000000) (hl : l.length <= 10000) : LnIn 10000000000000000 (Z3l lv l) := by
 refine (ZbG lv h).mono ?_
 have h1 : (l.length : Int) * m <= 10000 * m := Int.mul_le_mul_of_nonneg_right (by omega) hm.1
 omega
def lnO (x : Ln) : Obj := .cells #[.int .i64 x.level, .int .i64 x.pieces, .int .i64 x.barred, .int .i64 x.grams, .int .i64 x.base, .int .i64 x.bar, .int .i64 x.saved, .int .i64 x.cents] 42
theorem ZjA {w : World} {g : Nat} {a b c d e f p q b' c' d' e' f' p' q' : Value} {t : TypeId} {fr : Nat × Nat} (h : w.1[g]? = some (.cells #[a, b, c, d, e, f, p, q] t fr)) :
 (((((((w.setCell ⟨g, 1, none⟩ b').setCell ⟨g, 2, none⟩ c').setCell ⟨g, 3, none⟩ d').setCell ⟨g, 4, none⟩ e').setCell ⟨g, 5, none⟩ f').setCell ⟨g, 6, none⟩ p').setCell ⟨g, 7, none⟩ q').1[g]? = some (.cells #[a, b', c', d', e', f', p', q'] t fr) := by
 simp [World.setCell, Kap, h]
theorem Zjz {w : World} {g : Nat} {a b c d e f p q a' b' c' d' e' f' p' q' : Value} {t : TypeId} {fr : Nat × Nat} (h : w.1[g]? = some (.cells #[a, b, c, d, e, f, p, q] t fr)) :
 ((((((((w.setCell ⟨g, 0, none⟩ a').setCell ⟨g, 1, none⟩ b').setCell ⟨g, 2, none⟩ c').setCell ⟨g, 3, none⟩ d').setCell ⟨g, 4, none⟩ e').setCell ⟨g, 5, none⟩ f').setCell ⟨g, 6, none⟩ p').setCell ⟨g, 7, none⟩ q').1[g]? = some (.cells #[a', b', c', d', e', f', p', q'] t fr) := by
 simp [World.setCell, Kap, h]
theorem Z56 {B : Nat} {w w' : World} {g : Nat} {b c d e f p q : Value} (h : Below B w w') (hg : B <= g) : Below B w (((((((w'.setCell ⟨g, 1, none⟩ b).setCell ⟨g, 2, none⟩ c).setCell ⟨g, 3, none⟩ d).setCell ⟨g, 4, none⟩ e).setCell ⟨g, 5, none⟩ f).setCell ⟨g, 6, none⟩ p).setCell ⟨g, 7, none⟩ q) :=
 ((((((h.setCell (p := ⟨g, 1, none⟩) hg _).setCell (p := ⟨g, 2, none⟩) hg _).setCell (p := ⟨g, 3, none⟩) hg _).setCell (p := ⟨g, 4, none⟩) hg _).setCell (p := ⟨g, 5, none⟩) hg _).setCell (p := ⟨g, 6, none⟩) hg _).setCell (p := ⟨g, 7, none⟩) hg _
theorem ZcJ {B : Nat} {w w' : World} {g : Nat} {a b c d e f p q : Value} (h : Below B w w') (hg : B <= g) : Below B w ((((((((w'.setCell ⟨g, 0, none⟩ a).setCell ⟨g, 1, none⟩ b).setCell ⟨g, 2, none⟩ c).setCell ⟨g, 3, none⟩ d).setCell ⟨g, 4, none⟩ e).setCell ⟨g, 5, none⟩ f).setCell ⟨g, 6, none⟩ p).setCell ⟨g, 7, none⟩ q) :=
 Z56 (h.setCell (p := ⟨g, 0, none⟩) hg _) hg
theorem ZfJ {m : Int} (lv : Int) (l : List Ln) (v : Value) (w : World) (hv : RdLns w v l) (wZ : ∀ x ∈ l, LnIn m x) (hm : 0 <= m /\ m <= 1000000000000) (hl : l.length <= 10000) :
 Calls Tryz.prog 67 #[.int .i64 lv, v] w fun e w' => e = .returned (lnA (Z3l lv l)) /\ Below w.1.size w w' := by
 obtain ⟨a, ca, rfl, pD⟩ := hv
 have HC := Z0 pD
 have xA := Z0 wZ
 have xB : Hid (∀ k, LnIn 10000000000000000 (Z3l lv (l.take k))) := fun k => Zaw lv (fun x hx => wZ x (Kcg hx)) hm (by rw [Kax]; omega)
 obtain ⟨t1, t2, t3, t4⟩ := Z19 (w := w) (A := lnO (Z4f 0)) (B := lnO (Z4f lv)) rfl
 have iJ := Z0 t1
 have sG := Z0 t2
 have pP := Z0 t4
 have xG := hm.2
 clear pD wZ t1 t2 t3 t4 hm
 unfold lnO Z4f at iJ sG pP
 unfold lnA
 go_enter Tryz.func67, Tryz.ntmps67
 go_wp2_with fail
 go_loopw [12] (fun i wr => ∃ (k : Nat) (s : Ln), k <= l.length /\ i = .int .i64 k /\ Below w.1.size w wr /\ wr.1[w.1.size]? = some (lnO (Z4f 0)) /\ wr.1[w.1.size + 1]? = some (lnO s) /\ Hid (s = Z3l lv (l.take k))) (fun i _ => l.length - (intOf i).toNat)
 case atStart => exact ⟨0, Z4f lv, ZE _, rfl, pP.out, iJ.out, sG.out, rfl⟩
 case round =>
  obtain ⟨k, s, hk, rfl, hb, h1, h2, HS⟩ := hrel
  have HB := Z0 hb
  have H1 := Z0 h1
  have H2 := Z0 h2
  have wK := (Z5.1 h1).1
  have wJ := (Z5.1 h2).1
  unfold lnO at h1 h2
  by_cases pB : k < l.length
  ·obtain ⟨g, off, rfl, hg, pO⟩ := HC.out (by omega)
   have pG : g < wr.1.size := by have := hb.size; omega
   have hx := xA.out _ (Z4 pB)
   have qJ : Hid (Z3l lv (l.take (k + 1)) = Zak s l[k]) := by
    show _ = _
    rw [Z8 pB, ZcD, <- HS.out]
   have iK := xB.out k
   rw [<- HS.out] at iK
   have hc := pO k pB
   generalize l[k] = x at hx qJ hc
   have c0 := (hb.cell (p := ⟨g, off + k * 8, none⟩) hg).trans (hc 0 _ rfl)
   have c1 := (hb.cell (p := ⟨g, off + k * 8 + 1, none⟩) hg).trans (hc 1 _ rfl)
   have c2 := (hb.cell (p := ⟨g, off + k * 8 + 2, none⟩) hg).trans (hc 2 _ rfl)
   have c3 := (hb.cell (p := ⟨g, off + k * 8 + 3, none⟩) hg).trans (hc 3 _ rfl)
   have c4 := (hb.cell (p := ⟨g, off + k * 8 + 4, none⟩) hg).trans (hc 4 _ rfl)
   have c5 := (hb.cell (p := ⟨g, off + k * 8 + 5, none⟩) hg).trans (hc 5 _ rfl)
   have c6 := (hb.cell (p := ⟨g, off + k * 8 + 6, none⟩) hg).trans (hc 6 _ rfl)
   have c7 := (hb.cell (p := ⟨g, off + k * 8 + 7, none⟩) hg).trans (hc 7 _ rfl)
   obtain ⟨⟨a10, a11⟩, ⟨a20, a21⟩, ⟨a30, a31⟩, ⟨a40, a41⟩, ⟨a50, a51⟩, ⟨a60, a61⟩, ⟨a70, a71⟩⟩ := iK
   obtain ⟨⟨b10, b11⟩, ⟨b20, b21⟩, ⟨b30, b31⟩, ⟨b40, b41⟩, ⟨b50, b51⟩, ⟨b60, b61⟩, ⟨b70, b71⟩⟩ := hx
   have s1 := Kaa _ _ 1 _ _ _ h2
   have s2 := Kaa _ _ 2 _ _ _ h2
   have s3 := Kaa _ _ 3 _ _ _ h2
   have s4 := Kaa _ _ 4 _ _ _ h2
   have s5 := Kaa _ _ 5 _ _ _ h2
   have s6 := Kaa _ _ 6 _ _ _ h2
   have s7 := Kaa _ _ 7 _ _ _ h2
   have f1 := Z00 (j := 1) h2
   have f2 := Z00 (j := 2) h2
   have f3 := Z00 (j := 3) h2
   have f4 := Z00 (j := 4) h2
   have f5 := Z00 (j := 5) h2
   have f6 := Z00 (j := 6) h2
   have f7 := Z00 (j := 7) h2
   have w1 : IntKind.i64.wrap (s.pieces + x.pieces) = s.pieces + x.pieces := IntWalk.i64_in _ (by omega)
   have w2 : IntKind.i64.wrap (s.barred + x.barred) = s.barred + x.barred := IntWalk.i64_in _ (by omega)
   have w3 : IntKind.i64.wrap (s.grams + x.grams) = s.grams + x.grams := IntWalk.i64_in _ (by omega)
   have w4 : IntKind.i64.wrap (s.base + x.base) = s.base + x.base := IntWalk.i64_in _ (by omega)
   have w5 : IntKind.i64.wrap (s.bar + x.bar) = s.bar + x.bar := IntWalk.i64_in _ (by omega)
   have w6 : IntKind.i64.wrap (s.saved + x.saved) = s.saved + x.saved := IntWalk.i64_in _ (by omega)
   have w7 : IntKind.i64.wrap (s.cents + x.cents) = s.cents + x.cents := IntWalk.i64_in _ (by omega)
   have d4 : decide ((k : Int) < (l.length : Int)) = true := Kac (by omega)
   have H2' := Z0 h2
   clear hc pO HC xA xB hb h1 h2 a10 a11 a20 a21 a30 a31 a40 a41 a50 a51 a60 a61 a70 a71 b10 b11 b20 b21 b30 b31 b40 b41 b50 b51 b60 b61 b70 b71 xG
   go_wp2_with fail
   go_roundw
   case rel => exact ⟨k + 1, Zak s x, by omega, by go_num, (Z56 HB.out (Kbd w.1.size)).alloc (by simp [World.setCell]; exact HB.out.size) _, (ZB _ _ _ (by simp [World.setCell]; exact wK)).trans ((Z56 (g := w.1.size + 1) (Z9 (w.1.size + 1) wr) (Z1 _)).block _ (Ka4 _) |>.trans H1.out), (ZB _ _ _ (by simp [World.setCell]; exact wJ)).trans (ZjA H2'.out), qJ.out.symm⟩
   case measure => simp [intOf]; omega
  ·obtain rfl : k = l.length := by omega
   rw [Kat] at HS
   have s0 := Kaa _ _ 0 _ _ _ h2
   have s1 := Kaa _ _ 1 _ _ _ h2
   have s2 := Kaa _ _ 2 _ _ _ h2
   have s3 := Kaa _ _ 3 _ _ _ h2
   have s4 := Kaa _ _ 4 _ _ _ h2
   have s5 := Kaa _ _ 5 _ _ _ h2
   have s6 := Kaa _ _ 6 _ _ _ h2
   have s7 := Kaa _ _ 7 _ _ _ h2
   have r0 := Kaa _ _ 0 _ _ _ h1
   have r1 := Kaa _ _ 1 _ _ _ h1
   have r2 := Kaa _ _ 2 _ _ _ h1
   have r3 := Kaa _ _ 3 _ _ _ h1
   have r4 := Kaa _ _ 4 _ _ _ h1
   have r5 := Kaa _ _ 5 _ _ _ h1
   have r6 := Kaa _ _ 6 _ _ _ h1
   have r7 := Kaa _ _ 7 _ _ _ h1
   have f0 := Z00 (j := 0) h1
   have f1 := Z00 (j := 1) h1
   have f2 := Z00 (j := 2) h1
   have f3 := Z00 (j := 3) h1
   have f4 := Z00 (j := 4) h1
   have f5 := Z00 (j := 5) h1
   have f6 := Z00 (j := 6) h1
   have f7 := Z00 (j := 7) h1
   have H1' := Z0 h1
   have lR := Z0 HS.out
   clear HC xA xB hb h1 h2 HS pB
   go_wp2_with fail
   refine bodyPost_ret (results_cell_row rfl _ _ w.1.size 42 _ (0, 0) _ rfl (Zjz H1'.out) Tryz.underlying42 rfl (by kernel_rfl)) rfl ?_
   rw [<- lR.out]
   exact ⟨rfl, ZcJ HB.out (Z1 _)⟩
end
end Go.Proofs.YtlgajongmkhcnaaGreatDoor
