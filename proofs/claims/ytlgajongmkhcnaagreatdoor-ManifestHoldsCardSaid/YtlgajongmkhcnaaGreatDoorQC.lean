import Derived.Test.YtlgajongmkhcnaaGreatDoorQZ
import Derived.RangeFuncNested
import Derived.RangeFuncBound
import Derived.RangeFuncCalls
import Derived.RangeFuncLeaves
import Derived.Shelf.Abstract
import Derived.Shelf.RegionOpen
import Derived.WalkKit
import Derived.OwnWalkIn
import Derived.TacticsInMore
import Derived.LoopNIn
import Derived.LoopIn
import Derived.Test.YtlgajongmkhcnaaGreatDoorQB
import Derived.Test.YtlgajongmkhcnaaGreatDoorQ7
import Derived.Test.YtlgajongmkhcnaaGreatDoorQ8
import Derived.Deep.DeepCutAuto
import Derived.Deep.CutBlock
import Derived.BigQuiet
import Derived.Test.YtlgajongmkhcnaaGreatDoorQ5
import Derived.Test.YtlgajongmkhcnaaGreatDoorQ3
import Derived.Test.YtlgajongmkhcnaaGreatDoorQ2
import Derived.OwnWalk
import Derived.Test.YtlgajongmkhcnaaGreatDoorQ0
import Derived.BigRegion
set_option linter.unusedVariables false
set_option linter.unusedSimpArgs false
set_option maxHeartbeats 32000000
namespace Go.Proofs.YtlgajongmkhcnaaGreatDoor
open Go.RowKit Go.Shelf
def Zhb {β : Type} (Bs : Nat) (J : β -> World -> Prop) : Prop :=
 ∀ s A B row, J s A -> World.grownBy A B row -> (∀ r, row = some r -> r = Bs) -> J s B
def Zjc {α : Type} (P : Program) (gf : Nat) (lb : Array Value) (encs : α -> Array Value) (Kp : World -> World -> Prop) (S : List α -> World -> Prop) (Sp : List α -> Prop) (Bs : Nat) (w : World) : Prop :=
 ∀ (l : Nat) (J Jx : List α -> World -> Prop) (W : World), Below w.1.size w W -> Zhb Bs J -> Zhb Bs Jx ->
  (∀ pre x W1, J pre W1 -> YieldAt Fence.wide 0 P l (encs x) W1 fun e W' =>
   (e = .returned (.bool true) /\ J (pre ++ [x]) W' /\ Kp W1 W') \/ (e = .returned (.bool false) /\ Jx (pre ++ [x]) W')) ->
  J [] W -> CallsIn Fence.wide 0 P gf (#[.func (.yield l) #[] #[]] ++ lb) W fun e W' => (∃ v, e = .returned v) /\ ((∃ xs, S xs W' /\ J xs W') \/ ∃ pre, Sp pre /\ Jx pre W')
theorem Z6M {A B : World} {row : Option Nat} {Bs k : Nat} {o : Obj} (hg : A.grownBy B row) (hr : ∀ r, row = some r -> r = Bs) (hk : A.1[k]? = some o) (hne : k ≠ Bs) : B.1[k]? = some o :=
 (hg.block k (Z5.1 hk).1 (fun e => hne (hr k e.symm))).trans hk
def Kept (D : Nat) (lp : Loop) (W : World) : Prop := W.1[D + 1]? = some (.loop lp) /\ W.1[D]? = some (.deferred (some []))
theorem Kept.grown {D Bs : Nat} {lp : Loop} {A B : World} {row : Option Nat} (h : Kept D lp A) (hB : Bs < D) (hg : A.grownBy B row) (hr : ∀ r, row = some r -> r = Bs) : Kept D lp B :=
 ⟨Z6M hg hr h.1 (by omega), Z6M hg hr h.2 (by omega)⟩
theorem Kept.put {D : Nat} {lp lp' : Loop} {W : World} (h : Kept D lp W) : Kept D lp' (W.putObj (D + 1) (.loop lp')) :=
 ⟨World.putObj_heap_same (Z5.1 h.1).1, (World.putObj_heap_other (by omega)).trans h.2⟩
theorem Kept.keeps {D : Nat} {lp : Loop} {W W' : World} (h : Kept D lp W) (hk : KeepsFrom D W W') : Kept D lp W' :=
 ⟨hk.same _ _ (by omega) h.1 rfl, hk.same _ _ (Z1 _) h.2 rfl⟩
theorem Z2j {P : Program} {α : Type} {g : Operand} {ps : Array Tmp} {assign body : Code} {Q : Exit -> Act -> World -> Prop} {a : Act} {w : World}
 {gf : Nat} {lb : Array Value} (hg : a.eval g = .func (.func gf) #[] lb) (eg : ∀ args w, (callFunc gf args).run P w = .ok (.enter gf args) w)
 {encs : α -> Array Value} {Kp : World -> World -> Prop} {S : List α -> World -> Prop} {Sp : List α -> Prop} {Bs : Nat} (hBs : Bs < w.1.size) (hseq : Zjc P gf lb encs Kp S Sp Bs w)
 (hSo : OwnFrom w.1.size S) (hKt : ∀ {A B C : World}, Kp A B -> Kp B C -> Kp A C) (hKb : ∀ (W : World) (l : Nat) (o o' : Obj), w.1.size <= l -> W.1[l]? = some o -> o.isCells = false -> Kp W (W.putObj l o')) (hps : ∀ x, (encs x).size = ps.size)
 (I : List α -> World -> Prop) (Ix : Code -> List α -> World -> Prop) (hI : OwnFrom w.1.size I) (hIx : ∀ c, OwnFrom w.1.size (Ix c)) (hIb : Zhb Bs I) (hIxb : ∀ c, Zhb Bs (Ix c)) (h0 : I [] w)
 (Ax : α -> Act -> World -> Prop) (hAx : ∀ x a', OwnFrom w.1.size (fun (_ : Unit) W => Ax x a' W))
 (hassign : ∀ (l : Nat) (pre : List α) (x : α) (W : World) (K : Act -> World -> Prop), I pre W -> (∀ a' W', KeepsFrom w.1.size W W' -> Kp W W' -> I pre W' -> Ax x a' W' -> K a' W') ->
  assign.wpIn (Fence.wide.inRound l) 0 P (Exit.then K (fun _ _ _ => False)) { tmps := (ps.zip (encs x)).foldl (fun t (p, v) => t.setIfInBounds p v) a.tmps, defers := [] } W)
 (hbody : ∀ (l : Nat) (pre : List α) (x : α) (a' : Act) (W : World), I pre W -> Ax x a' W -> body.wpIn (Fence.wide.inRound l) 0 P (ownPostG w.1.size Kp I Ix (pre ++ [x]) W) a' W)
 (hdone : ∀ (D : Nat) (xs : List α) (W : World), w.1.size <= D -> S xs W -> I xs W -> W.1[D]? = some (.deferred (some [])) -> Q .normal { a with defers := { target := .collected D, args := #[] } :: a.defers } W)
 (hstop : ∀ (D : Nat) (c : Code) (pre : List α) (W : World), w.1.size <= D -> Sp pre -> Ix c pre W -> W.1[D]? = some (.deferred (some [])) -> c.wpIn Fence.wide 0 P Q { a with defers := { target := .collected D, args := #[] } :: a.defers } W) :
 (Code.rangeFunc g ps assign body).wpIn Fence.wide 0 P Q a w := by
 refine wpIn_rangeFunc ?_
 intro fn hfn
 rw [show (Fence.wide).round = none from rfl]
 generalize hD : w.1.size = D at *
 let rec0 : LoopState -> Option Code -> Loop := fun st pe => { state := st, pending := pe, fn, tmps := a.tmps, params := ps, assign, body, defers := D }
 have hent := run_enterLoop_outer (P := P) (w := w) fn a.tmps ps assign body
 rw [hD] at hent
 generalize hW1 : (w.alloc (.deferred (some []))).alloc (.loop { state := .ready, pending := none, fn, tmps := a.tmps, params := ps, assign, body, defers := D }) = W1 at hent
 have hK1 : Kept D (rec0 .ready none) W1 := by
  rw [<- hW1]
  constructor
  ·have := World.alloc_heap_new (w.alloc (.deferred (some []))) (.loop (rec0 .ready none))
   rw [Z6, hD] at this
   exact this
  ·have := (ZB (w.alloc (.deferred (some []))) (.loop (rec0 .ready none)) w.1.size (by simp)).trans (World.alloc_heap_new w _)
   rw [hD] at this
   exact this
 have hI1 : I [] W1 := by rw [<- hW1]; exact hI.alloc _ (hI.alloc _ h0)
 have hb1 : Below w.1.size w W1 := by rw [<- hW1]; exact ((Z9 _ w).alloc (Z1 _) _).alloc (by simp) _
 refine ⟨D + 1, _, W1, { target := .fn (.func gf) lb, args := #[.func (.yield (D + 1)) #[] #[]] }, W1, gf, #[.func (.yield (D + 1)) #[] #[]] ++ lb, W1, hent, ?_, ?_, ?_, ?_, ?_⟩
 ·simp only [resolve, hg]
  simp [go_sem]
 ·intro f' _; trivial
 ·simp [invoke, go_sem, eg]
 ·intro h; cases h
 refine (hseq (D + 1) (fun pre W => I pre W /\ Kept D (rec0 .ready none) W) (fun pre W => ∃ c, Ix c pre W /\ Kept D (rec0 .done (some c)) W) W1 hb1
  (fun s A B row hs hgr hr => ⟨hIb s A B row hs.1 hgr hr, hs.2.grown hBs hgr hr⟩)
  (fun s A B row hs hgr hr => by obtain ⟨c, hc, hk⟩ := hs; exact ⟨c, hIxb c s A B row hc hgr hr, hk.grown hBs hgr hr⟩) ?_ ⟨hI1, hK1⟩).mono ?_
 ·rintro pre x W ⟨hi, hk⟩
  have hy := run_yield (P := P) (args := encs x) hk.1 (hps x)
  refine ⟨fn, _, assign, body, hy, roundIn_of_wpIn hfn (hassign _ pre x W _ hi ?_)⟩
  intro a' Wa hkf hkp hia hax
  have hka := hk.keeps hkf
  refine ⟨_, run_beginRound hka.1 rfl, ?_⟩
  have hk2 : Kept D { rec0 .ready none with state := .busy } (Wa.putObj (D + 1) (.loop { rec0 .ready none with state := .busy })) := hka.put
  refine wpIn_mono (hbody _ pre x a' _ (hI.putObj _ hia (by omega) hka.1 rfl) ((hAx x a').putObj (s := ()) _ hax (by omega) hka.1 rfl)) ?_
  have hkb : Kp W (Wa.putObj (D + 1) (.loop { rec0 .ready none with state := .busy })) := hKt hkp (hKb _ _ _ _ (by omega) hka.1 rfl)
  rintro e a3 W3 hp
  cases e with
  | normal =>
   have hk3 := hk2.keeps hp.1
   exact ⟨_, _, run_endRound (P := P) none hk3.1, .inl ⟨rfl, ⟨hI.putObj _ hp.2.2 (by omega) hk3.1 rfl, hk3.put⟩, hKt hkb (hKt hp.2.1 (hKb _ _ _ _ (by omega) hk3.1 rfl))⟩⟩
  | ret => have hk3 := hk2.keeps hp.1; exact ⟨_, _, run_endRound (P := P) (some .ret) hk3.1, .inr ⟨rfl, .ret, (hIx _).putObj _ hp.2 (by omega) hk3.1 rfl, hk3.put⟩⟩
  | exit id => have hk3 := hk2.keeps hp.1; exact ⟨_, _, run_endRound (P := P) (some (.exit id)) hk3.1, .inr ⟨rfl, .exit id, (hIx _).putObj _ hp.2 (by omega) hk3.1 rfl, hk3.put⟩⟩
  | goto t => have hk3 := hk2.keeps hp.1; exact ⟨_, _, run_endRound (P := P) (some (.goto t)) hk3.1, .inr ⟨rfl, .goto t, (hIx _).putObj _ hp.2 (by omega) hk3.1 rfl, hk3.put⟩⟩
  | panic ch => exact hp.elim
  | outgrown => exact hp.elim
 ·rintro e W2 ⟨⟨v, rfl⟩, (⟨xs, hS, hi, hk⟩ | ⟨pre, hSp, c, hi, hk⟩)⟩
  ·exact ⟨none, _, run_endLoop (P := P) hk.1 (by simp [rec0]), hdone _ xs _ (Z1 _) (hSo.putObj _ hS (by omega) hk.1 rfl) (hI.putObj _ hi (by omega) hk.1 rfl) hk.put.2⟩
  ·exact ⟨some c, _, run_endLoop (P := P) hk.1 (by simp [rec0]), hstop _ c pre _ (Z1 _) hSp ((hIx c).putObj _ hi (by omega) hk.1 rfl) hk.put.2⟩
end Go.Proofs.YtlgajongmkhcnaaGreatDoor
namespace Go.Proofs.YtlgajongmkhcnaaGreatDoor
open Go.RowKit Go.Sort
set_option linter.unusedVariables false
set_option maxRecDepth 100000
theorem Z7W (i : Nat) (x : Int) (b : List Int) (k : Nat) (l : List Int) : (Z4y i x b k l).length = l.length := by
 induction k with
 | zero => rfl
 | succ k ih => rw [Z3V]; dsimp only; split <;> simp [ih]
theorem Z5a (a b : List Int) (k : Nat) : (Z2o a b k).length = a.length + b.length - 1 := by
 induction k with
 | zero => simp [Z2o]
 | succ k ih => rw [Z3U]; split <;> simp [ih, Z7W]
theorem Z2V {l : List Int} {i : Nat} (h : i < l.length) : ent l i = l[i] := by unfold ent; rw [Z2, Z3 h]; rfl
theorem ZgD (xs ys : List Int) (va vb : Value) (w : World) (hx : RdInts w va xs) (hy : RdInts w vb ys) (h1 : 1 <= xs.length) (h2 : 1 <= ys.length) (h3 : xs.length + ys.length <= 100000)
 (bx : ∀ x ∈ xs, -1 <= x /\ x <= 1000000000000) (by_ : ∀ y ∈ ys, -1 <= y /\ y <= 1000000000000) :
 Calls Tryz.prog 133 #[va, vb] w fun e w' => ∃ g, e = .returned (.slice (some ⟨g, 0, none⟩) (xs.length + ys.length - 1) (xs.length + ys.length - 1)) /\ w.1.size <= g /\ IntsAt w' g (Z2I xs ys) /\ Below w.1.size w w' := by
 obtain ⟨a, ca, rfl, hax⟩ := hx
 obtain ⟨b, cb, rfl, hby⟩ := hy
 obtain ⟨gx, ox, rfl, hgx, hcx⟩ := hax (by omega)
 obtain ⟨gy, oy, rfl, hgy, hcy⟩ := hby (by omega)
 have HX := Z0 hcx
 have HY := Z0 hcy
 have HBX := Z0 bx
 have HBY := Z0 by_
 clear hax hby hcx hcy bx by_
 obtain ⟨n, hn⟩ : ∃ n, n = xs.length + ys.length - 1 := ⟨_, rfl⟩
 rw [<- hn]
 have hni : ((xs.length : Int) + (ys.length : Int) - 1) = (n : Int) := by omega
 have HNI := Z0 hni
 clear hni
 go_enter Tryz.func133, Tryz.ntmps133
 go_wp2_with (go_at_call 100; rw [HNI.out]; refine (Z50 (-1) n w.1.size 0 1 _ (by omega) (by simp [go_sem]) (by simp)).mono ?_; rintro e w1 ⟨g, rfl, hg, hI, hb⟩)
 have hB : Below w.1.size w w1 := Z0k (Z9 _ w) (Z1 _) hb
 have hg' : w.1.size <= g := by simp at hg; omega
 clear hg hb
 have hI0 : IntsAt w1 g (Z2o xs ys 0) := by unfold Z2o; rw [<- hn]; exact hI
 clear hI
 go_loopw [20] (fun i wr => ∃ k : Nat, k <= xs.length /\ i = .int .i64 k /\ Below w.1.size w wr /\ IntsAt wr g (Z2o xs ys k)) (fun i _ => xs.length - (intOf i).toNat)
 case atStart => exact ⟨0, ZE _, rfl, hB, hI0⟩
 case round =>
  clear hB hI0
  obtain ⟨k, hk, rfl, hB, hI⟩ := hrel
  by_cases hlt : k < xs.length
  ·have c1 : wr.cell? ⟨gx, ox + k, none⟩ = some (.int .i64 xs[k]) := (hB.cell (p := ⟨gx, ox + k, none⟩) hgx).trans (HX.out k hlt)
   have bxk := HBX.out _ (Z4 hlt)
   have hs := Z3U xs ys k
   have hlen := Z5a xs ys k
   rw [Z2V hlt] at hs
   obtain ⟨x, hx⟩ : ∃ x, x = xs[k] := ⟨_, rfl⟩
   rw [<- hx] at c1 bxk hs
   clear hx
   by_cases hx1 : x = -1
   ·rw [if_pos hx1] at hs
    have hq : (x == -1) = true := by simp [hx1]
    have HS := Z0 hs
    clear hs
    go_wp2_with fail
    go_roundw
    case rel => exact ⟨k + 1, by omega, by go_num, hB, by rw [HS.out]; exact hI⟩
    case measure => simp [intOf]; omega
   ·rw [if_neg hx1] at hs
    have hq : (x == -1) = false := by simp [hx1]
    have HS := Z0 hs
    clear hs
    go_wp2_with fail
    obtain ⟨L, hL⟩ : ∃ L, L = Z2o xs ys k := ⟨_, rfl⟩
    rw [<- hL] at hI hlen HS
    clear hL
    go_loopw [29] (fun j wq => ∃ m : Nat, m <= ys.length /\ j = .int .i64 m /\ Below w.1.size w wq /\ IntsAt wq g (Z4y k x ys m L)) (fun j _ => ys.length - (intOf j).toNat)
    case atStart => exact ⟨0, ZE _, rfl, hB, hI⟩
    case round =>
     clear hB hI c1
     obtain ⟨m, hm, rfl, hB, hI⟩ := hrel
     by_cases hltm : m < ys.length
     ·have c2 : wr.cell? ⟨gy, oy + m, none⟩ = some (.int .i64 ys[m]) := (hB.cell (p := ⟨gy, oy + m, none⟩) hgy).trans (HY.out m hltm)
      have byk := HBY.out _ (Z4 hltm)
      have hs := Z3V k x ys m L
      have hlen2 := Z7W k x ys m L
      dsimp only at hs
      rw [Z2V hltm] at hs
      obtain ⟨y, hy⟩ : ∃ y, y = ys[m] := ⟨_, rfl⟩
      rw [<- hy] at c2 byk hs
      clear hy
      by_cases hy1 : y = -1
      ·rw [if_pos hy1] at hs
       have hq2 : (y != -1) = false := by simp [hy1]
       have HS2 := Z0 hs
       clear hs
       go_wp2_with fail
       go_roundw
       case rel => exact ⟨m + 1, by omega, by go_num, hB, by rw [HS2.out]; exact hI⟩
       case measure => simp [intOf]; omega
      ·rw [if_neg hy1] at hs
       have hq2 : (y != -1) = true := by simp [hy1]
       have HS2 := Z0 hs
       clear hs
       obtain ⟨M, hM⟩ : ∃ M, M = Z4y k x ys m L := ⟨_, rfl⟩
       rw [<- hM] at hI hlen2 HS2
       clear hM
       have c3 := hI.cell (i := k + m) (by omega)
       have c4 := hI.free (k + m)
       obtain ⟨z, hz⟩ : ∃ z, z = M.getD (k + m) (-1) := ⟨_, rfl⟩
       rw [<- hz] at c3
       have HZ := Z0 hz
       clear hz
       go_wp2_with fail
       go_roundw
       case rel => exact ⟨m + 1, by omega, by go_num, hB.setCell (p := ⟨g, k + m, none⟩) hg' _, by rw [HS2.out, show ent M (k + m) = z from HZ.out.symm]; exact hI.set _ _⟩
       case measure => simp [intOf]; omega
     ·obtain rfl : m = ys.length := by omega
      go_wp2_with fail
      go_roundw
      case rel => exact ⟨k + 1, by omega, by go_num, hB, by rw [HS.out]; exact hI⟩
      case measure => simp [intOf]; omega
  ·obtain rfl : k = xs.length := by omega
   go_wp2_with fail
   go_ret
   exact ⟨g, by rw [hn]; rfl, hg', hI, hB⟩
end Go.Proofs.YtlgajongmkhcnaaGreatDoor
namespace Go.Proofs.YtlgajongmkhcnaaGreatDoor
open Go.RowKit Go.Sort Go.Shelf Go.IntWalk
attribute [local go_sem] Oper.semAt_some
set_option linter.unusedVariables false
set_option maxRecDepth 100000
def SavAt (w : World) (X Y : Nat) (passes mn cents : Int) : Prop :=
 w.cell? ⟨X, 0, none⟩ = some (.int .i64 passes) /\ w.cell? ⟨Y, 3, none⟩ = some (.int .i64 mn) /\ w.cell? ⟨Y, 4, none⟩ = some (.int .i64 cents)
theorem SavAt.below {w w' : World} {X Y B : Nat} {p m c : Int} (h : SavAt w X Y p m c) (hb : Below B w w') (hX : X < B) (hY : Y < B) : SavAt w' X Y p m c :=
 ⟨(hb.cell (p := ⟨X, 0, none⟩) hX).trans h.1, (hb.cell (p := ⟨Y, 3, none⟩) hY).trans h.2.1, (hb.cell (p := ⟨Y, 4, none⟩) hY).trans h.2.2⟩
theorem Z4X (come passes mn cents : Int) (X Y : Nat) (w : World) (h : SavAt w X Y passes mn cents) (hp : 0 <= passes /\ passes <= 1000000) (hc : 0 <= come /\ come <= 1000000) (hcc : 0 <= cents /\ cents <= 1000000) :
 Calls Tryz.prog 131 #[.int .i64 come, .pointer (some ⟨X, 0, none⟩), .pointer (some ⟨Y, 0, none⟩)] w fun e w' => e = .returned (.int .i64 (Z0h mn cents passes come)) /\ w = w' := by
 obtain ⟨c1, c2, c3⟩ := h
 unfold Z0h
 obtain ⟨t, ht⟩ : ∃ t, t = come - passes := ⟨_, rfl⟩
 rw [<- ht]
 have hmul : 0 <= t -> 0 <= t * cents /\ t * cents <= 1000000000000 := fun h0 => by
  refine ⟨Int.mul_nonneg h0 hcc.1, ?_⟩
  have h1 : t * cents <= 1000000 * 1000000 := Int.mul_le_mul (by omega) hcc.2 hcc.1 (by omega)
  omega
 have HT := Z0 ht
 by_cases h1 : t < 0
 ·rw [if_pos (.inl h1)]
  go_enter Tryz.func131, Tryz.ntmps131
  go_wp2_with fail
  rw [<- HT.out]
  go_wp2_with fail
  go_ret
  exact ⟨rfl, rfl⟩
 ·by_cases h2 : 0 < t /\ t < mn
  ·rw [if_pos (.inr h2)]
   obtain ⟨h2, h3⟩ := h2
   go_enter Tryz.func131, Tryz.ntmps131
   go_wp2_with fail
   rw [<- HT.out]
   go_wp2_with fail
   go_ret
   exact ⟨rfl, rfl⟩
  ·rw [if_neg (by omega)]
   obtain ⟨hm1, hm2⟩ := hmul (by omega)
   by_cases h4 : 0 < t
   ·have h5 : ¬ t < mn := by omega
    go_enter Tryz.func131, Tryz.ntmps131
    go_wp2_with fail
    rw [<- HT.out]
    go_wp2_with fail
    go_ret
    exact ⟨Z6b (k := .i64) (wrap64_in _ (by omega)), rfl⟩
   ·go_enter Tryz.func131, Tryz.ntmps131
    go_wp2_with fail
    rw [<- HT.out]
    go_wp2_with fail
    go_ret
    exact ⟨Z6b (k := .i64) (wrap64_in _ (by omega)), rfl⟩
def KC (Lb : Nat) (A B : World) : Prop := A.1.size <= B.1.size /\ ∀ k c t fr, (k ≠ Lb \/ t ≠ 35) -> A.1[k]? = some (.cells c t fr) -> B.1[k]? = some (.cells c t fr)
theorem KC.trans {Lb : Nat} {A B C : World} (h : KC Lb A B) (h' : KC Lb B C) : KC Lb A C :=
 ⟨Nat.le_trans h.1 h'.1, fun k c t fr hk ha => h'.2 k c t fr hk (h.2 k c t fr hk ha)⟩
theorem KC.below {Lb : Nat} {A B : World} (h : Below A.1.size A B) : KC Lb A B :=
 ⟨h.size, fun k c t fr _ ha => (h.block k (Z5.1 ha).1).trans ha⟩
theorem KC.put {Lb : Nat} {W : World} {l : Nat} {o o' : Obj} (hl : W.1[l]? = some o) (ho : o.isCells = false) : KC Lb W (W.putObj l o') := by
 have hg := grownBy_putObj' W l o'
 refine ⟨hg.size, fun k c t fr _ ha => (hg.block k (Z5.1 ha).1 (fun e => ?_)).trans ha⟩
 cases e
 rw [hl] at ha; cases ha; cases ho
theorem RowJ.kc {Lb base : Nat} {A B : World} {v : Value} {zs : List Int} (h : RowJ A base v zs) (hk : KC Lb A B) : RowJ B base v zs := by
 obtain ⟨a, cap, hv, hc⟩ := h
 refine ⟨a, cap, hv, fun h0 => ?_⟩
 obtain ⟨g, off, cur, ha, hb, hh, hcc⟩ := hc h0
 exact ⟨g, off, cur, ha, hb, hk.2 g cur _ _ (.inr (by decide)) hh, hcc⟩
def RdRowsX (Lb : Nat) (w : World) (base : Nat) (v : Value) (ts : List (List Int)) : Prop := RdRows w base v ts /\ ∀ g off n c, 0 < ts.length -> v = .slice (some ⟨g, off, none⟩) n c -> g ≠ Lb
theorem RdRowsX.kc {Lb base : Nat} {A B : World} {v : Value} {ts : List (List Int)} (h : RdRowsX Lb A base v ts) (hk : KC Lb A B) : RdRowsX Lb B base v ts := by
 obtain ⟨⟨a, cap, hv, hc⟩, hne⟩ := h
 refine ⟨⟨a, cap, hv, fun h0 => ?_⟩, hne⟩
 obtain ⟨g, off, ha, ⟨cur, hg⟩, hcc⟩ := hc h0
 have hg' := hk.2 g cur _ _ (.inl (hne g off _ _ h0 (by rw [hv, ha]))) hg
 refine ⟨g, off, ha, ⟨cur, hg'⟩, fun i hi => ?_⟩
 obtain ⟨u, h1, h2⟩ := hcc i hi
 refine ⟨u, ?_, h2.kc hk⟩
 rw [cell_of_row B g (off + i) _ _ _ hg', <- cell_of_row A g (off + i) _ _ _ hg]
 exact h1
theorem RdRowsX.below {Lb base : Nat} {A B : World} {v : Value} {ts : List (List Int)} (h : RdRowsX Lb A base v ts) (hb : Below A.1.size A B) : RdRowsX Lb B base v ts := ⟨h.1.below hb, h.2⟩
theorem Boxed.kc {Lb C : Nat} {A B : World} {t : TypeId} {v : Value} (h : Boxed A C t v) (hk : KC Lb A B) (hC : C ≠ Lb) : Boxed B C t v := hk.2 C _ _ _ (.inl hC) h
structure Yld (n : Nat) where
 i : Nat
 hi : i < n
 a : Option Addr
 len : Nat
 cap : Nat
def Yld.sl {n : Nat} (x : Yld n) : Value := .slice x.a x.len x.cap
def MergS (base : Nat) (ts : List (List Int)) (xs : List (Yld ts.length)) (W : World) : Prop :=
 xs.length = ts.length /\ ∀ k (h : k < xs.length), xs[k].i = ts.length - 1 - k /\ RowJ W base xs[k].sl (Z05 ts (k + 1))
theorem MergS.own (base B : Nat) (ts : List (List Int)) : OwnFrom B (MergS base ts) := fun s W W' row hs hg hr =>
 ⟨hs.1, fun k h => ⟨(hs.2 k h).1, (hs.2 k h).2.kept hg (fun g e => .inr (fun cur fr hh => by
  obtain ⟨_, o, ho, hc⟩ := hr g e
  rw [hh] at ho; cases ho; cases hc))⟩⟩
structure MOk (ts : List (List Int)) : Prop where
 n : ts.length <= 5000
 one : ∀ t ∈ ts, 1 <= t.length /\ t.length <= 5000 /\ ∀ x ∈ t, -1 <= x /\ x <= 1000000000000
 all : ∀ k, k <= ts.length -> 1 <= (Z05 ts k).length /\ (Z05 ts k).length <= 5000 /\ ∀ x ∈ Z05 ts k, -1 <= x /\ x <= 1000000000000
theorem Z5t (B base Lb : Nat) (v : Value) (ts : List (List Int)) (w : World) (hM : MOk ts) (hb : Boxed w B 109 v) (hR : RdRowsX Lb w base v ts) (hL : B ≠ Lb) (hbase : base <= w.1.size) :
 Zjc Tryz.prog 132 #[.pointer (some ⟨B, 0, none⟩)] (fun x : Yld ts.length => #[.int .i64 x.i, x.sl]) (KC Lb) (MergS base ts) (fun _ => True) B w := by
 intro l J Jx W hW hJ hJx hY h0
 replace hb : Boxed W B 109 v := (hW.block _ hb.lt).trans hb
 replace hR := hR.below hW
 replace hbase : base <= W.1.size := Nat.le_trans hbase hW.size
 clear hW
 have HY := Z0 hY
 have HJ := Z0 hJ
 have HM := Z0 hM
 have hn := hM.n
 obtain ⟨a, cap, rfl⟩ : ∃ a cap, v = .slice a ts.length cap := by obtain ⟨⟨a, cap, hv, _⟩, _⟩ := hR; exact ⟨a, cap, hv⟩
 refine callsIn_of_wp Tryz.func132 rfl trivial ?_ rfl
 simp only [Tryz.ntmps132, List.size_toArray, List.length_cons, List.length_nil, Nat.reduceAdd, Nat.reduceSub, Array.replicate_succ, Array.replicate_zero, List.push_toArray, List.append_toArray, List.nil_append, List.cons_append]
 have hj0 := hJ _ _ _ none h0 (World.grownBy_alloc W (.cells #[.int .i64 0] 3) none) (fun _ e => by cases e)
 have hI0 : IntsAt (W.alloc (.cells #[.int .i64 0] 3)) W.1.size (Z05 ts 0) := Z01 _ _
 have hr0 : RowJ (W.alloc (.cells #[.int .i64 0] 3)) base (.slice (some ⟨W.1.size, 0, none⟩) 1 1) (Z05 ts 0) := RowJ.of_ints hI0 hbase 1
 have hb0 := hb.alloc (.cells #[.int .i64 0] 3)
 have hR0 := hR.below ((Z9 _ W).alloc (Z1 _) (.cells #[.int .i64 0] 3))
 have hz0 : base <= (W.alloc (.cells #[.int .i64 0] 3)).1.size := by simp; omega
 have c1 := hb0.cell
 clear hY hJ hJx hM h0 hb hI0 hR
 gi_wp2_with fail
 clear c1
 gi_loopw [3, 4] (fun tb i wr => ∃ r : Nat, r <= ts.length /\ i = .int .i64 ((r : Int) - 1) /\ base <= wr.1.size /\ Boxed wr B 109 (.slice a ts.length cap) /\ RdRowsX Lb wr base (.slice a ts.length cap) ts /\ RowJ wr base tb (Z05 ts (ts.length - r)) /\
  ∃ pre : List (Yld ts.length), J pre wr /\ pre.length = ts.length - r /\ ∀ k (h : k < pre.length), pre[k].i = ts.length - 1 - k /\ RowJ wr base pre[k].sl (Z05 ts (k + 1))) (fun _ i _ => (intOf i + 1).toNat)
 case atStart => exact ⟨ts.length, Z1 _, rfl, hz0, hb0, hR0, by rw [Nat.sub_self]; exact hr0, [], hj0, by simp, fun k h => absurd h (by simp)⟩
 case round =>
  clear hz0 hb0 hR0 hr0 hj0
  obtain ⟨r, hr, rfl, hz, hb, hR, hT, pre, hj, hpl, hpre⟩ := hrel
  rcases r with _ | m
  ·gi_wp2_with fail
   go_end0
   refine ⟨⟨_, rfl⟩, .inl ⟨pre, ⟨by rw [hpl, Nat.sub_zero], hpre⟩, hj⟩⟩
  ·have e1 : (((m + 1 : Nat) : Int) - 1) = (m : Int) := by omega
   rw [e1]
   have c1 := hb.cell
   have hm : m < ts.length := by omega
   have hR' := hR
   obtain ⟨⟨a', cap', hv, hc⟩, _⟩ := hR'
   injection hv with q1 q2 q3
   subst q1; subst q3
   obtain ⟨g, off, rfl, ⟨cur, hg⟩, hcc⟩ := hc (by omega)
   obtain ⟨u, cu, hu⟩ := hcc m hm
   clear hcc hc
   have hnx : Z05 ts (ts.length - m) = Z2I ts[m] (Z05 ts (ts.length - (m + 1))) := by
    rw [show ts.length - m = (ts.length - (m + 1)) + 1 by omega]
    show Z2I (ts.getD (ts.length - 1 - (ts.length - (m + 1))) []) _ = _
    rw [show ts.length - 1 - (ts.length - (m + 1)) = m by omega, Z2, Z3 hm]
    rfl
   have HJN : Hid (Calls Tryz.prog 133 #[u, u3] wr fun e w' => ∃ (g L : Nat) (hi : m < ts.length), e = .returned (.slice (some ⟨g, 0, none⟩) L L) /\ RowJ w' base (.slice (some ⟨g, 0, none⟩) L L) (Z05 ts (ts.length - m)) /\ Below wr.1.size wr w') := by
    obtain ⟨l1, l2, l3⟩ := HM.out.one _ (Z4 hm)
    obtain ⟨k1, k2, k3⟩ := HM.out.all (ts.length - (m + 1)) (by omega)
    refine (ZgD ts[m] (Z05 ts (ts.length - (m + 1))) u u3 wr hu.rd hT.rd l1 k1 (by omega) l3 k3).mono ?_
    rintro e w' ⟨g, rfl, hg, hI, hb⟩
    refine ⟨g, _, hm, rfl, ?_, hb⟩
    rw [hnx]
    have hln : (Z2I ts[m] (Z05 ts (ts.length - (m + 1)))).length = ts[m].length + (Z05 ts (ts.length - (m + 1))).length - 1 := Z5a _ _ _
    rw [<- hln]
    exact RowJ.of_ints hI (by omega) _
   clear hu hnx e1
   have HT := Z0 hT
   have HPRE := Z0 hpre
   have HPL := Z0 hpl
   have HCU := Z0 hg
   clear hT hpre hpl hg
   gi_wp2_with (refine ⟨trivial, rfl, ?_⟩; gi_at_call 133; refine (callsIn_wide.2 HJN.out).mono ?_; rintro e w1 ⟨g1, L, hi, rfl, hT1, hb1⟩; have hj1 := HJ.out _ _ _ none hj (Z0a hb1) (fun _ e => by cases e); obtain ⟨fn, tmps, assign, body, hy, hRR⟩ := HY.out _ ⟨m, hi, some ⟨g1, 0, none⟩, L, L⟩ _ hj1; dsimp only [Yld.sl] at hy; have HRR := Z0 hRR; clear hRR)
   refine ⟨rfl, HRR.out.mono ?_⟩
   rintro e W3 (⟨rfl, hJ3, hk3⟩ | ⟨rfl, hJx3⟩)
   ·have hkc := (KC.below (Lb := Lb) hb1).trans hk3
    gi_wp2_with fail
    go_roundw
    case rel =>
     refine ⟨m, by omega, by go_num, Nat.le_trans hz hkc.1, Boxed.kc hb hkc hL, hR.kc hkc, hT1.kc hk3, _, hJ3, by rw [ZC, HPL.out]; simp; omega, fun k h => ?_⟩
     have hpl := HPL.out
     by_cases hk : k < pre.length
     ·rw [List.getElem_append_left hk]
      exact ⟨(HPRE.out k hk).1, (HPRE.out k hk).2.kc hkc⟩
     ·have hke : k = pre.length := by rw [ZC] at h; simp at h; omega
      subst hke
      rw [List.getElem_append_right (Z1 _)]
      simp only [Nat.sub_self, List.getElem_cons_zero]
      refine ⟨by omega, ?_⟩
      rw [show pre.length + 1 = ts.length - m by omega]
      exact hT1.kc hk3
    case measure => simp [intOf]
   ·gi_wp2_with fail
    refine bodyPost_ret (results_none rfl _ _ _) rfl ?_
    exact ⟨⟨_, rfl⟩, .inr ⟨_, trivial, hJx3⟩⟩
theorem Z7P (a : Option Addr) (n c : Nat) (w : World) : Calls Tryz.prog 102 #[.slice a n c] w fun e w' => e = .returned (.func (.func 132) #[] #[.pointer (some ⟨w.1.size, 0, none⟩)]) /\ w.alloc (.cells #[.slice a n c] 109) = w' := by
 go_enter Tryz.func102, Tryz.ntmps102
 go_wp2
 go_ret
 exact ⟨rfl, rfl⟩
theorem Z9d (l : Lev) (sv : Value) (passes : Int) (w : World) : Calls Tryz.prog 101 #[lvA l sv, .int .i64 passes] w fun e w' => e = .returned (.func (.func 131) #[] #[.pointer (some ⟨w.1.size + 1, 0, none⟩), .pointer (some ⟨w.1.size, 0, none⟩)]) /\
 (w.alloc (Z5H l sv)).alloc (.cells #[.int .i64 passes] 3) = w' := by
 unfold lvA Z5H
 go_enter Tryz.func101, Tryz.ntmps101
 go_wp2
 go_ret
 exact ⟨rfl, rfl⟩
end Go.Proofs.YtlgajongmkhcnaaGreatDoor
namespace Go.Proofs.YtlgajongmkhcnaaGreatDoor
open Go.RowKit Go.Sort Go.Shelf Go.IntWalk
set_option linter.unusedVariables false
set_option maxRecDepth 100000
theorem Tryz.infoSl : (Tryz.prog.info? 35).map (fun i => (i.zero, i.size, i.bytes)) = some (some (.slice none 0 0), 1, 24) := by kernel_rfl
def pOf (x : Grp) : PGrp := ⟨x.lvl, x.up, x.items⟩
def Z0m (Gs : List Grp) : List PGrp := Gs.map pOf
theorem Z1M (Gs : List Grp) : (Z0m Gs).length = Gs.length := by unfold Z0m; simp
theorem Z2q {Gs : List Grp} {g : Nat} (h : g < Gs.length) : Z0c (Z0m Gs) g = pOf Gs[g] := by
 unfold Z0c Z0m
 rw [Z2, List.getElem?_map, Z3 h]
 rfl
def TreeAt (w : World) (T : Nat) (v vg : Value) (n BB TB PB : Nat) : Prop :=
 w.1[T]? = some (.cells #[v, vg, .slice (some ⟨BB, 0, none⟩) n n, .slice (some ⟨TB, 0, none⟩) n n, .slice (some ⟨PB, 0, none⟩) n n] 153 (0, 0))
structure TreeW (w : World) (T BB TB PB base : Nat) (v vg : Value) (Gs : List Grp) (tabs : Nat -> List Int) (m : Nat) (ps : List Int) : Prop where
 tr : TreeAt w T v vg Gs.length BB TB PB
 bl : ∃ f : Nat -> Value, w.rowIs BB 35 Gs.length f /\ ∀ g, g < Gs.length -> RowJ w base (f g) ((Z04 (Z0m Gs) g).map Int.ofNat)
 tb : ∃ f : Nat -> Value, w.rowIs TB 35 Gs.length f /\ ∀ g, g < m -> RowJ w base (f g) (tabs g)
 pv : IntsAt w PB ps
 pl : ps.length = Gs.length
 lt : T < base /\ BB < base /\ TB < base /\ PB < base /\ base <= w.1.size
 ne : T ≠ BB /\ T ≠ TB /\ T ≠ PB /\ BB ≠ TB /\ BB ≠ PB /\ TB ≠ PB
 gr : RdGrps w vg Gs
theorem Z0U {w w' : World} {b : Nat} {t : TypeId} {n : Nat} {f : Nat -> Value} {B : Nat} (h : w.rowIs b t n f) (hb : Below B w w') (hB : b < B) : w'.rowIs b t n f := h.of_block (hb.block b hB)
theorem TreeW.below {w w' : World} {T BB TB PB base : Nat} {v vg : Value} {Gs : List Grp} {tabs : Nat -> List Int} {m : Nat} {ps : List Int} (h : TreeW w T BB TB PB base v vg Gs tabs m ps) (hb : Below w.1.size w w') : TreeW w' T BB TB PB base v vg Gs tabs m ps := by
 obtain ⟨l1, l2, l3, l4, l5⟩ := h.lt
 obtain ⟨f, f1, f2⟩ := h.bl
 obtain ⟨k, k1, k2⟩ := h.tb
 exact ⟨(hb.block T (by omega)).trans h.tr, ⟨f, Z0U f1 hb (by omega), fun g hg => (f2 g hg).below hb⟩, ⟨k, Z0U k1 hb (by omega), fun g hg => (k2 g hg).below hb⟩,
  (hb.block PB (by omega)).trans h.pv, h.pl, ⟨l1, l2, l3, l4, Nat.le_trans l5 hb.size⟩, h.ne, h.gr.below hb⟩
theorem TreeAt.c {w : World} {T : Nat} {v vg : Value} {n BB TB PB : Nat} (h : TreeAt w T v vg n BB TB PB) : w.cell? ⟨T, 0, none⟩ = some v /\ w.cell? ⟨T, 1, none⟩ = some vg /\ w.cell? ⟨T, 2, none⟩ = some (.slice (some ⟨BB, 0, none⟩) n n) /\
 w.cell? ⟨T, 3, none⟩ = some (.slice (some ⟨TB, 0, none⟩) n n) /\ w.cell? ⟨T, 4, none⟩ = some (.slice (some ⟨PB, 0, none⟩) n n) :=
 ⟨cell_of_row w T 0 _ _ _ h, cell_of_row w T 1 _ _ _ h, cell_of_row w T 2 _ _ _ h, cell_of_row w T 3 _ _ _ h, cell_of_row w T 4 _ _ _ h⟩
theorem Z3J (w : World) (u : Value) (T : TypeId) : ∀ j x, ([u])[j]? = some x -> (w.alloc (.cells #[u] T)).cell? ((⟨w.1.size, 0, none⟩ : Addr).add j) = some x := Z0f w [u] T
theorem Z9q (T BB TB PB base : Nat) (v vg : Value) (Gs : List Grp) (tabs : Nat -> List Int) (m : Nat) (ps : List Int) (g : Nat) (w : World) (h : TreeW w T BB TB PB base v vg Gs tabs m ps) (hg : g < Gs.length) (hn : Gs.length <= 100000)
 (hsub : ∀ x ∈ Z04 (Z0m Gs) g, x < m) (hm : m <= Gs.length) :
 Calls Tryz.prog 103 #[.pointer (some ⟨T, 0, none⟩), .int .i64 g] w fun e w' => ∃ a cap, e = .returned (.slice a (Z04 (Z0m Gs) g).length cap) /\ Below w.1.size w w' /\
  RdRows w' base (.slice a (Z04 (Z0m Gs) g).length cap) ((Z04 (Z0m Gs) g).map tabs) /\ ∀ b off, a = some ⟨b, off, none⟩ -> w.1.size <= b := by
 obtain ⟨l1, l2, l3, l4, l5⟩ := h.lt
 obtain ⟨fB, f1, f2⟩ := h.bl
 obtain ⟨fT, k1, k2⟩ := h.tb
 obtain ⟨c0, c1, c2, c3, c4⟩ := h.tr.c
 have hrow := f2 g hg
 have cb := f1.cell hg
 have hsl : (Z04 (Z0m Gs) g).length <= 100000 := by
  unfold Z04
  refine Nat.le_trans (List.length_filter_le _ _) ?_
  rw [List.length_range, Z1M]; exact hn
 obtain ⟨subs, hS⟩ : ∃ s, s = Z04 (Z0m Gs) g := ⟨_, rfl⟩
 rw [<- hS] at hrow hsub hsl ⊢
 clear hS
 obtain ⟨aB, capB, hfb⟩ := hrow.len
 rw [hfb] at cb
 rw [Z7] at cb hfb
 have hrd := hrow.rd
 rw [hfb] at hrd
 obtain ⟨a', cap', hv', hcc⟩ := hrd
 have q1 : aB = a' := by injection hv'
 subst q1
 clear hv' hfb hrow f2
 obtain ⟨j0, hj⟩ := info_parts Tryz.infoSl
 have HJ := Z0 hj
 have HCC := Z0 hcc
 have HK2 := Z0 k2
 have HSUB := Z0 hsub
 clear hj hcc k2 hsub c0 c1 c4 h f1
 go_enter Tryz.func103, Tryz.ntmps103
 go_wp2_with fail
 go_loopw [5, 16] (fun lv i wr => ∃ k : Nat, k <= subs.length /\ i = .int .i64 k /\ Below w.1.size w wr /\ wr.ownsRow w.1.size 35 1 lv k ((subs.take k).map fT)) (fun _ i _ => subs.length - (intOf i).toNat)
 case atStart => exact ⟨0, ZE _, rfl, Z9 _ _, World.ownsRow_nil _ _ _ _⟩
 case round =>
  clear c2 cb
  obtain ⟨k, hk, rfl, hB, hO⟩ := hrel
  by_cases hlt : k < subs.length
  ·obtain ⟨gb, ob, rfl, hgb, hcb⟩ := HCC.out (by rw [Z7]; omega)
   have cs : wr.cell? ⟨gb, ob + k, none⟩ = some (.int .i64 (subs[k] : Int)) := (hB.cell (p := ⟨gb, ob + k, none⟩) hgb).trans (by rw [hcb k (by rw [Z7]; exact hlt), List.getElem_map]; rfl)
   have hsk := HSUB.out _ (Z4 hlt)
   have htk : (subs.take (k + 1)).map fT = (subs.take k).map fT ++ [fT subs[k]] := by rw [Z8 hlt, ZD]; rfl
   have HTK := Z0 htk
   have c3' : wr.cell? ⟨T, 3, none⟩ = some (.slice (some ⟨TB, 0, none⟩) Gs.length Gs.length) := (hB.cell (p := ⟨T, 3, none⟩) (by show T < _; omega)).trans c3
   have ct : wr.cell? ⟨TB, subs[k], none⟩ = some (fT subs[k]) := (hB.cell (p := ⟨TB, subs[k], none⟩) (by show TB < _; omega)).trans (k1.cell (by omega))
   obtain ⟨at_, capt, hft⟩ := (HK2.out _ hsk).len
   rw [hft] at ct
   have HFT := Z0 hft
   clear hcb htk hft
   obtain ⟨s, hs⟩ : ∃ s, s = subs[k] := ⟨_, rfl⟩
   rw [<- hs] at cs ct hsk HFT HTK
   clear hs
   have hsn : s < Gs.length := by omega
   obtain ⟨tl, htl⟩ : ∃ t, t = (tabs s).length := ⟨_, rfl⟩
   rw [<- htl] at ct HFT
   clear htl
   have hO' := hO
   rcases Joins.ownsRow_forms hO' with ⟨rfl, hp⟩ | ⟨g2, cap2, rfl⟩
   ·have HP := Z0 hp
    clear hp
    go_wp2_with (at_builtin; refine wpList_append_own _ rfl _ _ 109 rfl w.1.size 35 j0 (.slice none 0 0) 1 24 Tryz.underlying109 HJ.out.1 HJ.out.2.1 HJ.out.2.2.1 HJ.out.2.2.2 rfl (by decide) _ _ _ rfl (hO.alloc _) ⟨wr.1.size, 0, none⟩ 1 1 [.slice at_ tl capt] rfl rfl (Z3J _ _ _) (by simp [Value.oneCell']) (by unfold maxLen; omega) (by omega) (by have := hB.size; simp; omega) ?_; intro v' w5 hown' hgrow _)
    go_roundw
    case rel =>
     refine ⟨k + 1, by omega, by go_num, ?_, ?_⟩
     ·exact (hB.alloc hB.size _).grown hgrow (by have := hB.size; simp; omega) (fun r e => by have := (hO.lt r e).1; omega)
     ·rw [HTK.out, HFT.out]
      exact hown'
    case measure => simp [intOf]; omega
   ·go_wp2_with (at_builtin; refine wpList_append_own _ rfl _ _ 109 rfl w.1.size 35 j0 (.slice none 0 0) 1 24 Tryz.underlying109 HJ.out.1 HJ.out.2.1 HJ.out.2.2.1 HJ.out.2.2.2 rfl (by decide) _ _ _ rfl (hO.alloc _) ⟨wr.1.size, 0, none⟩ 1 1 [.slice at_ tl capt] rfl rfl (Z3J _ _ _) (by simp [Value.oneCell']) (by unfold maxLen; omega) (by omega) (by have := hB.size; simp; omega) ?_; intro v' w5 hown' hgrow _)
    go_roundw
    case rel =>
     refine ⟨k + 1, by omega, by go_num, ?_, ?_⟩
     ·exact (hB.alloc hB.size _).grown hgrow (by have := hB.size; simp; omega) (fun r e => by have := (hO.lt r e).1; omega)
     ·rw [HTK.out, HFT.out]
      exact hown'
    case measure => simp [intOf]; omega
  ·obtain rfl : k = subs.length := by omega
   rw [List.take_length] at hO
   have HO := Z0 hO
   rcases Joins.ownsRow_forms hO with ⟨rfl, hp⟩ | ⟨g2, cap2, rfl⟩
   ·go_wp2_with fail
    go_ret
    refine ⟨none, 0, by rw [hp]; rfl, hB, ⟨none, 0, by rw [Z7], fun h0 => by rw [Z7] at h0; omega⟩, fun b off e => by cases e⟩
   ·go_wp2_with fail
    go_ret
    refine ⟨_, cap2, rfl, hB, ⟨_, cap2, by rw [Z7], fun h0 => ?_⟩, fun b off e => by cases e; exact (HO.out.lt g2 rfl).1⟩
    refine ⟨g2, 0, rfl, ?_, fun i hi => ?_⟩
    ·obtain ⟨_, hv | ⟨g3, cap3, cur, e3, hb3, hh3, _⟩⟩ := HO.out
     ·exact absurd hv.1 (by simp)
     ·injection e3 with e3 _ _
      injection e3 with e3
      injection e3 with e3 _
      subst e3
      exact ⟨cur, hh3⟩
    ·rw [Z7] at hi
     refine ⟨fT subs[i], ?_, ?_⟩
     ·rw [Nat.zero_add, HO.out.cellAt i (by omega), List.getElem?_map, Z3 hi]; rfl
     ·rw [List.getElem_map]
      exact (HK2.out _ (HSUB.out _ (Z4 hi))).below hB
end Go.Proofs.YtlgajongmkhcnaaGreatDoor
namespace Go.Proofs.YtlgajongmkhcnaaGreatDoor
open Go.RowKit Go.Sort Go.Shelf Go.IntWalk
attribute [local go_sem] Oper.semAt_some
set_option linter.unusedVariables false
set_option maxRecDepth 100000
theorem KC.refl (Lb : Nat) (A : World) : KC Lb A A := ⟨Z1 _, fun _ _ _ _ _ h => h⟩
theorem KC.set {Lb : Nat} {A : World} {v : Value} (u : Value) (h : Boxed A Lb 35 v) : KC Lb A (A.setCell ⟨Lb, 0, none⟩ u) := by
 have hg := grownBy_setCell' A Lb u
 refine ⟨hg.size, fun k c t fr hk ha => ?_⟩
 by_cases e : k = Lb
 ·subst e
  rw [show A.1[k]? = _ from h] at ha
  injection ha with ha
  injection ha with _ ha _
  subst ha
  simp at hk
 ·exact (hg.block k (Z5.1 ha).1 (fun e' => e (by injection e'))).trans ha
def ZaT {n : Nat} (xs : List (Yld n)) : Value := match xs.getLast? with | none => .slice none 0 0 | some x => x.sl
theorem Zd5 {n : Nat} (xs : List (Yld n)) (x : Yld n) : ZaT (xs ++ [x]) = x.sl := by unfold ZaT; simp
def ComeI (w : World) {n : Nat} (xs : List (Yld n)) (W : World) : Prop := Boxed W w.1.size 35 (ZaT xs) /\ Below w.1.size w W
theorem ComeI.keep {w A B : World} {n : Nat} {xs : List (Yld n)} {row : Option Nat} (h : ComeI w xs A) (hg : A.grownBy B row) (hr : ∀ r, row = some r -> w.1.size < r) : ComeI w xs B :=
 ⟨h.1.kept hg (fun e => by have := hr _ e.symm; omega), h.2.trans ((Z9 _ A).grown hg h.2.size (fun r e => by have := hr r e; omega))⟩
theorem ZfQ (n : Nat) : (List.replicate (n + 1) (-1 : Int)).set n 0 = List.replicate n (-1) ++ [0] := by
 rw [List.replicate_succ', List.set_append_right _ _ (by simp)]
 simp
theorem Zfe (T BB TB PB base : Nat) (v vg : Value) (Gs : List Grp) (tabs : Nat -> List Int) (m : Nat) (ps : List Int) (g : Nat) (w : World) (h : TreeW w T BB TB PB base v vg Gs tabs m ps) (hg : g < Gs.length) (hn : Gs.length <= 100000)
 (hl : Gs[g].lvl = 0) (hi : Gs[g].items.length <= 4000) (ts : List (List Int)) :
 Calls Tryz.prog 99 #[.pointer (some ⟨T, 0, none⟩), .int .i64 g] w fun e w' => ∃ a cap, e = .returned (.slice a (Z1S Gs[g].lvl Gs[g].items.length ts).length cap) /\ Below w.1.size w w' /\
  RowJ w' base (.slice a (Z1S Gs[g].lvl Gs[g].items.length ts).length cap) (Z1S Gs[g].lvl Gs[g].items.length ts) := by
 obtain ⟨l1, l2, l3, l4, l5⟩ := h.lt
 obtain ⟨c0, c1, c2, c3, c4⟩ := h.tr.c
 obtain ⟨ag, cg, rfl, hgr⟩ := h.gr
 obtain ⟨gg, og, rfl, hgg, hcg⟩ := hgr (by omega)
 obtain ⟨sv, hsv, g0, g1, g2, g3⟩ := hcg g hg
 have hcr : Z1S Gs[g].lvl Gs[g].items.length ts = List.replicate Gs[g].items.length (-1) ++ [0] := by unfold Z1S; rw [if_pos hl]
 rw [hcr]
 rw [hl] at g0
 obtain ⟨x, hx⟩ : ∃ x, x = Gs[g] := ⟨_, rfl⟩
 rw [<- hx] at hsv hi ⊢
 obtain ⟨ai, ci, rfl, _⟩ := hsv
 obtain ⟨n, hni⟩ : ∃ n, n = x.items.length := ⟨_, rfl⟩
 rw [<- hni] at g3 hi ⊢
 have hlen : (List.replicate n (-1 : Int) ++ [0]).length = n + 1 := by simp
 rw [hlen]
 clear hgr hcg c0 c2 c3 c4 h g1 g2 hx hcr hni hl
 have hb0 : Below w.1.size w (w.alloc (.cells #[.int .i64 (-1)] 3)) := (Z9 _ w).alloc (Z1 _) _
 have c1' := (hb0.cell (p := ⟨T, 1, none⟩) (by show T < _; omega)).trans c1
 have g3' := (hb0.cell (p := ⟨gg, og + g * 4 + 3, none⟩) hgg).trans g3
 go_enter Tryz.func99, Tryz.ntmps99
 go_wp2_with (go_at_call 100; refine (Z50 (-1) (n + 1) w.1.size 0 1 _ (by omega) (by simp [go_sem]) (by simp)).mono ?_; rintro e w1 ⟨b, rfl, hb, hI, hb1⟩; have d1 := hI.cell (i := n) (by simp); have d2 := hI.free n)
 go_ret
 refine ⟨_, n + 1, rfl, ?_, ?_⟩
 ·exact (Z0k (Z9 _ w) (Z1 _) hb1).setCell (p := ⟨b, n, none⟩) (by show w.1.size <= b; simp at hb; omega) _
 ·have := hI.set n 0
  rw [ZfQ] at this
  have h2 := RowJ.of_ints this (base := base) (by simp at hb; omega) (n + 1)
  rw [hlen] at h2
  exact h2
theorem Zfg (T BB TB PB base : Nat) (v vg : Value) (Gs : List Grp) (tabs : Nat -> List Int) (m : Nat) (ps : List Int) (g : Nat) (w : World) (h : TreeW w T BB TB PB base v vg Gs tabs m ps) (hg : g < Gs.length) (hn : Gs.length <= 100000)
 (hl : Gs[g].lvl ≠ 0) (hsub : ∀ x ∈ Z04 (Z0m Gs) g, x < m) (hm : m <= Gs.length) (hM : MOk ((Z04 (Z0m Gs) g).map tabs)) :
 Calls Tryz.prog 99 #[.pointer (some ⟨T, 0, none⟩), .int .i64 g] w fun e w' => ∃ a cap, e = .returned (.slice a (Z1S Gs[g].lvl Gs[g].items.length ((Z04 (Z0m Gs) g).map tabs)).length cap) /\ Below w.1.size w w' /\
  RowJ w' base (.slice a (Z1S Gs[g].lvl Gs[g].items.length ((Z04 (Z0m Gs) g).map tabs)).length cap) (Z1S Gs[g].lvl Gs[g].items.length ((Z04 (Z0m Gs) g).map tabs)) := by
 have hcr : Z1S Gs[g].lvl Gs[g].items.length ((Z04 (Z0m Gs) g).map tabs) = if ((Z04 (Z0m Gs) g).map tabs).length = 0 then [] else Z05 ((Z04 (Z0m Gs) g).map tabs) ((Z04 (Z0m Gs) g).map tabs).length := by unfold Z1S; rw [if_neg hl]
 obtain ⟨R, hR⟩ : ∃ R, R = Z1S Gs[g].lvl Gs[g].items.length ((Z04 (Z0m Gs) g).map tabs) := ⟨_, rfl⟩
 rw [<- hR] at hcr ⊢
 clear hR
 obtain ⟨l1, l2, l3, l4, l5⟩ := h.lt
 obtain ⟨c0, c1, c2, c3, c4⟩ := h.tr.c
 have hgr := h.gr
 obtain ⟨ag, cg, rfl, hgr⟩ := hgr
 obtain ⟨gg, og, rfl, hgg, hcg⟩ := hgr (by omega)
 obtain ⟨sv, hsv, g0, g1, g2, g3⟩ := hcg g hg
 obtain ⟨xx, hx⟩ : ∃ x, x = Gs[g].lvl := ⟨_, rfl⟩
 rw [<- hx] at g0 hl
 have hx0 : (xx == 0) = false := by simp [hl]
 have hb0 : Below w.1.size w (w.alloc (.cells #[.slice none 0 0] 35)) := (Z9 _ w).alloc (Z1 _) _
 have HP := Z0 (Z9q T BB TB PB base v _ Gs tabs m ps g (w.alloc (.cells #[.slice none 0 0] 35)) (h.below hb0) hg hn hsub hm)
 have htl : ((Z04 (Z0m Gs) g).map tabs).length = (Z04 (Z0m Gs) g).length := Z7 _
 obtain ⟨ts, hts⟩ : ∃ ts, ts = (Z04 (Z0m Gs) g).map tabs := ⟨_, rfl⟩
 rw [<- hts] at htl hM HP hcr
 have HCR := Z0 hcr
 clear hcr
 obtain ⟨sn, hsn⟩ : ∃ n, n = (Z04 (Z0m Gs) g).length := ⟨_, rfl⟩
 rw [<- hsn] at htl HP
 clear hgr hcg c0 c2 c3 c4 h g1 g2 g3 hsv hx hsub hts hsn
 subst htl
 refine (callsIn_wide (n := 0)).1 ?_
 refine callsIn_of_wp_marks Tryz.func99 rfl trivial ?_ rfl
 simp only [Tryz.ntmps99, List.size_toArray, List.length_cons, List.length_nil, Nat.reduceAdd, Nat.reduceSub, Array.replicate_succ, Array.replicate_zero, List.push_toArray, List.append_toArray, List.nil_append, List.cons_append]
 gi_wp2_with (first
  | (refine ⟨trivial, rfl, ?_⟩; gi_at_call 103; refine (callsIn_wide.2 HP.out).mono ?_; rintro e w1 ⟨ap, cp, rfl, hb1, hr1, hn1⟩)
  | (refine ⟨trivial, rfl, ?_⟩; gi_at_call 102; refine (callsIn_wide.2 (Z7P _ _ _ _)).mono ?_; rintro e w2 ⟨rfl, rfl⟩))
 have hlb : (w.alloc (.cells #[.slice none 0 0] 35)).1.size = w.1.size + 1 := by simp
 rw [hlb] at hn1
 have hB1 : Below w.1.size w w1 := Z00 hb0 (by omega) hb1
 have hsz := hb1.size
 rw [hlb] at hsz
 obtain ⟨W0, hW0⟩ : ∃ W0 : World, W0 = w1.alloc (.cells #[.slice ap ts.length cp] 109) := ⟨_, rfl⟩
 have hbx : Boxed W0 w1.1.size 109 (.slice ap ts.length cp) := by rw [hW0]; exact Boxed.new _ _ _
 have hWb : Below w1.1.size w1 W0 := by rw [hW0]; exact (Z9 _ w1).alloc (Z1 _) _
 have hWz : W0.1.size = w1.1.size + 1 := by rw [hW0]; simp
 have hI0 : ComeI w ([] : List (Yld ts.length)) W0 := by
  refine ⟨?_, Z00 hB1 hB1.size hWb⟩
  have b0 : Boxed (w.alloc (.cells #[.slice none 0 0] 35)) w.1.size 35 (.slice none 0 0) := Boxed.new _ _ _
  exact ((Z00 (Z9 _ _) (Z1 _) hb1).mono (Z1 _) |> fun h => (hWb.block w.1.size (by omega)).trans ((h.block w.1.size (by omega)).trans b0))
 have hR0 : RdRowsX w.1.size W0 base (.slice ap ts.length cp) ts := ⟨hr1.below hWb, fun b off n c _ e => by
  injection e with e _ _
  have := hn1 b off e
  omega⟩
 rw [<- hW0]
 clear hW0 hWb hr1 hn1 hb1 hb0 hB1 HP hlb c1 g0
 generalize w1.1.size = B at hbx hWz hsz ⊢
 have hMM := hM
 refine Z2j (gf := 132) (lb := #[.pointer (some ⟨B, 0, none⟩)]) rfl Tryz.call132 (Bs := B) (by omega) (Z5t B base w.1.size _ ts W0 hM hbx hR0 (by omega) (by omega)) (MergS.own _ _ _)
  (fun h k => h.trans k) (fun W l o o' hl hW hc => KC.put hW hc) (fun _ => rfl)
  (ComeI w) (fun _ _ _ => False)
  (fun s A B' row h hg hr => h.keep hg (fun r e => by obtain ⟨h1, _⟩ := hr r e; omega))
  (fun c s A B' row h _ _ => h)
  (fun s A B' row h hg hr => h.keep hg (fun r e => by have := hr r e; omega))
  (fun c s A B' row h _ _ => h)
  hI0
  (fun x a' W => a' = { tmps := #[.pointer (some ⟨T, 0, none⟩), .int .i64 g, undef, undef, .slice none 0 0, undef, .pointer (some ⟨w.1.size, 0, none⟩), undef, x.sl,
   .pointer (some ⟨T, 0, none⟩), .pointer (some ⟨T, 0, none⟩), .pointer (some ⟨T, 1, none⟩), .slice (some ⟨gg, og, none⟩) Gs.length cg, .int .i64 g, .pointer (some ⟨gg, og + g * 4, none⟩), .pointer (some ⟨gg, og + g * 4, none⟩), .int .i64 xx, .bool false,
   undef, undef, undef, undef, undef, undef, undef, undef, undef, undef, undef, undef, undef, undef, undef, undef, undef, undef, .pointer (some ⟨T, 0, none⟩), .int .i64 g, .slice ap ts.length cp,
   .func (.func 132) #[] #[.pointer (some ⟨B, 0, none⟩)], .int .i64 x.i, x.sl, undef, undef], defers := [] })
  (fun x a' s A B' row h _ _ => h) ?assign ?body ?done ?stop
 case assign =>
  intro l pre x W K hi hK
  gi_wp2
  exact hK _ _ (KeepsFrom.refl _ _) (KC.refl _ _) hi rfl
 case body =>
  rintro l pre x a' W hI rfl
  have c1 := hI.1.cell
  have c2 := hI.1.frozen
  obtain ⟨xi, xhi, xa, xl, xc⟩ := x
  dsimp only [Yld.sl]
  gi_wp2_with fail
  exact ⟨(KeepsOthers.setCell _ _ _).from _, KC.set _ hI.1, by rw [Zd5]; exact hI.1.set _, hI.2.setCell (p := ⟨w.1.size, 0, none⟩) (Z1 _) _⟩
 case done =>
  rintro D xs W hD ⟨hS1, hS2⟩ hI hK
  have c1 := hI.1.cell
  have hfin : ∃ a cap, ZaT xs = .slice a R.length cap /\ RowJ W base (ZaT xs) R := by
   rw [HCR.out]
   by_cases h0 : ts.length = 0
   ·rw [if_pos h0]
    obtain rfl : xs = [] := List.length_eq_zero_iff.1 (by omega)
    exact ⟨none, 0, rfl, RowJ.nil _ _ _ _⟩
   ·rw [if_neg h0]
    obtain ⟨_, h2⟩ := hS2 (xs.length - 1) (by omega)
    have e : ZaT xs = (xs[xs.length - 1]'(by omega)).sl := by
     unfold ZaT
     rw [List.getLast?_eq_getElem?, Z3 (by omega)]
    rw [show xs.length - 1 + 1 = ts.length by omega] at h2
    rw [e]
    obtain ⟨a, cap, hv⟩ := h2.len
    exact ⟨a, cap, hv, h2⟩
  obtain ⟨a, cap, hv, hrow⟩ := hfin
  rw [hv] at c1 hrow
  have HROW := Z0 hrow
  have hBB := hI.2
  clear hS2 hrow hv hM hMM
  gi_wp2_with fail
  refine ⟨by simp, .inl ⟨_, _, rfl, run_takeDeferred hK, ?_⟩⟩
  refine ⟨_, results_tmp rfl _ _ _, a, cap, rfl, hBB.grown (grownBy_putObj' _ _ _) hBB.size (fun k e => by cases e; omega), HROW.out.kept (grownBy_putObj' _ _ _) (fun g e => .inr (fun cur fr hh => ?_))⟩
  cases e
  rw [hK] at hh
  cases hh
 case stop =>
  rintro D c pre W hD hS hX hK
  exact hX.elim
theorem ZgQ (T BB TB PB base : Nat) (v vg : Value) (Gs : List Grp) (tabs : Nat -> List Int) (m : Nat) (ps : List Int) (g : Nat) (w : World) (h : TreeW w T BB TB PB base v vg Gs tabs m ps) (hg : g < Gs.length) (hn : Gs.length <= 100000)
 (hi : Gs[g].items.length <= 4000) (hsub : ∀ x ∈ Z04 (Z0m Gs) g, x < m) (hm : m <= Gs.length) (hM : Gs[g].lvl ≠ 0 -> MOk ((Z04 (Z0m Gs) g).map tabs)) :
 Calls Tryz.prog 99 #[.pointer (some ⟨T, 0, none⟩), .int .i64 g] w fun e w' => ∃ a cap, e = .returned (.slice a (Z1S Gs[g].lvl Gs[g].items.length ((Z04 (Z0m Gs) g).map tabs)).length cap) /\ Below w.1.size w w' /\
  RowJ w' base (.slice a (Z1S Gs[g].lvl Gs[g].items.length ((Z04 (Z0m Gs) g).map tabs)).length cap) (Z1S Gs[g].lvl Gs[g].items.length ((Z04 (Z0m Gs) g).map tabs)) := by
 by_cases hl : Gs[g].lvl = 0
 ·exact Zfe T BB TB PB base v vg Gs tabs m ps g w h hg hn hl hi _
 ·exact Zfg T BB TB PB base v vg Gs tabs m ps g w h hg hn hl hsub hm (hM hl)
end Go.Proofs.YtlgajongmkhcnaaGreatDoor
namespace Go.Proofs.YtlgajongmkhcnaaGreatDoor
open Go.RowKit Go.Sort
set_option maxRecDepth 100000
def Z18 (zs : List Int) (x : Grp) (k : Nat) : Nat := (x.items.take k).countP (fun i => decide (zs.getD i.toNat (-1) = x.lvl))
def Zey (ls : List Lev) (z : Int) : Int := (ls.getD z.toNat ⟨⟨#[]⟩, 0, [], 0, 0⟩).min
def Z4A (ls : List Lev) (zs : List Int) (x : Grp) : Bool := !(decide (0 < Z18 zs x x.items.length) && decide ((Z18 zs x x.items.length : Int) < Zey ls x.lvl))
def Z2e (ls : List Lev) (zs : List Int) (Gs : List Grp) : Bool := Gs.all (Z4A ls zs)
theorem Zct (zs : List Int) (x : Grp) {k : Nat} (h : k < x.items.length) : Z18 zs x (k + 1) = Z18 zs x k + (if zs.getD x.items[k].toNat (-1) = x.lvl then 1 else 0) := by
 unfold Z18
 rw [Z8 h, List.countP_append, List.countP_singleton]
 simp
theorem ZfN (zs : List Int) (x : Grp) (k : Nat) : Z18 zs x k <= k := by
 unfold Z18
 refine Nat.le_trans (List.countP_le_length) ?_
 rw [List.length_take]; omega
theorem Zex {ls : List Lev} {z : Nat} (h : z < ls.length) : Zey ls (z : Int) = ls[z].min := by
 unfold Zey
 rw [Int.toNat_natCast, Z2, Z3 h]; rfl
theorem Z1F {m : Mai} (h : Z21 m = true) : m.ps.length <= 2000 /\ ∀ p ∈ m.ps, Z0C p.code = true := by
 unfold Z21 at h
 simp only [ZF, decide_eq_true_eq] at h
 have hp : ∀ (l : List Pce) (b : Int), ZbR b l = true -> ∀ p ∈ l, Z0C p.code = true := by
  intro l
  induction l with
  | nil => intro b _ p hp; cases hp
  | cons q r ih =>
   intro b hb p hp
   unfold ZbR at hb
   rw [ZF] at hb
   rcases List.mem_cons.1 hp with rfl | hp
   ·have h1 := hb.1
    unfold pcB at h1
    simp only [ZF] at h1
    exact h1.2.1
   ·exact ih _ hb.2 p hp
 exact ⟨h.2.2.1, hp _ _ h.2.2.2⟩
theorem Z81 (ls : List Lev) (cs : List ByteArray) : (Z0Y ls cs ls.length).length <= ls.length * cs.length := by
 have h := (Zb6 ls cs ls.length (Z1 _)).1
 rwa [Z3C ls cs ls.length (Z1 _)] at h
open Classical in
noncomputable def Z1X (ls : List Lev) (m : Mai) (zs : List Int) : Bool × Int :=
 if Z0i ls = true /\ Z21 m = true /\ zs.length = m.ps.length /\ Z1g ls.length zs = true then
  (if (Z06 m.ps).any (Z2z ls) = true then (false, 6) else (Z2e ls zs (Z0Y ls (Z06 m.ps) ls.length), 0)) else (false, 2)
theorem Zdv (ls : List Lev) (v vp vz : Value) (m : Mai) (zs : List Int) (w : World) (hr : RdLevs w v ls) (hf : ∀ l ∈ ls, Z0G l) (hl : ls.length <= 100000) (hrp : RdPces w vp m.ps) (h8 : 0 <= m.cls /\ m.cls <= 255 /\ 0 <= m.ctr /\ m.ctr <= 255)
 (hom : m.origin.size <= maxLen) (hml : m.ps.length <= 100000) (hcz : ∀ p ∈ m.ps, p.code.size <= maxLen) (hz : RdInts w vz zs) (hlz : zs.length <= 1000000) :
 Calls Tryz.prog 16 #[v, Z22 m vp, vz] w fun e w' => e = .returned (.tuple #[.bool (Z1X ls m zs).1, .int .i64 (Z1X ls m zs).2]) /\ Below w.1.size w w' := by
 have HRT := Z0 (fun W (hW : Below w.1.size w W) => Z29 ls v W (hr.below hW) hf (by unfold maxLen; omega))
 have HML := Z0 (fun W (hW : Below w.1.size w W) => Z2T m vp W (hrp.below hW) h8 hom hml hcz)
 have HCO := Z0 (fun W (hW : Below w.1.size w W) => Z6Y m vp W (hrp.below hW) hml)
 have hclen : (Z06 m.ps).length = m.ps.length := by unfold Z06; simp
 have HGP := Z0 (fun W vc (hW : Below w.1.size w W) (hrc : ReadsT W vc (Z06 m.ps)) => Z5c ls v vc (Z06 m.ps) W (hr.below hW) hf (by unfold maxLen; omega) hrc (by unfold maxLen; omega) (fun c hc => by
  unfold Z06 at hc
  obtain ⟨p, hp, rfl⟩ := List.mem_map.1 hc
  exact hcz p hp))
 have HZ := Z0 hz
 have HRL := Z0 hr
 obtain ⟨ap, cp, rfl, _⟩ := hrp
 obtain ⟨al, cl, rfl, _⟩ := hr
 obtain ⟨az, cz, rfl, _⟩ := hz
 have HNU : Hid (∀ W, Below w.1.size w W -> Calls Tryz.prog 40 #[.slice al ls.length cl, .slice az zs.length cz] W fun e w' => e = .returned (.bool (Z1g ls.length zs)) /\ W = w') := fun W hW => ZaK ls.length al cl zs _ W (HZ.out.below hW) hlz hl
 have hVR : Z1X ls m zs = if Z0i ls = true /\ Z21 m = true /\ zs.length = m.ps.length /\ Z1g ls.length zs = true then
  (if (Z06 m.ps).any (Z2z ls) = true then (false, 6) else (Z2e ls zs (Z0Y ls (Z06 m.ps) ls.length), 0)) else (false, 2) := by unfold Z1X; rfl
 obtain ⟨R, hR⟩ : ∃ R, R = Z1X ls m zs := ⟨_, rfl⟩
 rw [<- hR] at hVR ⊢
 have hgR : Z21 m = true -> Z0i ls = true -> Z1a ls (Z06 m.ps) = if (Z06 m.ps).any (Z2z ls) = true then ([], 6) else ((gTo ls (Z06 m.ps) ls.length).1, 0) := fun h1 h2 => by
  obtain ⟨k1, k2⟩ := Z1F h1
  unfold Z1a
  rw [if_neg (by omega), if_pos ⟨h2, fun c hc => by
   unfold Z06 at hc
   obtain ⟨p, hp, rfl⟩ := List.mem_map.1 hc
   exact k2 p hp⟩]
 have hmb : Z21 m = true -> m.ps.length <= 2000 := fun h => (Z1F h).1
 have hcls := Z3C ls (Z06 m.ps) ls.length (Z1 _)
 obtain ⟨rb, hrb⟩ : ∃ b, b = Z0i ls := ⟨_, rfl⟩
 obtain ⟨mb, hmb'⟩ : ∃ b, b = Z21 m := ⟨_, rfl⟩
 obtain ⟨nb, hnb⟩ : ∃ b, b = Z1g ls.length zs := ⟨_, rfl⟩
 have HRB := Z0 hrb
 rw [<- hrb] at HRT hVR hgR
 rw [<- hmb'] at HML hVR hgR hmb
 have HNB := Z0 hnb
 rw [<- hnb] at HNU hVR
 have hnz := fun h => Z6m (n := ls.length) (zs := zs) h
 rw [<- hnb] at hnz
 unfold Z22 at HML HCO ⊢
 obtain ⟨cls, ctr, org, ps⟩ := m
 dsimp only at *
 have hb0 : Below w.1.size w (w.alloc (.cells #[.int .u8 cls, .int .u8 ctr, .string org, .slice ap ps.length cp] 34)) := (Z9 _ w).alloc (Z1 _) _
 have hz0 : (w.alloc (.cells #[.int .u8 cls, .int .u8 ctr, .string org, .slice ap ps.length cp] 34)).1.size = w.1.size + 1 := Z6 _ _
 have hbx : ∀ W, Below (w.1.size + 1) (w.alloc (.cells #[.int .u8 cls, .int .u8 ctr, .string org, .slice ap ps.length cp] 34)) W -> W.cell? ⟨w.1.size, 0, none⟩ = some (.int .u8 cls) /\ W.cell? ⟨w.1.size, 1, none⟩ = some (.int .u8 ctr) /\ W.cell? ⟨w.1.size, 2, none⟩ = some (.string org) /\ W.cell? ⟨w.1.size, 3, none⟩ = some (.slice ap ps.length cp) := fun W hW =>
  ⟨(hW.cell (p := ⟨w.1.size, 0, none⟩) (Nat.lt_succ_self _)).trans (cell_of_row _ _ 0 _ _ _ (Z01 w _)), (hW.cell (p := ⟨w.1.size, 1, none⟩) (Nat.lt_succ_self _)).trans (cell_of_row _ _ 1 _ _ _ (Z01 w _)),
   (hW.cell (p := ⟨w.1.size, 2, none⟩) (Nat.lt_succ_self _)).trans (cell_of_row _ _ 2 _ _ _ (Z01 w _)), (hW.cell (p := ⟨w.1.size, 3, none⟩) (Nat.lt_succ_self _)).trans (cell_of_row _ _ 3 _ _ _ (Z01 w _))⟩
 have HBX := Z0 hbx
 have HZ0 := Z0 hz0
 have HVR := Z0 hVR
 have HGR := Z0 hgR
 have HCLS := Z0 hcls
 have HMB := Z0 hmb
 have HNZ := Z0 hnz
 have HCLEN := Z0 hclen
 clear hbx hz0 hVR hgR hcls hmb hnz hclen hR hrb hmb' hnb hf hcz
 cases rb
 ·go_enter Tryz.func16, Tryz.ntmps16
  go_wp2_with (go_at_call 39; refine (HRT.out _ hb0).mono ?_; rintro e w1 ⟨rfl, hb1⟩)
  go_ret2
  rw [HVR.out, if_neg (by simp)]
  exact ⟨rfl, Z00 hb0 hb0.size hb1⟩
 ·cases mb
  ·go_enter Tryz.func16, Tryz.ntmps16
   go_wp2_with (first
    | (go_at_call 39; refine (HRT.out _ hb0).mono ?_; rintro e w1 ⟨rfl, hb1⟩; (rw [HZ0.out] at hb1); have hB1 : Below w.1.size w w1 := hb0.trans (hb1.mono (Nat.le_succ _)); obtain ⟨x0, x1, x2, x3⟩ := HBX.out w1 hb1)
    | (go_at_call 34; refine (HML.out _ hB1).mono ?_; rintro e w2 ⟨rfl, hb2⟩))
   go_ret2
   rw [HVR.out, if_neg (by simp)]
   exact ⟨rfl, Z00 hB1 hB1.size hb2⟩
  ·by_cases hle : zs.length = ps.length
   ·have hne : ((zs.length : Int) != (ps.length : Int)) = false := by rw [hle]; simp
    have HLE := Z0 hle
    clear hle
    cases nb
    ·go_enter Tryz.func16, Tryz.ntmps16
     go_wp2_with (first
      | (go_at_call 39; refine (HRT.out _ hb0).mono ?_; rintro e w1 ⟨rfl, hb1⟩; (rw [HZ0.out] at hb1); have hB1 : Below w.1.size w w1 := hb0.trans (hb1.mono (Nat.le_succ _)); obtain ⟨x0, x1, x2, x3⟩ := HBX.out w1 hb1)
      | (go_at_call 34; refine (HML.out _ hB1).mono ?_; rintro e w2 ⟨rfl, hb2⟩; have hb2' := hb1.trans (hb2.mono (by have := hb1.size; rw [HZ0.out] at this; exact this)); have hB2 : Below w.1.size w w2 := hb0.trans (hb2'.mono (Nat.le_succ _)); clear x0 x1 x2 x3; obtain ⟨x0, x1, x2, x3⟩ := HBX.out w2 hb2')
      | (go_at_call 40; refine (HNU.out _ hB2).mono ?_; rintro e w3 ⟨rfl, hW⟩; obtain rfl : w2 = w3 := hW))
     go_ret2
     rw [HVR.out, if_neg (by simp)]
     exact ⟨rfl, hB2⟩
    ·have hgr := HGR.out rfl rfl
     have hps := HMB.out rfl
     have hzz := HLE.out
     by_cases hsh : (Z06 ps).any (Z2z ls) = true
     ·rw [if_pos hsh] at hgr
      have hvr := HVR.out
      rw [if_pos ⟨rfl, rfl, hzz, rfl⟩, if_pos hsh] at hvr
      subst hvr
      rw [hgr] at HGP
      dsimp only at HGP
      clear hgr hzz
      go_enter Tryz.func16, Tryz.ntmps16
      go_wp2_with (first
       | (go_at_call 39; refine (HRT.out _ hb0).mono ?_; rintro e w1 ⟨rfl, hb1⟩; (rw [HZ0.out] at hb1); have hB1 : Below w.1.size w w1 := hb0.trans (hb1.mono (Nat.le_succ _)); obtain ⟨x0, x1, x2, x3⟩ := HBX.out w1 hb1)
       | (go_at_call 34; refine (HML.out _ hB1).mono ?_; rintro e w2 ⟨rfl, hb2⟩; have hb2' := hb1.trans (hb2.mono (by have := hb1.size; rw [HZ0.out] at this; exact this)); have hB2 : Below w.1.size w w2 := hb0.trans (hb2'.mono (Nat.le_succ _)); clear x0 x1 x2 x3; obtain ⟨x0, x1, x2, x3⟩ := HBX.out w2 hb2')
       | (go_at_call 40; refine (HNU.out _ hB2).mono ?_; rintro e w3 ⟨rfl, hW⟩; obtain rfl : w2 = w3 := hW)
       | (go_at_call 42; refine (HCO.out _ hB2).mono ?_; rintro e w3 ⟨u, rfl, hb3, hrc3⟩; have hB3 : Below w.1.size w w3 := Z00 hB2 hB2.size hb3)
       | (go_at_call 41; refine (HGP.out _ _ hB3 hrc3).mono ?_; rintro e w4 ⟨vg, rfl, hb4, hog⟩))
      go_ret2
      exact ⟨rfl, Z00 hB3 hB3.size hb4⟩
     ·rw [if_neg hsh] at hgr
      have hvr := HVR.out
      rw [if_pos ⟨rfl, rfl, hzz, rfl⟩, if_neg hsh] at hvr
      rw [hgr] at HGP
      dsimp only at HGP
      have hgb := Z81 ls (Z06 ps)
      rw [HCLS.out] at HGP
      dsimp only at HGP
      have hitems : ∀ x ∈ Z0Y ls (Z06 ps) ls.length, x.items.length <= 2000 /\ (∃ mm : Nat, mm < ls.length /\ x.lvl = (mm : Int)) /\ ∀ i ∈ x.items, ∃ q : Nat, q < zs.length /\ i = (q : Int) := fun x hx => by
       obtain ⟨mm, n, hmm, _, rfl⟩ := Z20.1 hx
       refine ⟨?_, ⟨mm, hmm, rfl⟩, fun i hi => ?_⟩
       ·have : (itm ls (Z06 ps) mm n).length <= (Z06 ps).length := Z6D ls _ mm n
        have h2 := HCLEN.out
        exact Nat.le_trans this (by omega)
       ·obtain ⟨q, hq, _, rfl⟩ := Z3j.1 hi
        have h2 := HCLEN.out
        exact ⟨q, by omega, rfl⟩
      rw [HCLEN.out] at hgb
      have hl6 := (Z0z HRB.out.symm).2
      have hgl : (Z0Y ls (Z06 ps) ls.length).length <= 12000 := Nat.le_trans hgb (by have : ls.length * ps.length <= 6 * 2000 := Nat.mul_le_mul hl6 hps; omega)
      obtain ⟨Gs, hGs⟩ : ∃ G, G = Z0Y ls (Z06 ps) ls.length := ⟨_, rfl⟩
      rw [<- hGs] at HGP hvr hitems hgl
      subst hvr
      have HIT := Z0 hitems
      clear hgr hGs hitems hgb hzz
      go_enter Tryz.func16, Tryz.ntmps16
      go_wp2_with (first
       | (go_at_call 39; refine (HRT.out _ hb0).mono ?_; rintro e w1 ⟨rfl, hb1⟩; (rw [HZ0.out] at hb1); have hB1 : Below w.1.size w w1 := hb0.trans (hb1.mono (Nat.le_succ _)); obtain ⟨x0, x1, x2, x3⟩ := HBX.out w1 hb1)
       | (go_at_call 34; refine (HML.out _ hB1).mono ?_; rintro e w2 ⟨rfl, hb2⟩; have hb2' := hb1.trans (hb2.mono (by have := hb1.size; rw [HZ0.out] at this; exact this)); have hB2 : Below w.1.size w w2 := hb0.trans (hb2'.mono (Nat.le_succ _)); clear x0 x1 x2 x3; obtain ⟨x0, x1, x2, x3⟩ := HBX.out w2 hb2')
       | (go_at_call 40; refine (HNU.out _ hB2).mono ?_; rintro e w3 ⟨rfl, hW⟩; obtain rfl : w2 = w3 := hW)
       | (go_at_call 42; refine (HCO.out _ hB2).mono ?_; rintro e w3 ⟨u, rfl, hb3, hrc3⟩; have hB3 : Below w.1.size w w3 := Z00 hB2 hB2.size hb3)
       | (go_at_call 41; refine (HGP.out _ _ hB3 hrc3).mono ?_; rintro e w4 ⟨vg, rfl, hb4, hog⟩; have hrg := RdGrps.of_owns hog; obtain ⟨ag, cg, hvg⟩ := hog.len; subst hvg; clear x0 x1 x2 x3))
      have hB4 : Below w.1.size w w4 := Z00 hB3 hB3.size hb4
      have HB4 := Z0 hB4
      have HRG := Z0 hrg
      have HRL4 := Z0 (RdLevs.below HRL.out hB4)
      have HZ4 := Z0 (RdInts.below HZ.out hB4)
      clear hb1 hB1 hb2 hb2' hB2 hb3 hrc3 hB3 hb4 hB4 hog hrg hb0 hsh HRT HML HCO HGP HBX HNU HVR HGR HCLS HMB HRB HNB HCLEN HLE HZ0
      go_loopw [49] (fun i wr => ∃ k : Nat, k <= Gs.length /\ i = .int .i64 k /\ Below w4.1.size w4 wr /\ ∀ j (hj : j < Gs.length), j < k -> Z4A ls zs Gs[j] = true) (fun i _ => Gs.length - (intOf i).toNat)
      case atStart => exact ⟨0, ZE _, rfl, Z9 _ _, fun j _ h => absurd h (Nat.not_lt_zero _)⟩
      case round =>
       obtain ⟨wo, hwo⟩ : ∃ x, x = wr := ⟨_, rfl⟩
       subst hwo
       obtain ⟨k, hk, rfl, hB, hok⟩ := hrel
       have HOK := Z0 hok
       clear hok
       by_cases hlt : k < Gs.length
       ·have hrg := RdGrps.below HRG.out hB
        obtain ⟨ag', cg', hvg, hgr⟩ := hrg
        injection hvg with q1 q2 q3
        subst q1
        clear q2 q3
        obtain ⟨gg, og, rfl, hgg, hcg⟩ := hgr (by omega)
        obtain ⟨sv, hsv, g0, g1, g2, g3⟩ := hcg k hlt
        obtain ⟨hi1, ⟨mm, hmm, hlv⟩, hi3⟩ := HIT.out _ (Z4 hlt)
        obtain ⟨x, hx⟩ : ∃ x, x = Gs[k] := ⟨_, rfl⟩
        have HX := Z0 hx
        rw [<- hx] at hsv g0 g1 g2 hi1 hlv hi3
        rw [hlv] at g0
        obtain ⟨nm, hnm⟩ : ∃ z, z = x.name := ⟨_, rfl⟩
        obtain ⟨up, hup⟩ : ∃ z, z = x.up := ⟨_, rfl⟩
        rw [<- hnm] at g1
        rw [<- hup] at g2
        obtain ⟨ai, ci, rfl, hci⟩ := hsv
        obtain ⟨CG, hCG⟩ : ∃ c, c = Obj.cells #[.int .i64 mm, .string nm, .int .i64 up, .slice ai x.items.length ci] 107 (0, 0) := ⟨_, rfl⟩
        have hbc : Below wo.1.size wo (wo.alloc CG) := (Z9 _ _).alloc (Z1 _) _
        have q0 : (wo.alloc CG).cell? ⟨wo.1.size, 0, none⟩ = some (.int .i64 mm) := by rw [hCG]; exact cell_of_row _ _ 0 _ _ _ (Z01 wo _)
        have q3 : (wo.alloc CG).cell? ⟨wo.1.size, 3, none⟩ = some (.slice ai x.items.length ci) := by rw [hCG]; exact cell_of_row _ _ 3 _ _ _ (Z01 wo _)
        have hBg : Below w4.1.size w4 (wo.alloc CG) := hB.alloc hB.size _
        have hz1 : (wo.alloc CG).1.size = wo.1.size + 1 := Z6 _ _
        have hTS := fun p (hp : p < x.items.length) => Zct zs x hp
        have HTS := Z0 hTS
        have HLV := Z0 hlv
        have HI3 := Z0 hi3
        have HCI := Z0 hci
        have HQ0 := Z0 q0
        have HZ1 := Z0 hz1
        have HBC := Z0 hbc
        clear hTS hlv hi3 hci hgr hcg hnm hup hx q0 hz1 hbc
        go_wp2_with fail
        rw [<- hCG]
        have HCG := Z0 hCG
        clear hCG
        go_loopw [12, 56] (fun t i wq => ∃ p : Nat, p <= x.items.length /\ i = .int .i64 p /\ t = .int .i64 (Z18 zs x p : Nat) /\ Below (wo.alloc CG).1.size (wo.alloc CG) wq) (fun _ i _ => x.items.length - (intOf i).toNat)
        case atStart => exact ⟨0, ZE _, rfl, by simp [Z18], Z9 _ _⟩
        case round =>
         clear q3
         obtain ⟨p, hp, rfl, rfl, hBq⟩ := hrel
         have hz1 := HZ1.out
         have r0 := (hBq.cell (p := ⟨wo.1.size, 0, none⟩) (by show wo.1.size < _; omega)).trans HQ0.out
         have htl := ZfN zs x p
         by_cases hltp : p < x.items.length
         ·obtain ⟨gi, oi, rfl, hgi, hcc⟩ := HCI.out (by omega)
          obtain ⟨q, hq, hqe⟩ := HI3.out _ (Z4 hltp)
          have hts := HTS.out p hltp
          have e1 := hcc p hltp
          rw [hqe] at e1 hts
          have e1' : wr.cell? ⟨gi, oi + p, none⟩ = some (.int .i64 q) := (hBq.cell (p := ⟨gi, oi + p, none⟩) (by show gi < _; omega)).trans ((HBC.out.cell (p := ⟨gi, oi + p, none⟩) hgi).trans e1)
          obtain ⟨az', cz', hvz, hcz⟩ := HZ4.out
          injection hvz with q1 q2 q3
          subst q1
          clear q2 q3
          obtain ⟨gz, oz, rfl, hgz, hcz⟩ := hcz (by omega)
          have e2 : wr.cell? ⟨gz, oz + q, none⟩ = some (.int .i64 zs[q]) := ((hBg.trans (hBq.mono hBg.size)).cell (p := ⟨gz, oz + q, none⟩) hgz).trans (hcz q hq)
          rw [Int.toNat_natCast, HLV.out, Z2, Z3 hq] at hts
          obtain ⟨z, hz⟩ : ∃ z, z = zs[q] := ⟨_, rfl⟩
          rw [<- hz] at e2 hts
          have hts' : Z18 zs x (p + 1) = Z18 zs x p + (if z = (mm : Int) then 1 else 0) := hts
          obtain ⟨t, ht⟩ : ∃ t, t = Z18 zs x p := ⟨_, rfl⟩
          rw [<- ht] at hts' htl ⊢
          clear hts e1 hz hcz hcc hqe ht
          by_cases hzm : z = (mm : Int)
          ·rw [if_pos hzm] at hts'
           have hbq : (z == (mm : Int)) = true := by simp [hzm]
           have HT := Z0 hts'
           clear hts' hzm
           go_wp2_with fail
           go_quiet (fail)
           go_wp2_with fail
           go_roundw
           case rel => exact ⟨p + 1, by omega, by go_num, by rw [HT.out]; go_num, below_drewN hBq _⟩
           case measure => simp [intOf]; omega
          ·rw [if_neg hzm] at hts'
           have hbq : (z == (mm : Int)) = false := by simp [hzm]
           have HT := Z0 hts'
           clear hts' hzm
           go_wp2_with fail
           go_quiet (fail)
           go_wp2_with fail
           go_roundw
           case rel => exact ⟨p + 1, by omega, by go_num, by rw [HT.out]; rfl, below_drewN hBq _⟩
           case measure => simp [intOf]; omega
         ·obtain rfl : p = x.items.length := by omega
          have hBn : Below w4.1.size w4 wr := hBg.trans (hBq.mono hBg.size)
          obtain ⟨al', cl', hvl, hcl⟩ := RdLevs.below HRL4.out hBn
          injection hvl with q1 q2 q3
          subst q1
          clear q2 q3
          obtain ⟨gl, ol, rfl, hgl, hcl⟩ := hcl (by omega)
          obtain ⟨sv, _, _, _, _, l3, _⟩ := hcl mm hmm
          have hgo : Z4A ls zs x = !(decide (0 < Z18 zs x x.items.length) && decide ((Z18 zs x x.items.length : Int) < ls[mm].min)) := by
           unfold Z4A
           rw [HLV.out, Zex hmm]
          obtain ⟨mn, hmn⟩ : ∃ z, z = ls[mm].min := ⟨_, rfl⟩
          rw [<- hmn] at l3 hgo
          obtain ⟨t, ht⟩ : ∃ t, t = Z18 zs x x.items.length := ⟨_, rfl⟩
          rw [<- ht] at htl hgo ⊢
          have HGO := Z0 hgo
          have HBN := Z0 hBn
          clear hgo hmn ht hcl
          by_cases h0 : t = 0
          ·have hok : Z4A ls zs x = true := by rw [HGO.out, h0]; simp
           have HK := Z0 hok
           have hgt : ¬ ((t : Int) > 0) := by omega
           clear hok h0
           go_wp2_with fail
           go_roundw
           case rel =>
            refine ⟨k + 1, by omega, by go_num, HBN.out, fun j hj hjk => ?_⟩
            by_cases e : j = k
            ·subst e; rw [<- HX.out]; exact HK.out
            ·exact HOK.out j hj (by omega)
           case measure => simp [intOf]; omega
          ·have hgt : (t : Int) > 0 := by omega
           by_cases hmt : (t : Int) < mn
           ·have hok : Z4A ls zs x = false := by rw [HGO.out, decide_eq_true (by omega), decide_eq_true hmt]; rfl
            have hall : Z2e ls zs Gs = false := by
             unfold Z2e
             rw [List.all_eq_false]
             exact ⟨Gs[k], Z4 hlt, by rw [<- HX.out, hok]; simp⟩
            have HAL := Z0 hall
            clear hok hall h0
            go_wp2_with fail
            go_ret2
            rw [HAL.out]
            exact ⟨rfl, HB4.out.trans (HBN.out.mono HB4.out.size)⟩
           ·have hok : Z4A ls zs x = true := by rw [HGO.out, decide_eq_false hmt]; simp
            have HK := Z0 hok
            clear hok h0
            go_wp2_with fail
            go_roundw
            case rel =>
             refine ⟨k + 1, by omega, by go_num, HBN.out, fun j hj hjk => ?_⟩
             by_cases e : j = k
             ·subst e; rw [<- HX.out]; exact HK.out
             ·exact HOK.out j hj (by omega)
            case measure => simp [intOf]; omega
       ·obtain rfl : k = Gs.length := by omega
        have hall : Z2e ls zs Gs = true := by
         unfold Z2e
         rw [List.all_eq_true]
         intro x hx
         obtain ⟨j, hj, rfl⟩ := List.mem_iff_getElem.1 hx
         exact HOK.out j hj hj
        have HAL := Z0 hall
        clear hall
        go_wp2_with fail
        go_ret2
        rw [HAL.out]
        exact ⟨rfl, HB4.out.trans (hB.mono HB4.out.size)⟩
   ·have hne : ((zs.length : Int) != (ps.length : Int)) = true := by simp; omega
    go_enter Tryz.func16, Tryz.ntmps16
    go_wp2_with (first
     | (go_at_call 39; refine (HRT.out _ hb0).mono ?_; rintro e w1 ⟨rfl, hb1⟩; (rw [HZ0.out] at hb1); have hB1 : Below w.1.size w w1 := hb0.trans (hb1.mono (Nat.le_succ _)); obtain ⟨x0, x1, x2, x3⟩ := HBX.out w1 hb1)
     | (go_at_call 34; refine (HML.out _ hB1).mono ?_; rintro e w2 ⟨rfl, hb2⟩; have hb2' := hb1.trans (hb2.mono (by have := hb1.size; rw [HZ0.out] at this; exact this)); have hB2 : Below w.1.size w w2 := hb0.trans (hb2'.mono (Nat.le_succ _)); clear x0 x1 x2 x3; obtain ⟨x0, x1, x2, x3⟩ := HBX.out w2 hb2'))
    go_ret2
    rw [HVR.out, if_neg (fun h => hle h.2.2.1)]
    exact ⟨rfl, hB2⟩
end Go.Proofs.YtlgajongmkhcnaaGreatDoor
namespace Go.Proofs.YtlgajongmkhcnaaGreatDoor
open Go.RowKit
set_option maxRecDepth 100000
theorem ZhV (zs : List Int) (v : Value) (w : World) (hv : RdInts w v zs) (h0 : 0 < zs.length) (hl : zs.length <= 100000) :
 Calls Tryz.prog 73 #[v] w fun e w' => ∃ m, m ∈ zs /\ e = .returned (.int .i64 m) /\ w' = w := by
 obtain ⟨a, ca, rfl, hc⟩ := hv
 obtain ⟨g, off, rfl, hg, hcc⟩ := hc h0
 have c0 : w.cell? ⟨g, off, none⟩ = some (.int .i64 (zs[0]'h0)) := hcc 0 h0
 have HC := Z0 hcc
 have HM0 := Z0 (Z4 h0)
 clear hc hcc
 generalize zs[0] = z0 at c0 HM0
 go_enter Tryz.func73, Tryz.ntmps73
 go_wp2_with fail
 go_loop [3, 4] (fun x i => ∃ (k : Nat) (m : Int), 1 <= k /\ k <= zs.length /\ i = .int .i64 k /\ x = .int .i64 m /\ Hid (m ∈ zs)) (fun _ i => zs.length - (intOf i).toNat)
 case atStart => exact ⟨1, z0, Z1 _, h0, rfl, rfl, HM0.out⟩
 case round =>
  obtain ⟨k, m, hk1, hk, rfl, rfl, HM⟩ := hrel
  by_cases hlt : k < zs.length
  ·have c1 := HC.out k hlt
   have HMk := Z0 (Z4 hlt)
   clear HC
   generalize zs[k] = zk at c1 HMk
   have d4 : decide ((k : Int) < (zs.length : Int)) = true := decide_eq_true (by omega)
   have HMIN : Hid (min m zk ∈ zs) := by
    show min m zk ∈ zs
    rcases Int.le_total m zk with h | h
    ·rw [Int.min_eq_left h]; exact HM.out
    ·rw [Int.min_eq_right h]; exact HMk.out
   go_wp2_with fail
   go_round
   case rel => exact ⟨k + 1, min m zk, by omega, by omega, by go_num, rfl, HMIN.out⟩
   case measure => simp [intOf]; omega
  ·obtain rfl : k = zs.length := by omega
   go_wp2_with fail
   go_ret
   exact ⟨m, HM.out, rfl, rfl⟩
theorem ZdP (s : Stp) (g : Int) (X : Nat) (v : Value) (w : World) (hv : ∃ a n c, v = .slice a n c) (hX : w.cell? ⟨X, 0, none⟩ = some (.int .i64 g)) (hXl : X < w.1.size) :
 Calls Tryz.prog 111 #[.agg #[.int .i64 s.grams, v], .pointer (some ⟨X, 0, none⟩)] w fun e w' => e = .returned (.bool (decide (g <= s.grams))) /\ Below w.1.size w w' := by
 obtain ⟨a, n, c, rfl⟩ := hv
 have HB := Z0 ((Z9 _ w).alloc (Z1 _) (.cells #[.int .i64 s.grams, .slice a n c] 95))
 go_enter Tryz.func111, Tryz.ntmps111
 go_wp2_with fail
 go_ret
 exact ⟨rfl, HB.out⟩
theorem Zi3 (g : Int) (X : Nat) (xs : List Stp) (v : Value) (w : World) (hr : Z30 w v xs) (hX : w.cell? ⟨X, 0, none⟩ = some (.int .i64 g)) (hXl : X < w.1.size) (hl : xs.length <= 1000000) :
 Calls Tryz.prog 112 #[v, .func (Fn.func 111) #[] #[.pointer (some ⟨X, 0, none⟩)]] w fun e w' => e = .returned (.int .i64 (stepOf xs g)) /\ Below w.1.size w w' := by
 obtain ⟨a, cap, rfl, hc⟩ := hr
 have HC := Z0 hc
 have HX := Z0 hX
 have HXL := Z0 hXl
 clear hc hX hXl
 go_enter Tryz.func112, Tryz.ntmps112
 go_wp2_with fail
 go_loopw [8] (fun i wx => ∃ q : Nat, q <= xs.length /\ i = .int .i64 q /\ Below w.1.size w wx /\ ∀ i (hi : i < xs.length), i < q -> decide (g <= xs[i].grams) = false) (fun i _ => xs.length - (intOf i).toNat)
 case atStart => exact ⟨0, ZE _, rfl, Z9 _ _, fun i _ h => absurd h (Nat.not_lt_zero _)⟩
 case round =>
  obtain ⟨q, hq, rfl, hB, hno⟩ := hrel
  have HNO := Z0 hno
  have HB := Z0 hB
  clear hno
  by_cases hlt : q < xs.length
  ·obtain ⟨gx, off, rfl, hg, hcc⟩ := HC.out (by omega)
   obtain ⟨s, hs, hcell⟩ := hcc q hlt
   have hyes := fun h => Zhk (f := fun s : Stp => decide (g <= s.grams)) hlt h (fun i hi hiq => HNO.out i hi hiq)
   obtain ⟨b, hb⟩ : ∃ b, b = xs[q] := ⟨_, rfl⟩
   have HBB := Z0 hb
   rw [<- hb] at hs hcell hyes
   obtain ⟨asx, csx, rfl, _⟩ := hs
   have f0 : wr.cell? ⟨gx, off + q * 2, none⟩ = some (.int .i64 b.grams) := (hB.cell (p := ⟨gx, off + q * 2, none⟩) hg).trans (hcell 0 _ rfl)
   have f1 : wr.cell? ⟨gx, off + q * 2 + 1, none⟩ = some (.slice asx b.cents.length csx) := (hB.cell (p := ⟨gx, off + q * 2 + 1, none⟩) hg).trans (hcell 1 _ rfl)
   have hcall := ZdP b g X (.slice asx b.cents.length csx) wr ⟨_, _, _, rfl⟩ ((hB.cell (p := ⟨X, 0, none⟩) HXL.out).trans HX.out) (ZH HXL.out hB.size)
   have HCALL := Z0 hcall
   have HY := Z0 hyes
   clear hcall hyes hcell hcc hb
   cases hct : decide (g <= b.grams)
   ·rw [hct] at HCALL
    go_wp2_with (go_at_call 111; refine HCALL.out.mono ?_; rintro e w2 ⟨rfl, hb2⟩)
    go_roundw
    case rel =>
     refine ⟨q + 1, by omega, by go_num, Z00 HB.out HB.out.size hb2, fun i hi hiq => ?_⟩
     by_cases e : i = q
     ·subst e; rw [<- HBB.out]; exact hct
     ·exact HNO.out i hi (by omega)
    case measure => simp [intOf]; omega
   ·rw [hct] at HCALL
    have hy := HY.out hct
    have HYY := Z0 hy
    clear hy
    go_wp2_with (go_at_call 111; refine HCALL.out.mono ?_; rintro e w2 ⟨rfl, hb2⟩)
    go_ret
    unfold stepOf
    rw [HYY.out]
    exact ⟨rfl, Z00 HB.out HB.out.size hb2⟩
  ·have hn := Zc3 (f := fun s : Stp => decide (g <= s.grams)) (l := xs) (fun i hi => HNO.out i hi (by omega))
   have HN := Z0 hn
   clear hn
   go_wp2_with fail
   go_ret
   unfold stepOf
   rw [HN.out]
   exact ⟨rfl, HB.out⟩
theorem Ze6 {zn : Nat} {r : Rat} (hr : RatOk zn r) (v : Value) (z g : Int) (w : World) (hv : Z30 w v r.steps) (hz : 1 <= z /\ z <= zn) (hzn : zn <= 20) :
 Calls Tryz.prog 75 #[.agg #[.int .u8 r.cls, v, .int .i64 r.bar], .int .i64 z, .int .i64 g] w fun e w' => e = .returned (.tuple #[.int .i64 (Z4f r z g).1, .int .i64 (Z4f r z g).2]) /\ Below w.1.size w w' := by
 obtain ⟨m, rfl⟩ : ∃ m : Nat, z = (m + 1 : Nat) := ⟨(z - 1).toNat, by omega⟩
 have hm : m < zn := by omega
 have HIX : Hid (∀ W X, Z30 W v r.steps -> W.cell? ⟨X, 0, none⟩ = some (.int .i64 g) -> X < W.1.size -> Calls Tryz.prog 112 #[v, .func (Fn.func 111) #[] #[.pointer (some ⟨X, 0, none⟩)]] W fun e w' => e = .returned (.int .i64 (stepOf r.steps g)) /\ Below W.1.size W w') :=
  fun W X h1 h2 h3 => Zi3 g X r.steps v W h1 h2 h3 (by have := hr.some_; omega)
 have HRD := Z0 hv
 have hs := hr.some_
 have HCE := Z0 hr.cents
 have hcs := Z9N (fun s : Stp => decide (g <= s.grams)) r.steps
 have hex : ∃ P, P = Z4f r ((m + 1 : Nat) : Int) g := ⟨_, rfl⟩
 obtain ⟨P, hP⟩ := hex
 rw [<- hP]
 have hPe : P = if stepOf r.steps g < 0 then (0, 3) else (Z5w (r.steps.getD (stepOf r.steps g).toNat ⟨0, []⟩) ((m + 1 : Nat) : Int), 0) := hP
 have hst : stepOf r.steps g = ixF (fun s : Stp => decide (g <= s.grams)) r.steps := rfl
 clear hr hP
 have hbx : Below w.1.size w ((w.alloc (.cells #[.int .u8 r.cls, v, .int .i64 r.bar] 60)).alloc (.cells #[.int .i64 g] 3)) := ((Z9 _ w).alloc (Z1 _) _).alloc (by simp) _
 have HBX := Z0 hbx
 obtain ⟨a, ca, rfl, hcc⟩ := hv
 have HC := Z0 hcc
 clear hbx hcc
 rcases hcs with ⟨h1, _⟩ | ⟨q, hq, h1, _⟩
 ·rw [<- hst] at h1
  rw [h1] at HIX hPe
  have hPv : P = (0, 3) := hPe
  clear hPe hst h1 HC
  go_enter Tryz.func75, Tryz.ntmps75
  go_wp2_with (go_at_call 112; refine (HIX.out _ _ (HRD.out.below HBX.out) (by simp [go_sem]) (by simp)).mono ?_; rintro e w2 ⟨rfl, hb2⟩)
  go_ret2
  rw [hPv]
  exact ⟨rfl, HBX.out.trans (hb2.mono HBX.out.size)⟩
 ·rw [<- hst] at h1
  rw [h1] at HIX hPe
  obtain ⟨gx, off, rfl, hg, hcell⟩ := HC.out (by omega)
  obtain ⟨sv, hsv, hcs⟩ := hcell q hq
  obtain ⟨q1, _⟩ := HCE.out _ (Z4 hq)
  obtain ⟨ax, cx, rfl, hints⟩ := hsv
  have hmc : m < r.steps[q].cents.length := by omega
  obtain ⟨gc, oc, rfl, hgc, hcc⟩ := hints (Nat.lt_of_le_of_lt (ZE _) hmc)
  have x1 := hcs 1 _ rfl
  have x2 : w.cell? ⟨gc, oc + m, none⟩ = some (.int .i64 (r.steps[q].cents[m]'hmc)) := hcc m hmc
  have hPv : P = (r.steps[q].cents[m]'hmc, 0) := by
   rw [hPe, if_neg (by omega), Int.toNat_natCast, Z2, Z3 hq]
   unfold Z5w
   rw [show (((m + 1 : Nat) : Int) - 1).toNat = m by omega, Z2, Option.getD_some, Z3 hmc]
   rfl
  clear hPe hst h1 HC hcell hcs hints hcc HCE
  obtain ⟨ce, hce⟩ : ∃ ce, ce = r.steps[q].cents[m]'hmc := ⟨_, rfl⟩
  rw [<- hce] at x2 hPv
  have x1' : w.cell? ⟨gx, off + q * 2 + 1, none⟩ = some (.slice (some ⟨gc, oc, none⟩) zn cx) := by rw [<- q1]; exact x1
  clear hce x1 q1 hmc
  have hq2 : q < r.steps.length := hq
  have hm2 : IntKind.i64.wrap (((m + 1 : Nat) : Int) - 1) = (m : Int) := by rw [IntWalk.i64_in _ (by omega)]; omega
  go_enter Tryz.func75, Tryz.ntmps75
  go_wp2_with (go_at_call 112; refine (HIX.out _ _ (HRD.out.below HBX.out) (by simp [go_sem]) (by simp)).mono ?_; rintro e w2 ⟨rfl, hb2⟩; obtain ⟨k1, k2, k3, k4⟩ := Z46 hb2; have y1 := cell_of_row _ _ 1 _ _ _ k1; have y2 := (k4.cell (p := ⟨gx, off + q * 2 + 1, none⟩) hg).trans x1'; have y3 := (k4.cell (p := ⟨gc, oc + m, none⟩) hgc).trans x2; have HK4 := Z0 k4; clear hb2 k1 k2 k4)
  go_ret2
  rw [hPv]
  exact ⟨rfl, HK4.out⟩
theorem Za4 {l : List Rat} (ha : l.Pairwise (fun a b => a.cls ≠ b.cls)) {k j : Nat} (hk : k < l.length) (hj : j < l.length) (h : l[k].cls = l[j].cls) : k = j := by
 rcases Nat.lt_trichotomy k j with e | e | e
 ·exact absurd h (List.pairwise_iff_getElem.1 ha k j hk hj e)
 ·exact e
 ·exact absurd h.symm (List.pairwise_iff_getElem.1 ha j k hj hk e)
theorem results_cell_tmp {fn : Func} {p u : Tmp} {ty : TypeId} (h : fn.results = #[.cell p ty, .tmp u]) (tmps : Array Value) (w : World) (g : Nat) (x : Value)
 (hp : tmps.getD p undef = .pointer (some ⟨g, 0, none⟩)) (hL : (loadVar ty ⟨g, 0, none⟩).run Tryz.prog w = .ok x w) : (results fn tmps).run Tryz.prog w = .ok (.tuple #[x, tmps.getD u undef]) w := by
 have hp' : tmps[p]?.getD undef = .pointer (some ⟨g, 0, none⟩) := by simpa using hp
 simp [results, h, hp', asAddr, hL, Result.andThen]
theorem ZfR {w : World} {g : Nat} {a b c a' b' c' : Value} {t : TypeId} {fr : Nat × Nat} (h : w.1[g]? = some (.cells #[a, b, c] t fr)) :
 (((w.setCell ⟨g, 0, none⟩ a').setCell ⟨g, 1, none⟩ b').setCell ⟨g, 2, none⟩ c').1[g]? = some (.cells #[a', b', c'] t fr) := by
 simp [World.setCell, Array.getElem?_modify, h]
theorem Z3u {B : Nat} {w w' : World} {g : Nat} {a b c : Value} (h : Below B w w') (hg : B <= g) : Below B w (((w'.setCell ⟨g, 0, none⟩ a).setCell ⟨g, 1, none⟩ b).setCell ⟨g, 2, none⟩ c) :=
 ((h.setCell (p := ⟨g, 0, none⟩) hg _).setCell (p := ⟨g, 1, none⟩) hg _).setCell (p := ⟨g, 2, none⟩) hg _
theorem Z02 {w : World} {g j : Nat} {cs : Array Value} {t : TypeId} (h : w.1[g]? = some (.cells cs t (0, 0))) : w.frozen? ⟨g, j, none⟩ = false := by simp [World.frozen?, h]
def ZiL (r : Rat) (sv : Value) : Value := .agg #[.int .u8 r.cls, sv, .int .i64 r.bar]
theorem Z7B {T : Tar} {vr vz : Value} (c : Int) (w : World) (h : RdTar w vr vz T) (hl : T.rates.length <= 20) {q : Nat} (hq : q < T.rates.length) (hc : T.rates[q].cls = c) (hn : ∀ i (hi : i < T.rates.length), i < q -> T.rates[i].cls ≠ c) :
 Calls Tryz.prog 36 #[.agg #[vr, vz], .int .u8 c] w fun e w' => ∃ sv, e = .returned (.tuple #[ZiL T.rates[q] sv, .bool true]) /\ Below w.1.size w w' /\ Z30 w' sv T.rates[q].steps := by
 obtain ⟨a, ca, rfl, hcc⟩ := h.r
 obtain ⟨az, cz, rfl, _⟩ := h.z
 obtain ⟨g, off, rfl, hg, hst⟩ := hcc (by omega)
 have HST := Z0 hst
 have HN := Z0 hn
 have HC := Z0 hc
 clear h hcc hst hn hc
 have hbx : Below w.1.size w ((w.alloc (.cells #[.slice (some ⟨g, off, none⟩) T.rates.length ca, .slice az T.zones.length cz] 29)).alloc (.cells #[.int .u8 0, .slice none 0 0, .int .i64 0] 60)) := ((Z9 _ w).alloc (Z1 _) _).alloc (by simp) _
 obtain ⟨t1, t2, t3, t4⟩ := Z1U (w := w) (A := .cells #[.slice (some ⟨g, off, none⟩) T.rates.length ca, .slice az T.zones.length cz] 29) (B := .cells #[.int .u8 0, .slice none 0 0, .int .i64 0] 60) rfl
 have HBX := Z0 hbx
 have HT2 := Z0 t2
 have HT3 := Z0 t3
 clear hbx t1 t2 t3 t4
 unfold ZiL
 go_enter Tryz.func36, Tryz.ntmps36
 go_wp2_with fail
 go_loopw [11] (fun i wr => ∃ k : Nat, k <= q /\ i = .int .i64 k /\ Below w.1.size w wr /\ wr.1[w.1.size + 1]? = some (.cells #[.int .u8 0, .slice none 0 0, .int .i64 0] 60 (0, 0))) (fun i _ => T.rates.length - (intOf i).toNat)
 case atStart => exact ⟨0, ZE _, rfl, HBX.out, HT2.out⟩
 case round =>
  obtain ⟨k, hk, rfl, hb, h1⟩ := hrel
  have hlt : k < T.rates.length := by omega
  obtain ⟨sv, hsv, hat⟩ := HST.out k hlt
  obtain ⟨c0, c1, c2⟩ := hat.below hb hg
  have hgr : g < wr.1.size := by have := hb.size; omega
  have hwl := (Z5.1 h1).1
  have d4 : decide ((k : Int) < (T.rates.length : Int)) = true := decide_eq_true (by omega)
  have HSV := Z0 hsv
  obtain ⟨sa, sc, rfl, _⟩ := hsv
  have HB := Z0 hb
  have H1 := Z0 h1
  by_cases e : k = q
  ·subst e
   have hcl := HC.out
   clear hat HST HN HC hb h1
   generalize hrr : T.rates[k] = r at c0 c1 c2 HSV hcl ⊢
   have d5 : (r.cls == c) = true := by rw [hcl]; simp
   have z0 := cell_of_row _ _ 0 _ _ _ H1.out
   have z1 := cell_of_row _ _ 1 _ _ _ H1.out
   have z2 := cell_of_row _ _ 2 _ _ _ H1.out
   have y0 := Z02 (j := 0) H1.out
   have y1 := Z02 (j := 1) H1.out
   have y2 := Z02 (j := 2) H1.out
   go_wp2_with fail
   refine bodyPost_ret (results_cell_tmp rfl _ _ (w.1.size + 1) _ rfl (run_loadVar_row _ _ _ _ _ _ _ ((ZB _ _ _ (by simp [World.setCell]; omega)).trans (ZfR H1.out)) Tryz.underlying60 rfl (by kernel_rfl))) rfl ?_
   have HF := (Z3u (g := w.1.size + 1) (a := .int .u8 c) (b := .slice sa r.steps.length sc) (c := .int .i64 r.bar) HB.out (Nat.le_succ w.1.size)).alloc (by simp [World.setCell]; omega) (.cells #[.int .u8 c, .slice sa r.steps.length sc, .int .i64 r.bar] 60)
   exact ⟨_, rfl, HF, HSV.out.below HF⟩
  ·have hne := HN.out k hlt (by omega)
   clear hat HST HN HC hb h1
   generalize T.rates[k] = r at c0 c1 c2 HSV hne
   have d5 : (r.cls == c) = false := by rw [beq_eq_false_iff_ne]; exact hne
   go_wp2_with fail
   go_roundw
   case rel => exact ⟨k + 1, by omega, by go_num, HB.out.alloc HB.out.size _, (ZB _ _ _ hwl).trans H1.out⟩
   case measure => simp [intOf]; omega
theorem Za8 {T : Tar} {vr vz : Value} (c : Int) (w : World) (h : RdTar w vr vz T) (hl : T.rates.length <= 20) {q : Nat} (hq : q < T.rates.length) (hc : T.rates[q].cls = c) (hn : ∀ i (hi : i < T.rates.length), i < q -> T.rates[i].cls ≠ c) :
 Calls Tryz.prog 66 #[.agg #[vr, vz], .int .u8 c] w fun e w' => e = .returned (.int .i64 T.rates[q].bar) /\ Below w.1.size w w' := by
 obtain ⟨a, ca, rfl, hcc⟩ := h.r
 obtain ⟨az, cz, rfl, _⟩ := h.z
 obtain ⟨g, off, rfl, hg, hst⟩ := hcc (by omega)
 have HST := Z0 hst
 have HN := Z0 hn
 have HC := Z0 hc
 clear h hcc hst hn hc
 have HBX := Z0 ((Z9 _ w).alloc (Z1 _) (.cells #[.slice (some ⟨g, off, none⟩) T.rates.length ca, .slice az T.zones.length cz] 29))
 go_enter Tryz.func66, Tryz.ntmps66
 go_wp2_with fail
 go_loopw [10] (fun i wr => ∃ k : Nat, k <= q /\ i = .int .i64 k /\ Below w.1.size w wr) (fun i _ => T.rates.length - (intOf i).toNat)
 case atStart => exact ⟨0, ZE _, rfl, HBX.out⟩
 case round =>
  obtain ⟨k, hk, rfl, hb⟩ := hrel
  have hlt : k < T.rates.length := by omega
  obtain ⟨sv, hsv, hat⟩ := HST.out k hlt
  obtain ⟨c0, c1, c2⟩ := hat.below hb hg
  have hgr : g < wr.1.size := by have := hb.size; omega
  have d4 : decide ((k : Int) < (T.rates.length : Int)) = true := decide_eq_true (by omega)
  obtain ⟨sa, sc, rfl, _⟩ := hsv
  have HB := Z0 hb
  by_cases e : k = q
  ·subst e
   have hcl := HC.out
   clear hat HST HN HC hb
   generalize hrr : T.rates[k] = r at c0 c1 c2 hcl ⊢
   have d5 : (r.cls == c) = true := by rw [hcl]; simp
   go_wp2_with fail
   go_ret
   exact ⟨rfl, HB.out.alloc HB.out.size _⟩
  ·have hne := HN.out k hlt (by omega)
   clear hat HST HN HC hb
   generalize T.rates[k] = r at c0 c1 c2 hne
   have d5 : (r.cls == c) = false := by rw [beq_eq_false_iff_ne]; exact hne
   go_wp2_with fail
   go_roundw
   case rel => exact ⟨k + 1, by omega, by go_num, HB.out.alloc HB.out.size _⟩
   case measure => simp [intOf]; omega
theorem Z7D (s p : ByteArray) (w : World) : Calls Tryz.prog 113 #[.string s, .string p] w fun e w' => e = .returned (.bool (Z5D p s)) /\ w' = w := Tryz.strings_HasPrefix s p w
theorem Z5Y {fr till : ByteArray} {b r : Zn} (h : (Z5D r.fr fr && Z5D r.till till) = false) : Z1y fr till b r = b := by unfold Z1y; rw [h]; rfl
theorem Z2i {fr till : ByteArray} {b r : Zn} (h : Z5D r.fr fr = true) (h' : Z5D r.till till = true) (hc : b.zone = 0 \/ b.fr.size < r.fr.size \/ (r.fr.size = b.fr.size /\ b.till.size < r.till.size)) : Z1y fr till b r = r := by
 unfold Z1y; rw [h, h', Bool.and_self, if_pos rfl, if_pos hc]
theorem Z43 {fr till : ByteArray} {b r : Zn} (hc : ¬ (b.zone = 0 \/ b.fr.size < r.fr.size \/ (r.fr.size = b.fr.size /\ b.till.size < r.till.size))) : Z1y fr till b r = b := by
 unfold Z1y
 by_cases h : (Z5D r.fr fr && Z5D r.till till) = true
 ·rw [if_pos h, if_neg hc]
 ·rw [if_neg h]
def znO (z : Zn) : Obj := .cells #[.string z.fr, .string z.till, .int .i64 z.zone] 93
theorem Zcp (l : List Zn) (v : Value) (fr till : ByteArray) (w : World) (hv : RdZones w v l) (hl : l.length <= 500) (hsz : ∀ r ∈ l, r.fr.size <= 1000 /\ r.till.size <= 1000) :
 Calls Tryz.prog 76 #[v, .string fr, .string till] w fun e w' => e = .returned (.int .i64 (Z4L l fr till)) /\ Below w.1.size w w' := by
 obtain ⟨a, ca, rfl, hcc⟩ := hv
 have HC := Z0 hcc
 have HSZ := Z0 hsz
 have HB0 := Z0 ((Z9 _ w).alloc (Z1 _) (.cells #[.string ⟨#[]⟩, .string ⟨#[]⟩, .int .i64 0] 93))
 clear hcc hsz
 unfold Z4L
 go_enter Tryz.func76, Tryz.ntmps76
 go_wp2_with fail
 go_loopw [14] (fun i wr => ∃ (k : Nat) (b : Zn), k <= l.length /\ i = .int .i64 k /\ Below w.1.size w wr /\ wr.1[w.1.size]? = some (znO b) /\ Hid (b = Z2x l fr till k) /\ b.fr.size <= 1000 /\ b.till.size <= 1000) (fun i _ => l.length - (intOf i).toNat)
 case atStart => exact ⟨0, ZjF, ZE _, rfl, HB0.out, Z01 w _, rfl, ZE _, ZE _⟩
 case round =>
  obtain ⟨k, b, hk, rfl, hb, h1, HBE, b1, b2⟩ := hrel
  have hwl := (Z5.1 h1).1
  have HB := Z0 hb
  have H1 := Z0 h1
  unfold znO at h1
  have z0 := cell_of_row _ _ 0 _ _ _ h1
  have z1 := cell_of_row _ _ 1 _ _ _ h1
  have z2 := cell_of_row _ _ 2 _ _ _ h1
  by_cases hlt : k < l.length
  ·obtain ⟨g, off, rfl, hg, hst⟩ := HC.out (by omega)
   obtain ⟨c0, c1, c2⟩ := (hst k hlt).below hb hg
   have hgr : g < wr.1.size := by have := hb.size; omega
   have d4 : decide ((k : Int) < (l.length : Int)) = true := decide_eq_true (by omega)
   have HSU := Z0 (Z5X l fr till k hlt)
   obtain ⟨r1, r2⟩ := HSZ.out _ (Z4 hlt)
   have y0 := Z02 (j := 0) h1
   have y1 := Z02 (j := 1) h1
   have y2 := Z02 (j := 2) h1
   have H1' := Z0 h1
   clear hst HC HSZ hb h1
   generalize l[k] = r at c0 c1 c2 HSU r1 r2
   have HP1 := Z0 (fun W => Z7D fr r.fr W)
   have HP2 := Z0 (fun W => Z7D till r.till W)
   cases hp1 : Z5D r.fr fr
   ·rw [hp1] at HP1
    go_wp2_with (first | (go_at_call 113; refine (HP2.out _).mono ?_; rintro e w3 ⟨rfl, rfl⟩) | (go_at_call 113; refine (HP1.out _).mono ?_; rintro e w2 ⟨rfl, rfl⟩))
    go_roundw
    case rel => exact ⟨k + 1, b, by omega, by go_num, HB.out.alloc HB.out.size _, (ZB _ _ _ hwl).trans H1.out, (by show b = _; rw [HSU.out, <- HBE.out]; exact (Z5Y (by rw [hp1]; rfl)).symm), b1, b2⟩
    case measure => simp [intOf]; omega
   ·rw [hp1] at HP1
    cases hp2 : Z5D r.till till
    ·rw [hp2] at HP2
     go_wp2_with (first | (go_at_call 113; refine (HP2.out _).mono ?_; rintro e w3 ⟨rfl, rfl⟩) | (go_at_call 113; refine (HP1.out _).mono ?_; rintro e w2 ⟨rfl, rfl⟩))
     go_roundw
     case rel => exact ⟨k + 1, b, by omega, by go_num, HB.out.alloc HB.out.size _, (ZB _ _ _ hwl).trans H1.out, (by show b = _; rw [HSU.out, <- HBE.out]; exact (Z5Y (by rw [hp1, hp2]; rfl)).symm), b1, b2⟩
     case measure => simp [intOf]; omega
    ·rw [hp2] at HP2
     by_cases e1 : b.zone = 0
     ·have d1 : (b.zone == 0) = true := by rw [e1]; rfl
      go_wp2_with (first | (go_at_call 113; refine (HP2.out _).mono ?_; rintro e w3 ⟨rfl, rfl⟩) | (go_at_call 113; refine (HP1.out _).mono ?_; rintro e w2 ⟨rfl, rfl⟩))
      go_roundw
      case rel => exact ⟨k + 1, r, by omega, by go_num, (Z3u HB.out (Z1 _)).alloc (by simp [World.setCell]; exact HB.out.size) _, (ZB _ _ _ (by simp [World.setCell]; exact hwl)).trans (ZfR H1'.out), (by show r = _; rw [HSU.out, <- HBE.out]; exact (Z2i hp1 hp2 (.inl e1)).symm), r1, r2⟩
      case measure => simp [intOf]; omega
     ·have d1 : (b.zone == 0) = false := by rw [beq_eq_false_iff_ne]; exact e1
      by_cases e2 : b.fr.size < r.fr.size
      ·have d2 : decide ((b.fr.size : Int) < (r.fr.size : Int)) = true := decide_eq_true (by omega)
       go_wp2_with (first | (go_at_call 113; refine (HP2.out _).mono ?_; rintro e w3 ⟨rfl, rfl⟩) | (go_at_call 113; refine (HP1.out _).mono ?_; rintro e w2 ⟨rfl, rfl⟩))
       go_roundw
       case rel => exact ⟨k + 1, r, by omega, by go_num, (Z3u HB.out (Z1 _)).alloc (by simp [World.setCell]; exact HB.out.size) _, (ZB _ _ _ (by simp [World.setCell]; exact hwl)).trans (ZfR H1'.out), (by show r = _; rw [HSU.out, <- HBE.out]; exact (Z2i hp1 hp2 (.inr (.inl e2))).symm), r1, r2⟩
       case measure => simp [intOf]; omega
      ·have d2 : decide ((b.fr.size : Int) < (r.fr.size : Int)) = false := decide_eq_false (by omega)
       by_cases e3 : r.fr.size = b.fr.size
       ·have d3 : ((r.fr.size : Int) == (b.fr.size : Int)) = true := by rw [e3]; simp
        by_cases e5 : b.till.size < r.till.size
        ·have d5 : decide ((b.till.size : Int) < (r.till.size : Int)) = true := decide_eq_true (by omega)
         go_wp2_with (first | (go_at_call 113; refine (HP2.out _).mono ?_; rintro e w3 ⟨rfl, rfl⟩) | (go_at_call 113; refine (HP1.out _).mono ?_; rintro e w2 ⟨rfl, rfl⟩))
         go_roundw
         case rel => exact ⟨k + 1, r, by omega, by go_num, (Z3u HB.out (Z1 _)).alloc (by simp [World.setCell]; exact HB.out.size) _, (ZB _ _ _ (by simp [World.setCell]; exact hwl)).trans (ZfR H1'.out), (by show r = _; rw [HSU.out, <- HBE.out]; exact (Z2i hp1 hp2 (.inr (.inr ⟨e3, e5⟩))).symm), r1, r2⟩
         case measure => simp [intOf]; omega
        ·have d5 : decide ((b.till.size : Int) < (r.till.size : Int)) = false := decide_eq_false (by omega)
         go_wp2_with (first | (go_at_call 113; refine (HP2.out _).mono ?_; rintro e w3 ⟨rfl, rfl⟩) | (go_at_call 113; refine (HP1.out _).mono ?_; rintro e w2 ⟨rfl, rfl⟩))
         go_roundw
         case rel => exact ⟨k + 1, b, by omega, by go_num, HB.out.alloc HB.out.size _, (ZB _ _ _ hwl).trans H1.out, (by show b = _; rw [HSU.out, <- HBE.out]; exact (Z43 (by omega)).symm), b1, b2⟩
         case measure => simp [intOf]; omega
       ·have d3 : ((r.fr.size : Int) == (b.fr.size : Int)) = false := by rw [beq_eq_false_iff_ne]; omega
        go_wp2_with (first | (go_at_call 113; refine (HP2.out _).mono ?_; rintro e w3 ⟨rfl, rfl⟩) | (go_at_call 113; refine (HP1.out _).mono ?_; rintro e w2 ⟨rfl, rfl⟩))
        go_roundw
        case rel => exact ⟨k + 1, b, by omega, by go_num, HB.out.alloc HB.out.size _, (ZB _ _ _ hwl).trans H1.out, (by show b = _; rw [HSU.out, <- HBE.out]; exact (Z43 (by omega)).symm), b1, b2⟩
        case measure => simp [intOf]; omega
  ·obtain rfl : k = l.length := by omega
   go_wp2_with fail
   go_ret
   rw [<- HBE.out]
   exact ⟨rfl, hb⟩
theorem ZgJ {z : Nat} {T : Tar} (hT : TarOk z T) {lo hb hc : Int} {ls : List Lev} (hF : FitT lo hb hc T ls) {vr vz v : Value} (w : World) (h : RdTar w vr vz T) (hr : RdLevs w v ls) (hf : ∀ l ∈ ls, Z0G l) (hri : Z0i ls = true) :
 Calls Tryz.prog 33 #[.agg #[vr, vz], v] w fun e w' => e = .returned (.bool true) /\ Below w.1.size w w' := by
 have hl6 := Z0z hri
 have HTR := Z0 (fun W (hW : Below w.1.size w W) => Z7q hT W (h.below hW))
 have HSR := Z0 (fun W (hW : Below w.1.size w W) => Z29 ls v W (hr.below hW) hf (by have := hl6; unfold maxLen; omega))
 rw [hri] at HSR
 have HT := Z0 hT
 obtain ⟨lo0, lo1, hc0, hlo⟩ := hF.num
 have HFC := Z0 hF.cents
 have HFB := Z0 hF.bar
 have HFL := Z0 hF.lev
 have hr20 := hT.rates
 have hz20 := hT.zn
 obtain ⟨a, ca, rfl, hcc⟩ := h.r
 obtain ⟨az, cz, rfl, _⟩ := h.z
 have HC := Z0 hcc
 obtain ⟨al, cl, rfl, hlc⟩ := hr
 have HLC := Z0 hlc
 have HB0 := Z0 ((Z9 _ w).alloc (Z1 _) (.cells #[.slice a T.rates.length ca, .slice az T.zones.length cz] 29))
 clear hcc hlc h hT hF hri hf
 go_enter Tryz.func33, Tryz.ntmps33
 go_wp2_with (first
  | (go_at_call 72; refine (HTR.out _ HB0.out).mono ?_; rintro e w1 ⟨rfl, hb1⟩; obtain ⟨k1, k2, k3⟩ := Z4p hb1; clear hb1)
  | (go_at_call 39; refine (HSR.out _ k3).mono ?_; rintro e w2 ⟨rfl, hb2⟩; have j1 := (hb2.block _ (by omega)).trans k1; have j3 := Z00 k3 k3.size hb2; have j2 := Nat.le_trans k2 hb2.size; clear hb2 k1 k2 k3))
 have HJ1 := Z0 j1
 have HJ3 := Z0 j3
 have HJ2 := Z0 j2
 clear j1 j2 j3 HTR HSR
 go_loopw [5, 23] (fun x i wr => ∃ (k : Nat) (m : Int), k <= ls.length /\ i = .int .i64 k /\ x = .int .i64 m /\ 0 <= m /\ m <= hc /\ Below w.1.size w wr /\ wr.1[w.1.size]? = some (.cells #[.slice a T.rates.length ca, .slice az T.zones.length cz] 29 (0, 0))) (fun _ i _ => ls.length - (intOf i).toNat)
 case atStart => exact ⟨0, 0, ZE _, rfl, rfl, Int.le_refl _, hc0, HJ3.out, HJ1.out⟩
 case round =>
  obtain ⟨k, m, hk, rfl, rfl, m0, m1, hb1, hbox⟩ := hrel
  have HB := Z0 hb1
  have HBOX := Z0 hbox
  have hwl := (Z5.1 hbox).1
  by_cases hlt : k < ls.length
  ·obtain ⟨g, off, rfl, hg, hst⟩ := HLC.out (by omega)
   obtain ⟨sv, hlab, hat⟩ := hst k hlt
   obtain ⟨t0, t1, t2, t3, t4⟩ := hat
   have s0 := (hb1.cell (p := ⟨g, off + k * 5, none⟩) hg).trans t0
   have s1 := (hb1.cell (p := ⟨g, off + k * 5 + 1, none⟩) hg).trans t1
   have s2 := (hb1.cell (p := ⟨g, off + k * 5 + 2, none⟩) hg).trans t2
   have s3 := (hb1.cell (p := ⟨g, off + k * 5 + 3, none⟩) hg).trans t3
   have s4 := (hb1.cell (p := ⟨g, off + k * 5 + 4, none⟩) hg).trans t4
   have hgr : g < wr.1.size := by have := hb1.size; omega
   obtain ⟨q1, q2⟩ := HFL.out _ (Z4 hlt)
   have d4 : decide ((k : Int) < (ls.length : Int)) = true := decide_eq_true (by omega)
   obtain ⟨sa, sc, rfl, _⟩ := hlab
   clear t0 t1 t2 t3 t4 hst HLC HFL hb1 hbox
   generalize ls[k] = l at s0 s1 s2 s3 s4 q1 q2
   have hmx : 0 <= max m l.cents /\ max m l.cents <= hc := ⟨Int.le_trans m0 (Int.le_max_left _ _), by omega⟩
   have HMX := Z0 hmx
   clear hmx
   go_wp2_with fail
   go_roundw
   case rel => exact ⟨k + 1, max m l.cents, by omega, by go_num, rfl, HMX.out.1, HMX.out.2, HB.out.alloc HB.out.size _, (ZB _ _ _ hwl).trans HBOX.out⟩
   case measure => simp [intOf]; omega
  ·obtain rfl : k = ls.length := by omega
   have x0 := cell_of_row _ _ 0 _ _ _ hbox
   clear HLC HFL hb1 hbox HJ1 HJ3 HJ2
   go_wp2_with fail
   go_loopw [35] (fun i wq => ∃ n : Nat, n <= T.rates.length /\ i = .int .i64 n /\ Below w.1.size w wq) (fun i _ => T.rates.length - (intOf i).toNat)
   case atStart => exact ⟨0, ZE _, rfl, HB.out⟩
   case round =>
    clear HB HBOX hwl x0
    obtain ⟨n, hn, rfl, hb2⟩ := hrel
    have HB := Z0 hb2
    by_cases hnl : n < T.rates.length
    ·obtain ⟨g, off, rfl, hg, hst⟩ := HC.out (by omega)
     obtain ⟨sv, hsv, hat⟩ := hst n hnl
     obtain ⟨c0, c1, c2⟩ := hat.below hb2 hg
     have hgr : g < wr.1.size := by have := hb2.size; omega
     have d4 : decide ((n : Int) < (T.rates.length : Int)) = true := decide_eq_true (by omega)
     obtain ⟨_, _, hok⟩ := HT.out.rate _ (Z4 hnl)
     have hbar := hok.bar
     have hsn := hok.some_
     have hzl := fun s hs => (hok.cents s hs).1
     have HZL := Z0 hzl
     have HCU := Z0 (fun s hs c hcx => ((hok.cents s hs).2 c hcx).2)
     have hbb := HFB.out _ (Z4 hnl)
     have HLO := Z0 (HFC.out _ (Z4 hnl))
     obtain ⟨sa, sc, rfl, hss⟩ := hsv
     have HSS := Z0 hss
     clear hst hat HC HFB HFC hok hzl hss hb2
     generalize T.rates[n] = r at c0 c1 c2 hbar hsn HZL HCU hbb HLO HSS
     go_wp2_with fail
     go_loopw [10, 42] (fun x i wq => ∃ (j : Nat) (y : Int), j <= r.steps.length /\ i = .int .i64 j /\ x = .int .i64 y /\ lo <= y /\ y <= 1000000 /\ Below w.1.size w wq /\ wq.1[wr.1.size]? = some (.cells #[.int .u8 r.cls, .slice sa r.steps.length sc, .int .i64 r.bar] 60 (0, 0))) (fun _ i _ => r.steps.length - (intOf i).toNat)
     case atStart => exact ⟨0, 1000000, ZE _, rfl, rfl, by omega, by omega, HB.out.alloc HB.out.size _, Z01 _ _⟩
     case round =>
      obtain ⟨j, y, hj, rfl, rfl, y0, y1, hb3, h3⟩ := hrel
      have HB3 := Z0 hb3
      have H3 := Z0 h3
      have hwl3 := (Z5.1 h3).1
      by_cases hjl : j < r.steps.length
      ·obtain ⟨gs, os, rfl, hgs, hsc⟩ := HSS.out (by omega)
       obtain ⟨cv, hcv, hcell⟩ := hsc j hjl
       have f0 : wr.cell? ⟨gs, os + j * 2, none⟩ = some (.int .i64 r.steps[j].grams) := (hb3.cell (p := ⟨gs, os + j * 2, none⟩) hgs).trans (hcell 0 _ rfl)
       have f1 : wr.cell? ⟨gs, os + j * 2 + 1, none⟩ = some cv := (hb3.cell (p := ⟨gs, os + j * 2 + 1, none⟩) hgs).trans (hcell 1 _ rfl)
       have hgsr : gs < wr.1.size := by have := hb3.size; omega
       have hzc := HZL.out _ (Z4 hjl)
       have HMIN : Hid (∀ W, Below w.1.size w W -> Calls Tryz.prog 73 #[cv] W fun e w' => ∃ m, m ∈ r.steps[j].cents /\ e = .returned (.int .i64 m) /\ w' = W) := fun W hW => ZhV _ _ W (hcv.below hW) (by omega) (by omega)
       have HM1 := Z0 (HLO.out _ (Z4 hjl))
       have HM2 := Z0 (HCU.out _ (Z4 hjl))
       obtain ⟨ax, cx, rfl, _⟩ := hcv
       have d6 : decide ((j : Int) < (r.steps.length : Int)) = true := decide_eq_true (by omega)
       clear hcell hsc HSS HZL HLO HCU hb3 h3 hzc
       generalize r.steps[j] = st at f0 f1 HMIN HM1 HM2
       go_wp2_with (go_at_call 73; refine (HMIN.out _ (HB3.out.alloc HB3.out.size _)).mono ?_; rintro e w5 ⟨m, hm, rfl, rfl⟩; have n1 := HM1.out m hm; have n2 := HM2.out m hm; have HMN : Hid (lo <= min y m /\ min y m <= 1000000) := (⟨by omega, by omega⟩ : lo <= min y m /\ min y m <= 1000000); clear hm)
       go_roundw
       case rel => exact ⟨j + 1, min y m, by omega, by go_num, rfl, HMN.out.1, HMN.out.2, HB3.out.alloc HB3.out.size _, (ZB _ _ _ hwl3).trans H3.out⟩
       case measure => simp [intOf]; omega
      ·obtain rfl : j = r.steps.length := by omega
       have x2 := cell_of_row _ _ 2 _ _ _ h3
       have hw1 : IntKind.i64.wrap (y - r.bar) = y - r.bar := IntWalk.i64_in _ (by omega)
       have hw2 : IntKind.i64.wrap (y - r.bar - m) = y - r.bar - m := IntWalk.i64_in _ (by omega)
       have d7 : decide (y - r.bar - m < 0) = false := decide_eq_false (by omega)
       clear HSS HZL HLO HCU hb3 h3
       go_wp2_with fail
       go_roundw
       case rel => exact ⟨n + 1, by omega, by go_num, HB3.out⟩
       case measure => simp [intOf]; omega
    ·obtain rfl : n = T.rates.length := by omega
     go_wp2_with fail
     go_ret
     exact ⟨rfl, HB.out⟩
end Go.Proofs.YtlgajongmkhcnaaGreatDoor
namespace Go.Proofs.YtlgajongmkhcnaaGreatDoor
open Go.RowKit Go.Sort
set_option maxRecDepth 100000
theorem Zag {z : Nat} {T : Tar} (hT : TarOk z T) (fr till : ByteArray) : 1 <= Z4L T.zones fr till /\ Z4L T.zones fr till <= z := by
 have key : ∀ k, k <= T.zones.length -> ((Z2x T.zones fr till k).zone = 0 \/ (1 <= (Z2x T.zones fr till k).zone /\ (Z2x T.zones fr till k).zone <= z)) /\ ((∃ j, j < k /\ ∃ h : j < T.zones.length, T.zones[j].fr.size = 0 /\ T.zones[j].till.size = 0) -> (Z2x T.zones fr till k).zone ≠ 0) := fun k => by
  induction k with
  | zero => exact fun _ => ⟨.inl rfl, fun ⟨j, hj, _⟩ => absurd hj (Nat.not_lt_zero _)⟩
  | succ k ih =>
   intro hk
   obtain ⟨i1, i2⟩ := ih (by omega)
   have hrow := (hT.row _ (Z4 (show k < T.zones.length by omega))).2.2
   rw [Z5X _ _ _ _ (by omega)]
   have hst : Z1y fr till (Z2x T.zones fr till k) (T.zones[k]'(by omega)) = Z2x T.zones fr till k \/ Z1y fr till (Z2x T.zones fr till k) (T.zones[k]'(by omega)) = T.zones[k]'(by omega) := by
    unfold Z1y
    split
    ·split
     ·exact .inr rfl
     ·exact .inl rfl
    ·exact .inl rfl
   refine ⟨?_, fun ⟨j, hj, h, h1, h2⟩ => ?_⟩
   ·rcases hst with e | e
    ·rw [e]; exact i1
    ·rw [e]; exact .inr hrow
   ·by_cases ej : j = k
    ·subst ej
     by_cases e0 : (Z2x T.zones fr till j).zone = 0
     ·rw [Z2i (Z9l h1 fr) (Z9l h2 till) (.inl e0)]
      omega
     ·rcases hst with e | e
      ·rw [e]; exact e0
      ·rw [e]; omega
    ·have := i2 ⟨j, by omega, h, h1, h2⟩
     rcases hst with e | e
     ·rw [e]; exact this
     ·rw [e]; omega
 obtain ⟨r, hr, h1, h2⟩ := hT.all
 obtain ⟨j, hj, rfl⟩ := List.getElem_of_mem hr
 obtain ⟨k1, k2⟩ := key T.zones.length (Z1 _)
 have := k2 ⟨j, hj, hj, h1, h2⟩
 unfold Z4L
 omega
def Z0w (T : Tar) (r : Rat) (m : Mai) (i : Nat) : Int × Int := let p := m.ps.getD i ⟨0, 0, ⟨#[]⟩, 0, false⟩; Z4f r (Z4L T.zones m.origin p.code) p.grams
theorem Zc0 {m : Mai} (h : Z21 m = true) : (1 <= m.cls /\ 1 <= m.ctr /\ m.ctr <= 3) /\ Z0C m.origin = true /\ m.ps.length <= 2000 := by
 unfold Z21 at h
 simp only [ZF, decide_eq_true_eq] at h
 exact ⟨h.1, h.2.1, h.2.2.1⟩
theorem Z8W {w w' : World} (h : w.grownBy w' none) : Below w.1.size w w' := ⟨h.os, h.tape, h.output, h.size, fun k hk => h.block k hk (by simp)⟩
theorem Zhm : (Tryz.prog.info? 3).map (fun i => (i.zero, i.size, i.bytes)) = some (some (.int .i64 0), 1, 8) := by kernel_rfl
theorem Z8X {z : Nat} {T : Tar} (hT : TarOk z T) {vr vz vp : Value} {m : Mai} (w : World) (h : RdTar w vr vz T) (hrp : RdPces w vp m.ps) (hm : Z21 m = true) (h8 : m.cls <= 255) (hcz : ∀ p ∈ m.ps, p.code.size <= maxLen) {q : Nat} (hq : q < T.rates.length) (hqc : T.rates[q].cls = m.cls)
 (hok : ∀ i, i < m.ps.length -> (Z0w T T.rates[q] m i).2 = 0) :
 Calls Tryz.prog 35 #[.agg #[vr, vz], Z22 m vp] w fun e w' => ∃ g, e = .returned (.tuple #[.slice (some ⟨g, 0, none⟩) m.ps.length m.ps.length, .int .i64 0]) /\ Below w.1.size w w' /\ w.1.size <= g /\
  w'.ownsRow w.1.size 3 1 (.slice (some ⟨g, 0, none⟩) m.ps.length m.ps.length) m.ps.length ((List.range m.ps.length).map (fun i => Value.int .i64 (Z0w T T.rates[q] m i).1)) := by
 obtain ⟨i0, hi⟩ := info_parts Zhm
 have HI := Z0 hi
 clear hi
 obtain ⟨m1, m2, m3⟩ := Zc0 hm
 have hos : m.origin.size <= maxLen := by have := Z0s m2; unfold maxLen; omega
 have HTR := Z0 (fun W (hW : Below w.1.size w W) => Z7q hT W (h.below hW))
 have HML := Z0 (fun W (hW : Below w.1.size w W) => Z2T m vp W (hrp.below hW) ⟨by omega, h8, by omega, by omega⟩ hos (by omega) hcz)
 rw [hm] at HML
 have HRO := Z0 (fun W (hW : Below w.1.size w W) => Z7B m.cls W (h.below hW) hT.rates.2 hq hqc (fun i hi hlt e => by have := Za4 hT.apart hi hq (e.trans hqc.symm); omega))
 have HZN : Hid (∀ W (c : ByteArray), Below w.1.size w W -> Calls Tryz.prog 76 #[vz, .string m.origin, .string c] W fun e w' => e = .returned (.int .i64 (Z4L T.zones m.origin c)) /\ Below W.1.size W w') := fun W c hW =>
  Zcp T.zones vz m.origin c W (h.z.below hW) hT.zones.2 (fun r hr => by
   obtain ⟨x1, x2, _⟩ := hT.row r hr
   constructor
   ·rcases x1 with x | x
    ·omega
    ·have := Z0s x; omega
   ·rcases x2 with x | x
    ·omega
    ·have := Z0s x; omega)
 have HPR : Hid (∀ W (i : Nat) sv, Z30 W sv T.rates[q].steps -> i < m.ps.length -> Calls Tryz.prog 75 #[ZiL T.rates[q] sv, .int .i64 (Z4L T.zones m.origin (m.ps.getD i ⟨0, 0, ⟨#[]⟩, 0, false⟩).code), .int .i64 (m.ps.getD i ⟨0, 0, ⟨#[]⟩, 0, false⟩).grams] W fun e w' => e = .returned (.tuple #[.int .i64 (Z0w T T.rates[q] m i).1, .int .i64 0]) /\ Below W.1.size W w') := fun W i sv hs hi => by
  have := Ze6 (hT.rate _ (Z4 hq)).2.2 sv (Z4L T.zones m.origin (m.ps.getD i ⟨0, 0, ⟨#[]⟩, 0, false⟩).code) (m.ps.getD i ⟨0, 0, ⟨#[]⟩, 0, false⟩).grams W hs (Zag hT _ _) hT.zn.2
  have e := hok i hi
  unfold Z0w at e ⊢
  rw [e] at this
  exact this
 obtain ⟨a, ca, rfl, _⟩ := h.r
 obtain ⟨az, cz, rfl, _⟩ := h.z
 obtain ⟨ap, cp, rfl, hpc⟩ := hrp
 have HPC := Z0 hpc
 generalize T.rates[q] = r at HRO HPR ⊢
 clear hpc h hT hm hqc hok hcz m2 hos hq
 obtain ⟨t1, t2, t3, t4⟩ := Z1U (w := w) (A := .cells #[.slice a T.rates.length ca, .slice az T.zones.length cz] 29) (B := .cells #[.int .u8 m.cls, .int .u8 m.ctr, .string m.origin, .slice ap m.ps.length cp] 34) rfl
 have HT4 := Z0 t4
 clear t1 t2 t3 t4
 unfold Z22 at HML ⊢
 unfold ZiL at HRO HPR
 go_enter Tryz.func35, Tryz.ntmps35
 go_wp2_with (first
  | (go_at_call 34; refine (HML.out _ k4).mono ?_; rintro e w2 ⟨rfl, hb2⟩; have j1 := (hb2.block _ (by omega)).trans k1; have j2 := (hb2.block _ (by omega)).trans k2; have j4 := Z00 k4 k4.size hb2; have j3 := Nat.le_trans k3 hb2.size; clear hb2 k1 k2 k3 k4; have x10 := cell_of_row _ _ 0 _ _ _ j1; have x11 := cell_of_row _ _ 1 _ _ _ j1; have x20 := cell_of_row _ _ 0 _ _ _ j2)
  | (go_at_call 72; refine (HTR.out _ HT4.out).mono ?_; rintro e w1 ⟨rfl, hb1⟩; obtain ⟨k1, k2, k3, k4⟩ := Z46 hb1; clear hb1; have x20 := cell_of_row _ _ 0 _ _ _ k2; have x21 := cell_of_row _ _ 1 _ _ _ k2; have x22 := cell_of_row _ _ 2 _ _ _ k2; have x23 := cell_of_row _ _ 3 _ _ _ k2)
  | (go_at_call 36; refine (HRO.out _ j4).mono ?_; rintro e w3 ⟨sv, rfl, hb3, hsv⟩; obtain ⟨sva, svc, rfl, _⟩ := id hsv; have i1 := (hb3.block _ (by omega)).trans j1; have i2 := (hb3.block _ (by omega)).trans j2; have i4 := Z00 j4 j4.size hb3; have i3 := Nat.le_trans j3 hb3.size; clear hb3 j1 j2 j3 j4 x20 x21 x22 x23 x10 x11; have z0 := cell_of_row _ _ 3 _ _ _ i2; have hlz : w.1.size + 1 < w3.1.size := by omega)
  | (at_make; refine wpList_make_own _ rfl _ _ 35 rfl w.1.size 3 i0 (.int .i64 0) 1 Tryz.underlying35 HI.out.1 HI.out.2.1 HI.out.2.2.1 _ _ _ m.ps.length rfl (by first | rfl | simp) rfl (by rw [HI.out.2.2.2]; omega) (by unfold maxLen; omega) (by have := i4.size; simp; omega) ?_; intro w4 hown hgrow; rw [Z6] at hown; obtain ⟨l1, l2, l3⟩ := Z4p (Z8W hgrow); have n1 := (l3.block _ (by omega)).trans i1; have n2 := (l3.block _ (by omega)).trans i2; have n4 := Z00 i4 i4.size l3; have z4 := cell_of_row _ _ 3 _ _ _ n2; clear hgrow))
 have HL1 := Z0 l1
 have HL3 := Z0 l3
 have HN1 := Z0 n1
 have HN2 := Z0 n2
 have HN4 := Z0 n4
 have HOWN := Z0 hown
 have HSV := Z0 hsv
 have HW3 := Z0 i3
 have HB4 := Z0 i4
 clear l1 l2 l3 n1 n2 n4 z4 hown hsv i1 i2 i3 i4 z0 hlz HTR HML HRO HT4
 go_loopw [8, 37] (fun x i wr => ∃ k : Nat, k <= m.ps.length /\ i = .int .i64 k /\ x = .slice (some ⟨w3.1.size + 1, 0, none⟩) k m.ps.length /\ Below w.1.size w wr /\ Below w3.1.size w3 wr /\ wr.1[w.1.size]? = some (.cells #[.slice a T.rates.length ca, .slice az T.zones.length cz] 29 (0, 0)) /\ wr.1[w.1.size + 1]? = some (.cells #[.int .u8 m.cls, .int .u8 m.ctr, .string m.origin, .slice ap m.ps.length cp] 34 (0, 0)) /\
  wr.1[w3.1.size]? = some (.cells #[.int .u8 r.cls, .slice sva r.steps.length svc, .int .i64 r.bar] 60 (0, 0)) /\ wr.ownsRow w.1.size 3 1 (.slice (some ⟨w3.1.size + 1, 0, none⟩) k m.ps.length) k ((List.range k).map (fun i => Value.int .i64 (Z0w T r m i).1))) (fun _ i _ => m.ps.length - (intOf i).toNat)
 case atStart => exact ⟨0, ZE _, rfl, rfl, HN4.out, HL3.out, HN1.out, HN2.out, HL1.out, HOWN.out⟩
 case round =>
  clear HL1 HL3 HN1 HN2 HN4 HOWN
  obtain ⟨k, hk, rfl, rfl, hB, hB3, hx1, hx2, hx3, hO⟩ := hrel
  have HB := Z0 hB
  have HB3 := Z0 hB3
  have HX1 := Z0 hx1
  have HX2 := Z0 hx2
  have HX3 := Z0 hx3
  have HO := Z0 hO
  by_cases hlt : k < m.ps.length
  ·obtain ⟨g, off, rfl, hg, hst⟩ := HPC.out (by omega)
   obtain ⟨p0, p1, p2, p3, p4⟩ := (hst k hlt).below hB hg
   have hgr : g < wr.1.size := by have := hB.size; omega
   have d4 : decide ((k : Int) < (m.ps.length : Int)) = true := decide_eq_true (by omega)
   have hpk : m.ps.getD k ⟨0, 0, ⟨#[]⟩, 0, false⟩ = m.ps[k] := by rw [Z2, Z3 hlt]; rfl
   have HPK : Hid (∀ W, Below wr.1.size wr W -> Calls Tryz.prog 75 #[.agg #[.int .u8 r.cls, .slice sva r.steps.length svc, .int .i64 r.bar], .int .i64 (Z4L T.zones m.origin m.ps[k].code), .int .i64 m.ps[k].grams] W fun e w' => e = .returned (.tuple #[.int .i64 (Z0w T r m k).1, .int .i64 0]) /\ Below W.1.size W w') := fun W hW => by
    have := HPR.out W k _ (HSV.out.below (Z00 HB3.out HB3.out.size hW)) hlt
    rw [hpk] at this
    exact this
   have HZK : Hid (∀ W, Below wr.1.size wr W -> Calls Tryz.prog 76 #[.slice az T.zones.length cz, .string m.origin, .string m.ps[k].code] W fun e w' => e = .returned (.int .i64 (Z4L T.zones m.origin m.ps[k].code)) /\ Below W.1.size W w') := fun W hW => HZN.out W _ (Z00 HB.out HB.out.size hW)
   have hs3 := (Z5.1 hx3).1
   have hs2 := (Z5.1 hx2).1
   have hs1 := (Z5.1 hx1).1
   clear hst HPC HPR HZN HSV hB hB3 hx1 hx2 hx3 hO hpk
   generalize m.ps[k] = p at p0 p1 p2 p3 p4 HPK HZK
   generalize Z4L T.zones m.origin p.code = zz at HPK HZK
   generalize hpr : (Z0w T r m k).1 = pr at HPK
   have HPRK := Z0 hpr
   clear hpr
   obtain ⟨Wp, hWp⟩ : ∃ Wp, Wp = wr.alloc (.cells #[.int .i64 p.id, .int .i64 p.point, .string p.code, .int .i64 p.grams, .bool p.barred] 65) := ⟨_, rfl⟩
   have hBp : Below wr.1.size wr Wp := by rw [hWp]; exact (Z9 _ _).alloc (Z1 _) _
   have hpp : Wp.1[wr.1.size]? = some (.cells #[.int .i64 p.id, .int .i64 p.point, .string p.code, .int .i64 p.grams, .bool p.barred] 65 (0, 0)) := by rw [hWp]; exact Z01 _ _
   have b1 := (hBp.block _ hs1).trans HX1.out
   have b2 := (hBp.block _ hs2).trans HX2.out
   have b3 := (hBp.block _ hs3).trans HX3.out
   have s0 := Z2f (cell_of_row _ _ 0 _ _ _ b3)
   have s1 := Z2f (cell_of_row _ _ 1 _ _ _ b3)
   have s2 := Z2f (cell_of_row _ _ 2 _ _ _ b3)
   have s3 := Z2f (cell_of_row _ _ 1 _ _ _ b1)
   have s4 := Z2f (cell_of_row _ _ 2 _ _ _ b2)
   have s5 := Z2f (cell_of_row _ _ 2 _ _ _ hpp)
   have s6 := Z2f (cell_of_row _ _ 3 _ _ _ hpp)
   have HZ2 : Hid (∀ W, Below Wp.1.size Wp W -> Calls Tryz.prog 76 #[.slice az T.zones.length cz, .string m.origin, .string p.code] W fun e w' => e = .returned (.int .i64 zz) /\ Below W.1.size W w') := fun W hW => HZK.out W (Z00 hBp hBp.size hW)
   have HP2 : Hid (∀ W, Below Wp.1.size Wp W -> Calls Tryz.prog 75 #[.agg #[.int .u8 r.cls, .slice sva r.steps.length svc, .int .i64 r.bar], .int .i64 zz, .int .i64 p.grams] W fun e w' => e = .returned (.tuple #[.int .i64 pr, .int .i64 0]) /\ Below W.1.size W w') := fun W hW => HPK.out W (Z00 hBp hBp.size hW)
   have HBP := Z0 hBp
   clear hBp hpp b1 b2 b3 HZK HPK
   go_wp2_with fail
   rw [<- hWp]
   clear hWp
   refine wp_region_quiet_below (by kernel_rfl) (by kernel_rfl) ?_
   repeat (go_big_quiet_step ((first | (with_reducible exact Z7A HZ2.out _) | (with_reducible exact Z7A HP2.out _))))
   refine wpQuiet_nil ?_
   intro _ hw'
   obtain ⟨pp, hw''⟩ := hw'
   subst hw''
   have hBq : Below wr.1.size wr (grow (redrawn Wp pp.d) pp.os) := Z00 HBP.out HBP.out.size (Zfy Wp pp)
   generalize grow (redrawn Wp pp.d) pp.os = Wq at hBq ⊢
   have hOq := HO.out.kept (Z0a hBq) (Classical.em _)
   have HBQ := Z0 hBq
   have hzq := hBq.size
   have hzw := HB.out.size
   clear hBq s0 s1 s2 s3 s4 s5 s6 HZ2 HP2 HBP
   go_wp2_with (at_builtin; refine wpList_append_fits _ rfl _ _ 35 rfl w.1.size 3 i0 1 Tryz.underlying35 HI.out.1 HI.out.2.2.1 (w3.1.size + 1) k m.ps.length _ rfl (hOq.alloc _) ⟨Wq.1.size, 0, none⟩ 1 1 [.int .i64 pr] rfl rfl (cell_one_new _ _ _) (by simp [Value.oneCell']) (by omega) ?_; intro w6 hown6 hgrow6)
   have hB6 : Below wr.1.size wr (Wq.alloc (.cells #[.int .i64 pr] 3)) := HBQ.out.alloc hzq _
   have hle : w3.1.size + 1 < wr.1.size := (HO.out.lt _ rfl).2
   have hw3 := HB4.out.size
   have hk6 : ∀ b, b < w3.1.size + 1 -> w6.1[b]? = wr.1[b]? := fun b hb => (hgrow6.block b (by simp; omega) (by intro e; have := Option.some.inj e; omega)).trans (hB6.block b (by omega))
   go_roundw
   case rel =>
    refine ⟨k + 1, by omega, by go_num, rfl, (Z00 HB.out HB.out.size hB6).grown hgrow6 (by simp; omega) (fun r e => by rw [<- Option.some.inj e]; omega), (Z00 HB3.out HB3.out.size hB6).grown hgrow6 (by simp; have := HB3.out.size; omega) (fun r e => by rw [<- Option.some.inj e]; omega), (hk6 _ (by omega)).trans HX1.out, (hk6 _ (by have := HW3.out; omega)).trans HX2.out, (hk6 _ (by omega)).trans HX3.out, ?_⟩
    rw [List.range_succ, ZD, List.map_singleton, HPRK.out]
    exact hown6
   case measure => simp [intOf]; omega
  ·obtain rfl : k = m.ps.length := by omega
   go_wp2_with fail
   go_ret2
   exact ⟨_, rfl, HB.out, by have := HB4.out.size; omega, HO.out⟩
theorem Zg8 {z : Nat} {r : Rat} (hr : RatOk z r) {zz g : Int} (hz : 1 <= zz /\ zz <= z) (h : (Z4f r zz g).2 = 0) : ∃ s ∈ r.steps, (Z4f r zz g).1 ∈ s.cents := by
 unfold Z4f at h ⊢
 split at h
 ·cases h
 ·rename_i hs
  rw [if_neg hs]
  rcases Z9N (fun s : Stp => decide (g <= s.grams)) r.steps with ⟨h1, _⟩ | ⟨q, hq, h1, _⟩
  ·exact absurd h1 (fun e => hs (by unfold stepOf; omega))
  ·have hst : stepOf r.steps g = q := h1
   rw [hst, Int.toNat_natCast, Z2, Z3 hq]
   refine ⟨r.steps[q], Z4 hq, ?_⟩
   show Z5w r.steps[q] zz ∈ r.steps[q].cents
   have hl := (hr.cents _ (Z4 hq)).1
   unfold Z5w
   rw [Z2, Z3 (by omega)]
   exact Z4 _
def Z71 (ls : List Lev) (n : Int) : Int := (ls.getD n.toNat ⟨⟨#[]⟩, 0, [], 0, 0⟩).cents
def Za6 (m : Mai) (i : Nat) : Bool := (m.ps.getD i ⟨0, 0, ⟨#[]⟩, 0, false⟩).barred
def Z51 (T : Tar) (r : Rat) (ls : List Lev) (m : Mai) (zs : List Int) (i : Nat) : Int := (Z0w T r m i).1 - (if Za6 m i then r.bar else 0) - Z71 ls (zs.getD i (-1))
theorem Z6f {F : Nat -> Value} {n k : Nat} (u : Value) (hk : k < n) : ((List.range n).map F).set k u = (List.range n).map (fun i => if i = k then u else F i) := by
 refine List.ext_getElem (by simp) (fun q h1 h2 => ?_)
 rw [List.getElem_set]
 simp only [List.getElem_map, List.getElem_range]
 by_cases e : k = q
 ·rw [if_pos e, if_pos e.symm]
 ·rw [if_neg e, if_neg (fun e' => e e'.symm)]
theorem Z5J {F : Nat -> Value} {n k : Nat} (hk : k < n) : ((List.range n).map F)[k]? = some (F k) := by
 rw [List.getElem?_map, List.getElem?_range hk]; rfl
theorem Z7E {z : Nat} {T : Tar} (hT : TarOk z T) {lo hb hc : Int} {ls : List Lev} (hF : FitT lo hb hc T ls) {vr vz vp vl vn : Value} {m : Mai} {zs : List Int} (w : World) (h : RdTar w vr vz T) (hr : RdLevs w vl ls) (hf : ∀ l ∈ ls, Z0G l) (hri : Z0i ls = true)
 (hrp : RdPces w vp m.ps) (hm : Z21 m = true) (h8 : m.cls <= 255) (hcz : ∀ p ∈ m.ps, p.code.size <= maxLen) (hn : RdInts w vn zs) (hzl : zs.length = m.ps.length) (hzs : ∀ x ∈ zs, 0 <= x /\ x < (ls.length : Int)) {q : Nat} (hq : q < T.rates.length) (hqc : T.rates[q].cls = m.cls)
 (hok : ∀ i, i < m.ps.length -> (Z0w T T.rates[q] m i).2 = 0) :
 Calls Tryz.prog 13 #[.agg #[vr, vz], vl, Z22 m vp, vn] w fun e w' => ∃ g, e = .returned (.tuple #[.slice (some ⟨g, 0, none⟩) m.ps.length m.ps.length, .int .i64 0]) /\ Below w.1.size w w' /\ w.1.size <= g /\
  w'.ownsRow w.1.size 3 1 (.slice (some ⟨g, 0, none⟩) m.ps.length m.ps.length) m.ps.length ((List.range m.ps.length).map (fun i => Value.int .i64 (Z51 T T.rates[q] ls m zs i))) := by
 obtain ⟨m1, m2, m3⟩ := Zc0 hm
 have hl6 := Z0z hri
 have hos : m.origin.size <= maxLen := by have := Z0s m2; unfold maxLen; omega
 have HFT := Z0 (fun W (hW : Below w.1.size w W) => ZgJ hT hF W (h.below hW) (hr.below hW) hf hri)
 have HML := Z0 (fun W (hW : Below w.1.size w W) => Z2T m vp W (hrp.below hW) ⟨by omega, h8, by omega, by omega⟩ hos (by omega) hcz)
 have HBA := Z0 (fun W (hW : Below w.1.size w W) => Z8X hT W (h.below hW) (hrp.below hW) hm h8 hcz hq hqc hok)
 rw [hm] at HML
 have HRO := Z0 (fun W (hW : Below w.1.size w W) => Z7B m.cls W (h.below hW) hT.rates.2 hq hqc (fun i hi hlt e => by have := Za4 hT.apart hi hq (e.trans hqc.symm); omega))
 have hbar := (hT.rate _ (Z4 hq)).2.2.bar
 have HBI : Hid (∀ i, i < m.ps.length -> 0 <= (Z0w T T.rates[q] m i).1 /\ (Z0w T T.rates[q] m i).1 <= 1000000) := fun i hi => by
  obtain ⟨s, hs, hcx⟩ := Zg8 (hT.rate _ (Z4 hq)).2.2 (Zag hT _ _) (hok i hi)
  exact ((hT.rate _ (Z4 hq)).2.2.cents s hs).2 _ hcx
 obtain ⟨lo0, lo1, hc0, hlo⟩ := hF.num
 have HFL := Z0 hF.lev
 have hcx : hc <= 1000000 := by
  have := hF.bar _ (Z4 hq)
  omega
 obtain ⟨a, ca, rfl, _⟩ := h.r
 obtain ⟨az, cz, rfl, _⟩ := h.z
 obtain ⟨ap, cp, rfl, hpc⟩ := hrp
 obtain ⟨al, cl, rfl, hlc⟩ := hr
 obtain ⟨an, cn, rfl, hnc⟩ := hn
 have HPC := Z0 hpc
 have HLC := Z0 hlc
 have HNC := Z0 hnc
 have HZS := Z0 hzs
 have HZS2 := Z0 hzs
 have HZL := Z0 hzl
 obtain ⟨R, hR⟩ : ∃ R : Nat -> Int, R = Z51 T T.rates[q] ls m zs := ⟨_, rfl⟩
 obtain ⟨Bs, hBs⟩ : ∃ Bs : Nat -> Int, Bs = fun i => (Z0w T T.rates[q] m i).1 := ⟨_, rfl⟩
 have HRE : Hid (∀ i, R i = Bs i - (if Za6 m i then T.rates[q].bar else 0) - Z71 ls (zs.getD i (-1))) := fun i => by rw [hR, hBs]; rfl
 have HBI2 : Hid (∀ i, i < m.ps.length -> 0 <= Bs i /\ Bs i <= 1000000) := fun i hi => by rw [hBs]; exact HBI.out i hi
 have HBA2 : Hid (∀ W, Below w.1.size w W -> Calls Tryz.prog 35 #[.agg #[.slice a T.rates.length ca, .slice az T.zones.length cz], Z22 m (.slice ap m.ps.length cp)] W fun e w' => ∃ g, e = .returned (.tuple #[.slice (some ⟨g, 0, none⟩) m.ps.length m.ps.length, .int .i64 0]) /\ Below W.1.size W w' /\ W.1.size <= g /\
  w'.ownsRow W.1.size 3 1 (.slice (some ⟨g, 0, none⟩) m.ps.length m.ps.length) m.ps.length ((List.range m.ps.length).map (fun i => Value.int .i64 (Bs i)))) := fun W hW => by rw [hBs]; exact HBA.out W hW
 have hgoal : (fun i => Value.int .i64 (Z51 T T.rates[q] ls m zs i)) = fun i => Value.int .i64 (R i) := by rw [hR]
 rw [hgoal]
 clear hgoal hR hBs HBA HBI
 generalize T.rates[q] = r at HRO hbar HRE
 clear hpc hlc hnc hzs h hT hm hqc hok hcz m2 hos hq hF hf hri
 have hzl2 : ((zs.length : Int) != (m.ps.length : Int)) = false := by rw [hzl]; simp
 have hzl3 : zs.length <= 2000 := by omega
 clear hzl
 obtain ⟨t1, t2, t3, t4⟩ := Z1U (w := w) (A := .cells #[.slice a T.rates.length ca, .slice az T.zones.length cz] 29) (B := .cells #[.int .u8 m.cls, .int .u8 m.ctr, .string m.origin, .slice ap m.ps.length cp] 34) rfl
 have HT4 := Z0 t4
 clear t1 t2 t3 t4
 unfold Z22 at HML HBA2 ⊢
 unfold ZiL at HRO
 go_enter Tryz.func13, Tryz.ntmps13
 go_wp2_with (first
  | (go_at_call 34; refine (HML.out _ k4).mono ?_; rintro e w2 ⟨rfl, hb2⟩; have j1 := (hb2.block _ (by omega)).trans k1; have j2 := (hb2.block _ (by omega)).trans k2; have j4 := Z00 k4 k4.size hb2; have j3 := Nat.le_trans k3 hb2.size; clear hb2 k1 k2 k3 k4 x20 x21 x22; have x23 := cell_of_row _ _ 3 _ _ _ j2)
  | (go_at_call 33; refine (HFT.out _ HT4.out).mono ?_; rintro e w1 ⟨rfl, hb1⟩; obtain ⟨k1, k2, k3, k4⟩ := Z46 hb1; clear hb1; have x20 := cell_of_row _ _ 0 _ _ _ k2; have x21 := cell_of_row _ _ 1 _ _ _ k2; have x22 := cell_of_row _ _ 2 _ _ _ k2; have x23 := cell_of_row _ _ 3 _ _ _ k2))
 have HJ1 := Z0 j1
 have HJ2 := Z0 j2
 have HJ3 := Z0 j3
 have HJ4 := Z0 j4
 clear j1 j2 j3 j4 x23 HFT HML HT4 hzl2
 go_loop [37] (fun i => ∃ k : Nat, k <= zs.length /\ i = .int .i64 k) (fun i => zs.length - (intOf i).toNat)
 case atStart => exact ⟨0, ZE _, rfl⟩
 case round =>
  obtain ⟨k, hk, rfl⟩ := hrel
  by_cases hlt : k < zs.length
  ·obtain ⟨gz, oz, rfl, hgz, hcell⟩ := HNC.out (by omega)
   have c1 := (HJ4.out.cell (p := ⟨gz, oz + k, none⟩) hgz).trans (hcell k hlt)
   have hgr : gz < w2.1.size := by have := HJ4.out.size; omega
   obtain ⟨s1, s2⟩ := HZS.out _ (Z4 hlt)
   clear hcell
   generalize zs[k] = y at c1 s1 s2
   have d1 : decide (y < 0) = false := decide_eq_false (by omega)
   have d2 : decide ((ls.length : Int) <= y) = false := decide_eq_false (by omega)
   have d4 : decide ((k : Int) < (zs.length : Int)) = true := decide_eq_true (by omega)
   go_wp2_with fail
   go_round
   case rel => exact ⟨k + 1, by omega, by go_num⟩
   case measure => simp [intOf]; omega
  ·obtain rfl : k = zs.length := by omega
   have x20 := cell_of_row _ _ 0 _ _ _ HJ2.out
   have x21 := cell_of_row _ _ 1 _ _ _ HJ2.out
   have x22 := cell_of_row _ _ 2 _ _ _ HJ2.out
   have x23 := cell_of_row _ _ 3 _ _ _ HJ2.out
   have x10 := cell_of_row _ _ 0 _ _ _ HJ1.out
   have x11 := cell_of_row _ _ 1 _ _ _ HJ1.out
   go_wp2_with (first
    | (go_at_call 36; refine (HRO.out _ i4).mono ?_; rintro e w4 ⟨sv, rfl, hb4, hsv⟩; obtain ⟨sva, svc, rfl, _⟩ := id hsv; have n1 := (hb4.block _ (by omega)).trans i1; have n2 := (hb4.block _ (by omega)).trans i2; have n4 := Z00 i4 i4.size hb4; have n3 := Nat.le_trans i3 hb4.size; have n5 := hown3.kept (Z0a hb4) (Classical.em _); clear hb4 i1 i2 i4 hown3 y20 y21 y22 y23 y10 y11; have z3 := cell_of_row _ _ 3 _ _ _ n2; have hlz : w.1.size + 1 < w4.1.size := by omega)
    | (go_at_call 35; refine (HBA2.out _ HJ4.out).mono ?_; rintro e w3 ⟨G, rfl, hb3, hG, hown3⟩; have i1 := (hb3.block _ (by have := HJ3.out; omega)).trans HJ1.out; have i2 := (hb3.block _ (by have := HJ3.out; omega)).trans HJ2.out; have i4 := Z00 HJ4.out HJ4.out.size hb3; have i3 := Nat.le_trans HJ3.out hb3.size; have hG2 := (hown3.lt G rfl).2; clear hb3 x20 x21 x22 x23 x10 x11; have y20 := cell_of_row _ _ 0 _ _ _ i2; have y21 := cell_of_row _ _ 1 _ _ _ i2; have y22 := cell_of_row _ _ 2 _ _ _ i2; have y23 := cell_of_row _ _ 3 _ _ _ i2; have y10 := cell_of_row _ _ 0 _ _ _ i1; have y11 := cell_of_row _ _ 1 _ _ _ i1))
   have HG := Z0 hG
   have HN4 := Z0 n4
   have HOWN := Z0 n5
   have HB2 := Z0 HJ4.out.size
   have HG2 := Z0 (n5.lt G rfl).2
   clear n1 n2 n3 n4 n5 z3 hlz HJ1 HJ2 HJ3 HJ4 HRO HBA2 HZS hsv hG2 hG
   go_loopw [69] (fun i wr => ∃ (k : Nat) (F : Nat -> Int), k <= m.ps.length /\ i = .int .i64 k /\ Below w.1.size w wr /\ wr.1[w4.1.size]? = some (.cells #[.int .u8 r.cls, .slice sva r.steps.length svc, .int .i64 r.bar] 60 (0, 0)) /\ wr.ownsRow w2.1.size 3 1 (.slice (some ⟨G, 0, none⟩) m.ps.length m.ps.length) m.ps.length ((List.range m.ps.length).map (fun i => Value.int .i64 (F i))) /\ Hid (∀ i, i < k -> F i = R i) /\ Hid (∀ i, k <= i -> F i = Bs i)) (fun i _ => m.ps.length - (intOf i).toNat)
   case atStart => exact ⟨0, Bs, ZE _, rfl, HN4.out.alloc HN4.out.size _, Z01 _ _, HOWN.out.alloc _, fun i hi => absurd hi (Nat.not_lt_zero _), fun _ _ => rfl⟩
   case round =>
    clear HN4 HOWN
    obtain ⟨k, F, hk, rfl, hB, hx3, hO, HF1, HF2⟩ := hrel
    have HB := Z0 hB
    have HX3 := Z0 hx3
    have HO := Z0 hO
    have hs3 := (Z5.1 hx3).1
    have hGr := (hO.lt G rfl).2
    by_cases hlt : k < m.ps.length
    ·obtain ⟨g, off, rfl, hg, hst⟩ := HPC.out (by omega)
     obtain ⟨p0, p1, p2, p3, p4⟩ := (hst k hlt).below hB hg
     have hgr : g < wr.1.size := by have := hB.size; omega
     have hkz : k < zs.length := by rw [HZL.out]; exact hlt
     obtain ⟨gz, oz, rfl, hgz, hzc⟩ := HNC.out (by omega)
     have z1 := (hB.cell (p := ⟨gz, oz + k, none⟩) hgz).trans (hzc k hkz)
     have hgzr : gz < wr.1.size := by have := hB.size; omega
     obtain ⟨s1, s2⟩ := HZS2.out _ (Z4 hkz)
     obtain ⟨j, hj⟩ : ∃ j : Nat, zs[k] = j := ⟨zs[k].toNat, by omega⟩
     rw [hj] at z1 s2
     have hjl : j < ls.length := by omega
     obtain ⟨gl, ol, rfl, hgl, hlc⟩ := HLC.out (by omega)
     obtain ⟨lv, _, hlat⟩ := hlc j hjl
     have l4 := (hB.cell (p := ⟨gl, ol + j * 5 + 4, none⟩) hgl).trans hlat.2.2.2.2
     have hglr : gl < wr.1.size := by have := hB.size; omega
     obtain ⟨q1, q2⟩ := HFL.out _ (Z4 hjl)
     have hFk := HF2.out k (Z1 _)
     obtain ⟨bb0, bb1⟩ := HBI2.out k hlt
     have o1 : wr.cell? ⟨G, k, none⟩ = some (.int .i64 (Bs k)) := by rw [hO.cellAt k (by omega), Z5J hlt, hFk]
     have o2 : wr.frozen? ⟨G, k, none⟩ = false := hO.frozenAt k
     have y2 := cell_of_row _ _ 2 _ _ _ hx3
     have hRk := HRE.out k
     have hpk : Za6 m k = m.ps[k].barred := by unfold Za6; rw [Z2, Z3 hlt]; rfl
     have hck : Z71 ls (zs.getD k (-1)) = ls[j].cents := by
      unfold Z71
      rw [Z2, Z2, Z3 hkz, Option.getD_some, hj, Int.toNat_natCast, Z3 hjl]; rfl
     rw [hpk, hck] at hRk
     have HRK := Z0 hRk
     have d4 : decide ((k : Int) < (m.ps.length : Int)) = true := decide_eq_true (by omega)
     clear hst hzc hlc hlat hj hRk hpk hck hB hx3 hO hFk HPC HNC HLC HZS2 HFL HRE HBI2 s1
     generalize ls[j] = l at l4 q1 q2 HRK
     generalize m.ps[k] = p at p0 p1 p2 p3 p4 HRK
     generalize Bs k = bk at bb0 bb1 o1 HRK
     have hw1 : IntKind.i64.wrap (bk - l.cents) = bk - l.cents := IntWalk.i64_in _ (by omega)
     cases hbar2 : p.barred
     ·rw [hbar2] at p4 HRK
      go_wp2_with fail
      go_region
      have hnew := ZaH HO.out (j := k) (by rw [Z7, List.length_range]; exact hlt) (.int .i64 (bk - l.cents))
      rw [Z6f _ hlt] at hnew
      have HNW := Z0 hnew
      clear hnew
      go_wp2_with fail
      go_roundw
      case rel =>
       refine ⟨k + 1, fun i => if i = k then bk - l.cents else F i, by omega, by go_num, ((HB.out.setCell (p := ⟨G, k, none⟩) (by have := HG.out; have := HB2.out; show w.1.size <= G; omega) _).alloc (by simp [World.setCell]; exact HB.out.size) _).drew, ?_, ?_, ?_, ?_⟩
       ·exact (ZB _ _ _ (by simp [World.setCell]; exact hs3)).trans ((ZA _ _ _ _ (by have := HG2.out; show w4.1.size ≠ G; omega)).trans HX3.out)
       ·have hfe : (fun i => Value.int .i64 (if i = k then bk - l.cents else F i)) = fun i => if i = k then Value.int .i64 (bk - l.cents) else Value.int .i64 (F i) := by funext i; split <;> rfl
        rw [hfe]
        exact (HNW.out.alloc _).drew
       ·intro i hi
        dsimp only
        by_cases e : i = k
        ·subst e; rw [if_pos rfl, HRK.out]; simp
        ·rw [if_neg e]; exact HF1.out i (by omega)
       ·intro i hi
        dsimp only
        rw [if_neg (by omega)]
        exact HF2.out i (by omega)
      case measure => simp [intOf]; omega
     ·rw [hbar2] at p4 HRK
      have hw2 : IntKind.i64.wrap (bk - r.bar) = bk - r.bar := IntWalk.i64_in _ (by omega)
      have hw3 : IntKind.i64.wrap (bk - r.bar - l.cents) = bk - r.bar - l.cents := IntWalk.i64_in _ (by omega)
      go_wp2_with fail
      go_region
      go_wp2_with fail
      have hGw : w.1.size <= G := by have := HG.out; have := HB2.out; omega
      have hG4 : w4.1.size ≠ G := by have := HG2.out; omega
      obtain ⟨W1, hW1⟩ : ∃ W1, W1 = ((wr.setCell ⟨G, k, none⟩ (.int .i64 (bk - r.bar))).alloc (.cells #[.int .i64 p.id, .int .i64 p.point, .string p.code, .int .i64 p.grams, .bool true] 65)).drew := ⟨_, rfl⟩
      have hB1 : Below w.1.size w W1 := by rw [hW1]; exact ((HB.out.setCell (p := ⟨G, k, none⟩) hGw _).alloc (by simp [World.setCell]; exact HB.out.size) _).drew
      have hX1 : W1.1[w4.1.size]? = some (.cells #[.int .u8 r.cls, .slice sva r.steps.length svc, .int .i64 r.bar] 60 (0, 0)) := by
       rw [hW1]
       exact (ZB _ _ _ (by simp [World.setCell]; exact hs3)).trans ((ZA _ _ _ _ hG4).trans HX3.out)
      have hnew := ZaH HO.out (j := k) (by rw [Z7, List.length_range]; exact hlt) (.int .i64 (bk - r.bar))
      rw [Z6f _ hlt] at hnew
      have hO1 : W1.ownsRow w2.1.size 3 1 (.slice (some ⟨G, 0, none⟩) m.ps.length m.ps.length) m.ps.length ((List.range m.ps.length).map (fun i => if i = k then Value.int .i64 (bk - r.bar) else Value.int .i64 (F i))) := by rw [hW1]; exact (hnew.alloc _).drew
      have o1' : W1.cell? ⟨G, k, none⟩ = some (.int .i64 (bk - r.bar)) := by rw [hO1.cellAt k (by omega), Z5J hlt, if_pos rfl]
      have o2' : W1.frozen? ⟨G, k, none⟩ = false := hO1.frozenAt k
      have hGr' := (hO1.lt G rfl).2
      have e1 : ∀ g o, g < w.1.size -> W1.cell? ⟨g, o, none⟩ = wr.cell? ⟨g, o, none⟩ := fun g o hg => (hB1.cell (p := ⟨g, o, none⟩) hg).trans (HB.out.cell (p := ⟨g, o, none⟩) hg).symm
      have z1' := (e1 gz (oz + k) hgz).trans z1
      have l4' := (e1 gl (ol + j * 5 + 4) hgl).trans l4
      have hgz' : gz < W1.1.size := by have := hB1.size; omega
      have hgl' : gl < W1.1.size := by have := hB1.size; omega
      rw [<- hW1]
      have HB1 := Z0 hB1
      have HX1 := Z0 hX1
      have HO1 := Z0 hO1
      clear hW1 hB1 hX1 hO1 hnew e1 o1 o2 z1 l4 y2 p0 p1 p2 p3 p4
      go_region
      have hnew := ZaH HO1.out (j := k) (by rw [Z7, List.length_range]; exact hlt) (.int .i64 (bk - r.bar - l.cents))
      rw [Z6f _ hlt] at hnew
      have HNW := Z0 hnew
      clear hnew
      go_wp2_with fail
      go_roundw
      case rel =>
       refine ⟨k + 1, fun i => if i = k then bk - r.bar - l.cents else F i, by omega, by go_num, (HB1.out.setCell (p := ⟨G, k, none⟩) hGw _).drew, ?_, ?_, ?_, ?_⟩
       ·exact (ZA _ _ _ _ hG4).trans HX1.out
       ·have hfe : (fun i => Value.int .i64 (if i = k then bk - r.bar - l.cents else F i)) = fun i => if i = k then Value.int .i64 (bk - r.bar - l.cents) else (if i = k then Value.int .i64 (bk - r.bar) else Value.int .i64 (F i)) := by
         funext i
         by_cases e : i = k
         ·rw [if_pos e, if_pos e]
         ·rw [if_neg e, if_neg e, if_neg e]
        rw [hfe]
        exact HNW.out.drew
       ·intro i hi
        dsimp only
        by_cases e : i = k
        ·subst e; rw [if_pos rfl, HRK.out]; simp
        ·rw [if_neg e]; exact HF1.out i (by omega)
       ·intro i hi
        dsimp only
        rw [if_neg (by omega)]
        exact HF2.out i (by omega)
      case measure => simp [intOf]; omega
    ·obtain rfl : k = m.ps.length := by omega
     have hfin : (List.range m.ps.length).map (fun i => Value.int .i64 (F i)) = (List.range m.ps.length).map (fun i => Value.int .i64 (R i)) := List.map_congr_left (fun i hi => by rw [HF1.out i (List.mem_range.1 hi)])
     rw [hfin] at HO
     go_wp2_with fail
     go_ret2
     exact ⟨G, rfl, HB.out, Nat.le_trans HB2.out HG.out, Z5M HO.out HB2.out⟩
theorem LnIn.mono {m m' : Int} {x : Ln} (h : LnIn m x) (hm : m <= m') : LnIn m' x := by
 obtain ⟨a1, a2, a3, a4, a5, a6, a7⟩ := h
 exact ⟨by omega, by omega, by omega, by omega, by omega, by omega, by omega⟩
theorem Zak {m : Int} (lv : Int) {l : List Ln} (h : ∀ x ∈ l, LnIn m x) (hm : 0 <= m /\ m <= 1000000000000) (hl : l.length <= 10000) : LnIn 10000000000000000 (Z3b lv l) := by
 refine (Zbw lv h).mono ?_
 have h1 : (l.length : Int) * m <= 10000 * m := Int.mul_le_mul_of_nonneg_right (by omega) hm.1
 omega
def lnO (x : Ln) : Obj := .cells #[.int .i64 x.level, .int .i64 x.pieces, .int .i64 x.barred, .int .i64 x.grams, .int .i64 x.base, .int .i64 x.bar, .int .i64 x.saved, .int .i64 x.cents] 42
theorem ZjJ {w : World} {g : Nat} {a b c d e f p q b' c' d' e' f' p' q' : Value} {t : TypeId} {fr : Nat × Nat} (h : w.1[g]? = some (.cells #[a, b, c, d, e, f, p, q] t fr)) :
 (((((((w.setCell ⟨g, 1, none⟩ b').setCell ⟨g, 2, none⟩ c').setCell ⟨g, 3, none⟩ d').setCell ⟨g, 4, none⟩ e').setCell ⟨g, 5, none⟩ f').setCell ⟨g, 6, none⟩ p').setCell ⟨g, 7, none⟩ q').1[g]? = some (.cells #[a, b', c', d', e', f', p', q'] t fr) := by
 simp [World.setCell, Array.getElem?_modify, h]
theorem ZjI {w : World} {g : Nat} {a b c d e f p q a' b' c' d' e' f' p' q' : Value} {t : TypeId} {fr : Nat × Nat} (h : w.1[g]? = some (.cells #[a, b, c, d, e, f, p, q] t fr)) :
 ((((((((w.setCell ⟨g, 0, none⟩ a').setCell ⟨g, 1, none⟩ b').setCell ⟨g, 2, none⟩ c').setCell ⟨g, 3, none⟩ d').setCell ⟨g, 4, none⟩ e').setCell ⟨g, 5, none⟩ f').setCell ⟨g, 6, none⟩ p').setCell ⟨g, 7, none⟩ q').1[g]? = some (.cells #[a', b', c', d', e', f', p', q'] t fr) := by
 simp [World.setCell, Array.getElem?_modify, h]
theorem Z4U {B : Nat} {w w' : World} {g : Nat} {b c d e f p q : Value} (h : Below B w w') (hg : B <= g) : Below B w (((((((w'.setCell ⟨g, 1, none⟩ b).setCell ⟨g, 2, none⟩ c).setCell ⟨g, 3, none⟩ d).setCell ⟨g, 4, none⟩ e).setCell ⟨g, 5, none⟩ f).setCell ⟨g, 6, none⟩ p).setCell ⟨g, 7, none⟩ q) :=
 ((((((h.setCell (p := ⟨g, 1, none⟩) hg _).setCell (p := ⟨g, 2, none⟩) hg _).setCell (p := ⟨g, 3, none⟩) hg _).setCell (p := ⟨g, 4, none⟩) hg _).setCell (p := ⟨g, 5, none⟩) hg _).setCell (p := ⟨g, 6, none⟩) hg _).setCell (p := ⟨g, 7, none⟩) hg _
theorem ZcB {B : Nat} {w w' : World} {g : Nat} {a b c d e f p q : Value} (h : Below B w w') (hg : B <= g) : Below B w ((((((((w'.setCell ⟨g, 0, none⟩ a).setCell ⟨g, 1, none⟩ b).setCell ⟨g, 2, none⟩ c).setCell ⟨g, 3, none⟩ d).setCell ⟨g, 4, none⟩ e).setCell ⟨g, 5, none⟩ f).setCell ⟨g, 6, none⟩ p).setCell ⟨g, 7, none⟩ q) :=
 Z4U (h.setCell (p := ⟨g, 0, none⟩) hg _) hg
theorem ZfE {m : Int} (lv : Int) (l : List Ln) (v : Value) (w : World) (hv : RdLns w v l) (hin : ∀ x ∈ l, LnIn m x) (hm : 0 <= m /\ m <= 1000000000000) (hl : l.length <= 10000) :
 Calls Tryz.prog 67 #[.int .i64 lv, v] w fun e w' => e = .returned (lnA (Z3b lv l)) /\ Below w.1.size w w' := by
 obtain ⟨a, ca, rfl, hcc⟩ := hv
 have HC := Z0 hcc
 have HIN := Z0 hin
 have HSB : Hid (∀ k, LnIn 10000000000000000 (Z3b lv (l.take k))) := fun k => Zak lv (fun x hx => hin x (List.mem_of_mem_take hx)) hm (by rw [List.length_take]; omega)
 obtain ⟨t1, t2, t3, t4⟩ := Z1U (w := w) (A := lnO (Z5i 0)) (B := lnO (Z5i lv)) rfl
 have HT1 := Z0 t1
 have HT2 := Z0 t2
 have HT4 := Z0 t4
 have hm1 := hm.2
 clear hcc hin t1 t2 t3 t4 hm
 unfold lnO Z5i at HT1 HT2 HT4
 unfold lnA
 go_enter Tryz.func67, Tryz.ntmps67
 go_wp2_with fail
 go_loopw [12] (fun i wr => ∃ (k : Nat) (s : Ln), k <= l.length /\ i = .int .i64 k /\ Below w.1.size w wr /\ wr.1[w.1.size]? = some (lnO (Z5i 0)) /\ wr.1[w.1.size + 1]? = some (lnO s) /\ Hid (s = Z3b lv (l.take k))) (fun i _ => l.length - (intOf i).toNat)
 case atStart => exact ⟨0, Z5i lv, ZE _, rfl, HT4.out, HT1.out, HT2.out, rfl⟩
 case round =>
  obtain ⟨k, s, hk, rfl, hb, h1, h2, HS⟩ := hrel
  have HB := Z0 hb
  have H1 := Z0 h1
  have H2 := Z0 h2
  have hs1 := (Z5.1 h1).1
  have hs2 := (Z5.1 h2).1
  unfold lnO at h1 h2
  by_cases hlt : k < l.length
  ·obtain ⟨g, off, rfl, hg, hcell⟩ := HC.out (by omega)
   have hgr : g < wr.1.size := by have := hb.size; omega
   have hx := HIN.out _ (Z4 hlt)
   have HSU : Hid (Z3b lv (l.take (k + 1)) = Zad s l[k]) := by
    show _ = _
    rw [Z8 hlt, Zcw, <- HS.out]
   have hsb := HSB.out k
   rw [<- HS.out] at hsb
   have hc := hcell k hlt
   generalize l[k] = x at hx HSU hc
   have c0 := (hb.cell (p := ⟨g, off + k * 8, none⟩) hg).trans (hc 0 _ rfl)
   have c1 := (hb.cell (p := ⟨g, off + k * 8 + 1, none⟩) hg).trans (hc 1 _ rfl)
   have c2 := (hb.cell (p := ⟨g, off + k * 8 + 2, none⟩) hg).trans (hc 2 _ rfl)
   have c3 := (hb.cell (p := ⟨g, off + k * 8 + 3, none⟩) hg).trans (hc 3 _ rfl)
   have c4 := (hb.cell (p := ⟨g, off + k * 8 + 4, none⟩) hg).trans (hc 4 _ rfl)
   have c5 := (hb.cell (p := ⟨g, off + k * 8 + 5, none⟩) hg).trans (hc 5 _ rfl)
   have c6 := (hb.cell (p := ⟨g, off + k * 8 + 6, none⟩) hg).trans (hc 6 _ rfl)
   have c7 := (hb.cell (p := ⟨g, off + k * 8 + 7, none⟩) hg).trans (hc 7 _ rfl)
   obtain ⟨⟨a10, a11⟩, ⟨a20, a21⟩, ⟨a30, a31⟩, ⟨a40, a41⟩, ⟨a50, a51⟩, ⟨a60, a61⟩, ⟨a70, a71⟩⟩ := hsb
   obtain ⟨⟨b10, b11⟩, ⟨b20, b21⟩, ⟨b30, b31⟩, ⟨b40, b41⟩, ⟨b50, b51⟩, ⟨b60, b61⟩, ⟨b70, b71⟩⟩ := hx
   have s1 := cell_of_row _ _ 1 _ _ _ h2
   have s2 := cell_of_row _ _ 2 _ _ _ h2
   have s3 := cell_of_row _ _ 3 _ _ _ h2
   have s4 := cell_of_row _ _ 4 _ _ _ h2
   have s5 := cell_of_row _ _ 5 _ _ _ h2
   have s6 := cell_of_row _ _ 6 _ _ _ h2
   have s7 := cell_of_row _ _ 7 _ _ _ h2
   have f1 := Z02 (j := 1) h2
   have f2 := Z02 (j := 2) h2
   have f3 := Z02 (j := 3) h2
   have f4 := Z02 (j := 4) h2
   have f5 := Z02 (j := 5) h2
   have f6 := Z02 (j := 6) h2
   have f7 := Z02 (j := 7) h2
   have w1 : IntKind.i64.wrap (s.pieces + x.pieces) = s.pieces + x.pieces := IntWalk.i64_in _ (by omega)
   have w2 : IntKind.i64.wrap (s.barred + x.barred) = s.barred + x.barred := IntWalk.i64_in _ (by omega)
   have w3 : IntKind.i64.wrap (s.grams + x.grams) = s.grams + x.grams := IntWalk.i64_in _ (by omega)
   have w4 : IntKind.i64.wrap (s.base + x.base) = s.base + x.base := IntWalk.i64_in _ (by omega)
   have w5 : IntKind.i64.wrap (s.bar + x.bar) = s.bar + x.bar := IntWalk.i64_in _ (by omega)
   have w6 : IntKind.i64.wrap (s.saved + x.saved) = s.saved + x.saved := IntWalk.i64_in _ (by omega)
   have w7 : IntKind.i64.wrap (s.cents + x.cents) = s.cents + x.cents := IntWalk.i64_in _ (by omega)
   have d4 : decide ((k : Int) < (l.length : Int)) = true := decide_eq_true (by omega)
   have H2' := Z0 h2
   clear hc hcell HC HIN HSB hb h1 h2 a10 a11 a20 a21 a30 a31 a40 a41 a50 a51 a60 a61 a70 a71 b10 b11 b20 b21 b30 b31 b40 b41 b50 b51 b60 b61 b70 b71 hm1
   go_wp2_with fail
   go_roundw
   case rel => exact ⟨k + 1, Zad s x, by omega, by go_num, (Z4U HB.out (Nat.le_succ w.1.size)).alloc (by simp [World.setCell]; exact HB.out.size) _, (ZB _ _ _ (by simp [World.setCell]; exact hs1)).trans ((Z4U (g := w.1.size + 1) (Z9 (w.1.size + 1) wr) (Z1 _)).block _ (Nat.lt_succ_self _) |>.trans H1.out), (ZB _ _ _ (by simp [World.setCell]; exact hs2)).trans (ZjJ H2'.out), HSU.out.symm⟩
   case measure => simp [intOf]; omega
  ·obtain rfl : k = l.length := by omega
   rw [List.take_length] at HS
   have s0 := cell_of_row _ _ 0 _ _ _ h2
   have s1 := cell_of_row _ _ 1 _ _ _ h2
   have s2 := cell_of_row _ _ 2 _ _ _ h2
   have s3 := cell_of_row _ _ 3 _ _ _ h2
   have s4 := cell_of_row _ _ 4 _ _ _ h2
   have s5 := cell_of_row _ _ 5 _ _ _ h2
   have s6 := cell_of_row _ _ 6 _ _ _ h2
   have s7 := cell_of_row _ _ 7 _ _ _ h2
   have r0 := cell_of_row _ _ 0 _ _ _ h1
   have r1 := cell_of_row _ _ 1 _ _ _ h1
   have r2 := cell_of_row _ _ 2 _ _ _ h1
   have r3 := cell_of_row _ _ 3 _ _ _ h1
   have r4 := cell_of_row _ _ 4 _ _ _ h1
   have r5 := cell_of_row _ _ 5 _ _ _ h1
   have r6 := cell_of_row _ _ 6 _ _ _ h1
   have r7 := cell_of_row _ _ 7 _ _ _ h1
   have f0 := Z02 (j := 0) h1
   have f1 := Z02 (j := 1) h1
   have f2 := Z02 (j := 2) h1
   have f3 := Z02 (j := 3) h1
   have f4 := Z02 (j := 4) h1
   have f5 := Z02 (j := 5) h1
   have f6 := Z02 (j := 6) h1
   have f7 := Z02 (j := 7) h1
   have H1' := Z0 h1
   have HSO := Z0 HS.out
   clear HC HIN HSB hb h1 h2 HS hlt
   go_wp2_with fail
   refine bodyPost_ret (results_cell_row rfl _ _ w.1.size 42 _ (0, 0) _ rfl (ZjI H1'.out) Tryz.underlying42 rfl (by kernel_rfl)) rfl ?_
   rw [<- HSO.out]
   exact ⟨rfl, ZcB HB.out (Z1 _)⟩
end Go.Proofs.YtlgajongmkhcnaaGreatDoor
