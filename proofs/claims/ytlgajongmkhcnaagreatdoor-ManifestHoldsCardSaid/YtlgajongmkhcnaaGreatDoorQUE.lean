import Derived.Test.YtlgajongmkhcnaaGreatDoorQUD
import Derived.StillTailTactics
import Derived.Deep.OwnRows
import Derived.Deep.DeepCutAuto
import Derived.Laws.EntriesVeiled
import Derived.Deep.RegionHeld3
import Derived.Test.YtlgajongmkhcnaaGreatDoorQU7
import Derived.Sort.OwnSortedInts
import Derived.Laws.AppendOwnNone
import Derived.Test.YtlgajongmkhcnaaGreatDoorQU8
set_option maxRecDepth 100000
set_option linter.unusedVariables false
set_option linter.unusedSimpArgs false
set_option maxHeartbeats 32000000
namespace Go.Proofs.YtlgajongmkhcnaaGreatDoor
section
open Go.RowKit Go.Sort Go.Shelf Go.IntWalk
attribute [local go_sem] Oper.semAt_some
theorem Zch {α : Type} {p : List α -> Prop} (h0 : p []) (h1 : ∀ xs x, p xs -> p (xs ++ [x])) : ∀ xs, p xs := by
 intro xs
 rw [<- List.reverse_reverse xs]
 generalize xs.reverse = ys
 induction ys with
 | nil => exact h0
 | cons y ys ih => rw [List.reverse_cons]; exact h1 _ _ ih
def Z9Y (F0 : Nat -> Value) {n : Nat} (xs : List (Yld n)) : Nat -> Value := xs.foldl (fun F x j => if j = x.i then x.sl else F j) F0
theorem Z5m (F0 : Nat -> Value) {n : Nat} (xs : List (Yld n)) (x : Yld n) : Z9Y F0 (xs ++ [x]) = fun j => if j = x.i then x.sl else Z9Y F0 xs j := by
 unfold Z9Y; rw [Kbs]; rfl
theorem Zf1 (F0 : Nat -> Value) {n : Nat} (N : Nat) (xs : List (Yld n)) (hn : n <= N) : Z9Y F0 xs N = F0 N := by
 induction xs using Zch with
 | h0 => rfl
 | h1 xs x ih =>
  rw [Z5m]
  dsimp only
  have := x.hi
  rw [if_neg (by omega)]
  exact ih
theorem Zhd (F0 : Nat -> Value) {n : Nat} (xs : List (Yld n)) : (∀ k (h : k < xs.length), xs[k].i = n - 1 - k) -> xs.length <= n -> ∀ k (h : k < xs.length), Z9Y F0 xs (n - 1 - k) = xs[k].sl := by
 induction xs using Zch with
 | h0 => intro _ _ k h; exact absurd h (Ka2 _)
 | h1 xs x ih =>
  intro hi hl k hk
  rw [Z5m]
  dsimp only
  have qL : (xs ++ [x]).length = xs.length + 1 := by simp
  have hx := hi xs.length (by omega)
  rw [Kb7 (Z1 _)] at hx
  simp only [Kb3, List.getElem_cons_zero] at hx
  by_cases e : k = xs.length
  ·subst e
   rw [if_pos hx.symm, Kb7 (Z1 _)]
   simp
  ·have hk' : k < xs.length := by omega
   rw [if_neg (by omega), Kbl hk']
   refine ih (fun j hj => ?_) (by omega) k hk'
   have := hi j (by omega)
   rwa [Kbl hj] at this
def Z9Z (w : World) (n : Nat) : Nat -> Value := fun j => if j = n then .slice (some ⟨w.1.size + 1 + 1, 0, none⟩) 1 1 else .slice none 0 0
structure DivI (w : World) (n : Nat) {m : Nat} (xs : List (Yld m)) (W : World) : Prop where
 row : W.rowIs w.1.size 35 (n + 1) (Z9Y (Z9Z w n) xs)
 bx : Boxed W (w.1.size + 1) 109 (.slice (some ⟨w.1.size, 0, none⟩) (n + 1) (n + 1))
 one : IntsAt W (w.1.size + 2) [0]
 bl : Below w.1.size w W
theorem DivI.keep {w A B : World} {n m : Nat} {xs : List (Yld m)} {row : Option Nat} (h : DivI w n xs A) (hg : A.grownBy B row) (hr : ∀ r, row = some r -> w.1.size + 3 <= r) : DivI w n xs B := by
 have h1 := h.row.lt
 have h2 := h.bx.lt
 have h3 := h.one.lt
 refine ⟨h.row.of_block (hg.block _ h1 (fun e => by have := hr _ e.symm; omega)), h.bx.kept hg (fun e => by have := hr _ e.symm; omega), ?_, h.bl.trans ((Z9 _ A).grown hg h.bl.size (fun r e => by have := hr r e; omega))⟩
 exact (hg.block _ h3 (fun e => by have := hr _ e.symm; omega)).trans h.one
theorem Zi2 {w Wp : World} {n m : Nat} (h : Wp = ((w.alloc (.cells ((madeCells #[.slice none 0 0] (n + 1)).setIfInBounds n (.slice (some ⟨w.1.size + 1 + 1, 0, none⟩) 1 1)) 35)).alloc (.cells #[.slice (some ⟨w.1.size, 0, none⟩) (n + 1) (n + 1)] 109)).alloc (.cells #[.int .i64 0] 3)) :
 DivI w n ([] : List (Yld m)) Wp /\ Wp.1.size = w.1.size + 3 := by
 subst h
 refine ⟨⟨?_, ?_, ?_, ?_⟩, by simp⟩
 ·refine World.rowIs.alloc (World.rowIs.alloc ?_ _) _
  refine ⟨_, Z02 w _, by simp [madeCells], fun i hi => ?_⟩
  show _ = some (Z9Z w n i)
  unfold Z9Z
  rw [Array.getElem?_setIfInBounds]
  by_cases e : i = n
  ·subst e
   simp [madeCells]
  ·rw [if_neg (fun h => e h.symm), if_neg e]
   simp [madeCells, hi, Nat.mod_one]
 ·have := Boxed.new (w.alloc (.cells ((madeCells #[.slice none 0 0] (n + 1)).setIfInBounds n (.slice (some ⟨w.1.size + 1 + 1, 0, none⟩) 1 1)) 35)) 109 (.slice (some ⟨w.1.size, 0, none⟩) (n + 1) (n + 1))
  rw [show (w.alloc (.cells ((madeCells #[.slice none 0 0] (n + 1)).setIfInBounds n (.slice (some ⟨w.1.size + 1 + 1, 0, none⟩) 1 1)) 35)).1.size = w.1.size + 1 by simp] at this
  exact this.alloc _
 ·have := Z02 ((w.alloc (.cells ((madeCells #[.slice none 0 0] (n + 1)).setIfInBounds n (.slice (some ⟨w.1.size + 1 + 1, 0, none⟩) 1 1)) 35)).alloc (.cells #[.slice (some ⟨w.1.size, 0, none⟩) (n + 1) (n + 1)] 109)) (.cells #[.int .i64 0] 3)
  simp only [Z6] at this
  exact this
 ·exact (((Z9 _ w).alloc (Z1 _) _).alloc (by simp) _).alloc (by simp; omega) _
theorem KC.setAt {Lb : Nat} {A : World} {c : Array Value} {fr : Nat × Nat} {a : Addr} (h : A.1[Lb]? = some (.cells c 35 fr)) (ha : a.block = Lb) (u : Value) : KC Lb A (A.setCell a u) := by
 refine ⟨by simp [World.setCell], fun k c' t fr' hk hh => ?_⟩
 by_cases e : k = Lb
 ·subst e
  rw [h] at hh
  injection hh with hh
  injection hh with _ hh _
  subst hh
  simp at hk
 ·exact (ZA A a u k (by omega)).trans hh
theorem DivI.put {w A : World} {n m : Nat} {xs : List (Yld m)} (h : DivI w n xs A) (x : Yld m) : DivI w n (xs ++ [x]) (A.setCell ⟨w.1.size, x.i, none⟩ x.sl) := by
 refine ⟨?_, ?_, ?_, h.bl.setCell (p := ⟨w.1.size, x.i, none⟩) (Z1 _) _⟩
 ·rw [Z5m]
  exact h.row.set x.i x.sl
 ·exact (ZA A _ _ _ (by show w.1.size + 1 ≠ w.1.size; omega)).trans h.bx
 ·exact h.one.setOther (by show w.1.size + 2 ≠ w.1.size; omega) _
def ZkL (Q : Exit -> Act -> World -> Prop) : Exit -> Act -> World -> Prop := fun e a w => match e with
 | .panic _ => False
 | e => Q e a w
theorem ZhD {Q : Exit -> Act -> World -> Prop} : ∀ e a w, ZkL Q e a w -> Q e a w := fun e a w h => by
 cases e with
 | panic c => exact h.elim
 | _ => exact h
theorem Zgz {W w6 : World} {t : TypeId} {v : Value} (h : Below (W.drew.alloc (.cells #[v] t)).1.size (W.drew.alloc (.cells #[v] t)) w6) : Boxed w6 W.1.size t v :=
 (h.block W.1.size (by rw [Z6]; exact Ka4 _)).trans (Boxed.new W.drew t v)
theorem Z4i {w a b : World} {P : Nat} {row : Option Nat} (h : w.grownBy a (some P)) (k : a.grownBy b row) (hr : ∀ r, row = some r -> r = P \/ w.1.size <= r) : w.grownBy b (some P) :=
 ⟨k.os.trans h.os, k.tape.trans h.tape, k.output.trans h.output, Kaw h.size k.size, fun i hi pO => (k.block i (ZH hi h.size) (fun e => by
  rcases hr i e.symm with h1 | h1
  ·exact pO (by rw [h1])
  ·omega)).trans (h.block i hi pO)⟩
theorem Z4j {w a : World} (P : Nat) (h : Below w.1.size w a) : w.grownBy a (some P) := ⟨h.os, h.tape, h.output, h.size, fun k hk _ => h.block k hk⟩
theorem Z08 (a : World) (p : Addr) (u : Value) : a.grownBy (a.setCell p u) (some p.block) := ⟨rfl, rfl, rfl, by simp [World.setCell], fun k hk pO => ZA _ _ _ _ (fun e => pO (by rw [e]))⟩
theorem Zjn (a : World) : a.grownBy a.drew none := ⟨rfl, rfl, rfl, Z1 _, fun _ _ _ => rfl⟩
theorem Z8K {mn cents P most : Int} {ts : List (List Int)} (hM : MOk ts) : ∀ k, k <= ts.length -> (Z1k mn cents P most ts k).1 + (Z06 ts (ts.length - k)).length <= (Z06 ts ts.length).length
 | 0, _ => by show 0 + _ <= _; rw [Ka0]; exact Z1 _
 | k + 1, hk => by
  have ih := Z8K hM (mn := mn) (cents := cents) (P := P) (most := most) k (by omega)
  have h1 := Z9s (mn := mn) (cents := cents) (P := P) (most := most) hM (show k < ts.length by omega)
  have e : Z06 ts (ts.length - k) = Z31 (Z0E ts k) (Z06 ts (ts.length - (k + 1))) := by
   rw [show ts.length - k = (ts.length - (k + 1)) + 1 by omega]
   show Z31 (ts.getD (ts.length - 1 - (ts.length - (k + 1))) []) _ = _
   rw [show ts.length - 1 - (ts.length - (k + 1)) = k by omega]; rfl
  have hl : (Z06 ts (ts.length - k)).length = (Z0E ts k).length + (Z06 ts (ts.length - (k + 1))).length - 1 := by rw [e]; exact Z5E _ _ _
  have h2 := (hM.all (ts.length - (k + 1)) (by omega)).1
  rw [Z56]
  dsimp only
  omega
theorem Ze4 (T BB TB PB base : Nat) (v vg : Value) (Gs : List Grp) (tabs : Nat -> List Int) (f : Nat -> Int) (g : Nat) (ls : List Lev) (lv : Nat) (w : World)
 (h : TreeW w T BB TB PB base v vg Gs tabs Gs.length (Z88 f Gs.length)) (hg : g < Gs.length) (hn : Gs.length <= 100000)
 (hr : RdLevs w v ls) (wX : lv < ls.length) (sD : Gs[g].lvl = (lv : Int)) (zV : ls.length <= 1000) (tT : 0 <= ls[lv].cents /\ ls[lv].cents <= 1000000)
 (hM : MOk ((Z05 (Z0n Gs) g).map tabs)) (hf : 0 <= f g /\ f g < ((tabs g).length : Int)) (ht : (tabs g).length <= 5000) :
 Calls Tryz.prog 64 #[.pointer (some ⟨T, 0, none⟩), .int .i64 g] w fun e w' => (∃ r, e = .returned r) /\ w.grownBy w' (some PB) /\
  IntsAt w' PB (Z88 (ZgO (Z05 (Z0n Gs) g) (ZbX ls[lv].min ls[lv].cents (f g) ((tabs g).getD (f g).toNat (-1)) ((Z05 (Z0n Gs) g).map tabs)) f (Z05 (Z0n Gs) g).length) Gs.length) := by
 obtain ⟨l1, l2, l3, l4, l5⟩ := h.lt
 obtain ⟨n1, n2, n3, n4, n5, n6⟩ := h.ne
 obtain ⟨c0, c1, c2, c3, c4⟩ := h.tr.c
 have wY := Z0 h
 have pD := h.gr
 obtain ⟨ag, cg, rfl, pD⟩ := pD
 obtain ⟨gg, og, rfl, pR, qM⟩ := pD (by omega)
 obtain ⟨gsv, zW, g0, g1, g2, g3⟩ := qM g hg
 rw [sD] at g0
 obtain ⟨al, cl, rfl, tU⟩ := hr
 obtain ⟨gl, ol, rfl, tV, qO⟩ := tU (by omega)
 obtain ⟨lsv, wZ, pX⟩ := qO lv wX
 obtain ⟨al', cl', rfl, _⟩ := wZ
 obtain ⟨l, hl⟩ : ∃ l, l = ls[lv] := ⟨_, rfl⟩
 rw [<- hl] at pX tT ⊢
 obtain ⟨fB, f1, f2⟩ := h.bl
 have pG := f2 g hg
 have cb := f1.cell hg
 have sE : ∀ x ∈ Z05 (Z0n Gs) g, x < Gs.length := fun x hx => by have := (Z2X.1 hx).1; rwa [Z1W] at this
 have tW := Z1U (Z0n Gs) g
 obtain ⟨subs, hS⟩ : ∃ s, s = Z05 (Z0n Gs) g := ⟨_, rfl⟩
 have HP := Z0 (fun W (hW : Below w.1.size w W) => Za8 T BB TB PB base _ _ Gs tabs Gs.length (Z88 f Gs.length) g W (h.below hW) hg hn sE (Z1 _))
 rw [<- hS] at pG sE tW hM HP ⊢
 clear hS h
 obtain ⟨aB, capB, pL⟩ := pG.len
 rw [pL] at cb
 rw [Z7] at cb pL
 have rK := hM.n
 rw [Z7] at rK
 have tX := fun W => run_make_row' (P := Tryz.prog) 109 35 (.slice none 0 0) 24 Tryz.underlying109 Tryz.infoSl rfl .i64 .i64 (subs.length + 1) (by omega) (by omega) W
 simp only [Kc3, Int.natCast_one] at tX
 obtain ⟨p, hp⟩ : ∃ p : Nat, f g = (p : Int) := ⟨_, (Ka3 hf.1).symm⟩
 rw [hp, Kar]
 have xA := Z0 hp
 clear hp
 have rL : (madeCells #[Value.slice none 0 0] (subs.length + 1))[subs.length]? = some (Value.slice none 0 0) := by simp [madeCells, Nat.mod_one]
 refine (callsIn_wide (n := 0)).1 ?_
 refine callsIn_of_wp_marks Tryz.func64 rfl trivial ?_ rfl
 simp only [Tryz.ntmps64, List.size_toArray, Ka9, List.length_nil, Nat.reduceAdd, Nat.reduceSub, Array.replicate_succ, Array.replicate_zero, List.push_toArray, List.append_toArray, Kca, Kc9]
 gi_wp2_with (first
  | (refine ⟨trivial, rfl, ?_⟩; gi_at_call 103; refine (callsIn_wide.2 (HP.out _ (((((Z9 _ w).alloc (Z1 _) _).alloc (by simp) _).alloc (by simp; omega) _)))).mono ?_; rintro e w1 ⟨ap, cp, rfl, qP, tY, sF⟩)
  | (refine ⟨trivial, rfl, ?_⟩; gi_at_call 102; refine (callsIn_wide.2 (Z8p _ _ _ _)).mono ?_; rintro e w2 ⟨rfl, rfl⟩))
 rename_i K0 tZ
 clear c0 c1 c2 c3 c4 cb g1 g2 g3 tX rL f1 f2 HP pD qM tU qO
 obtain ⟨Wp, sG⟩ : ∃ Wp, Wp = ((w.alloc (.cells ((madeCells #[.slice none 0 0] (subs.length + 1)).setIfInBounds subs.length (.slice (some ⟨w.1.size + 1 + 1, 0, none⟩) 1 1)) 35)).alloc (.cells #[.slice (some ⟨w.1.size, 0, none⟩) (subs.length + 1) (subs.length + 1)] 109)).alloc (.cells #[.int .i64 0] 3) := ⟨_, rfl⟩
 rw [<- sG] at qP sF
 have hI := Zi2 (m := (subs.map tabs).length) sG
 clear sG
 obtain ⟨hI, zX⟩ := hI
 have xB : Below w.1.size w w1 := Z01 hI.bl hI.bl.size qP
 have xC := qP.size
 have uA := hI.keep (Z0a qP) (fun r e => by cases e)
 obtain ⟨W0, qQ⟩ : ∃ W0 : World, W0 = w1.alloc (.cells #[.slice ap subs.length cp] 109) := ⟨_, rfl⟩
 have uB : Boxed W0 w1.1.size 109 (.slice ap subs.length cp) := by rw [qQ]; exact Boxed.new _ _ _
 have sH : Below w1.1.size w1 W0 := by rw [qQ]; exact (Z9 _ w1).alloc (Z1 _) _
 have xD : W0.1.size = w1.1.size + 1 := by rw [qQ]; simp
 have xE : DivI w subs.length ([] : List (Yld (subs.map tabs).length)) W0 := uA.keep (Z0a sH) (fun r e => by cases e)
 have rM : (subs.map tabs).length = subs.length := Z7 _
 have xF : RdRowsX w.1.size W0 base (.slice ap subs.length cp) (subs.map tabs) := ⟨by have := tY.below sH; exact this, fun b off n c h0 e => by
  injection e with e _ _
  have := sF b off e
  omega⟩
 rw [<- qQ]
 clear qQ sH tY sF qP hI uA xB
 generalize w1.1.size = B at uB xD xC ⊢
 have zY := hM
 refine Z2u (gf := 132) (lb := #[.pointer (some ⟨B, 0, none⟩)]) rfl Tryz.call132 (Bs := B) (by omega) (Z5Z B base w.1.size _ (subs.map tabs) W0 hM uB xF (by omega) (by omega)) (MergS.own _ _ _)
  (fun h k => h.trans k) (fun W l o o' hl hW hc => KC.put hW hc) (fun _ => rfl)
  (DivI w subs.length) (fun _ _ _ => False)
  (fun s A B' row h hg hr => h.keep hg (fun r e => by obtain ⟨h1, _⟩ := hr r e; omega))
  (fun c s A B' row h _ _ => h)
  (fun s A B' row h hg hr => h.keep hg (fun r e => by have := hr r e; omega))
  (fun c s A B' row h _ _ => h)
  xE
  (fun x a' W => a' = { tmps := #[.pointer (some ⟨T, 0, none⟩), .int .i64 g, undef, undef, .slice aB subs.length capB, .pointer (some ⟨w.1.size + 1, 0, none⟩), .int .i64 x.i, x.sl, undef, undef, undef, undef, undef, undef, undef, undef, undef, .pointer (some ⟨T, 0, none⟩), .pointer (some ⟨T, 0, none⟩), .pointer (some ⟨T, 2, none⟩), .slice (some ⟨BB, 0, none⟩) Gs.length Gs.length, .int .i64 g, .pointer (some ⟨BB, g, none⟩), .slice aB subs.length capB, .slice aB subs.length capB, .int .i64 subs.length, .int .i64 (subs.length + 1), .slice (some ⟨w.1.size, 0, none⟩) (subs.length + 1) (subs.length + 1), .slice (some ⟨w.1.size, 0, none⟩) (subs.length + 1) (subs.length + 1), .slice aB subs.length capB, .int .i64 subs.length, .slice (some ⟨w.1.size + 1 + 1, 0, none⟩) 1 1, .pointer (some ⟨w.1.size, subs.length, none⟩), .pointer (some ⟨T, 0, none⟩), .int .i64 g, .slice ap subs.length cp, .func (.func 132) #[] #[.pointer (some ⟨B, 0, none⟩)], .int .i64 x.i, x.sl, undef, undef, undef, undef, undef, undef, undef, undef, undef, undef, undef, undef, undef, undef, undef, undef, undef, undef, undef, undef, undef, undef, undef, undef, undef, undef, undef, undef, undef, undef, undef, undef, undef, undef, undef, undef, undef, undef, undef, undef, undef, undef, undef, undef, undef, undef, undef, undef, undef, undef, undef, undef, undef, undef, undef, undef, undef, undef, undef, undef, undef, undef, undef, undef, undef, undef, undef, undef, undef, undef, undef, undef, undef, undef, undef, undef, undef, undef, undef, undef, undef, undef], defers := [] })
  (fun x a' s A B' row h _ _ => h) ?assign ?body ?done ?stop
 case assign =>
  intro l pre x W K hi hK
  gi_wp2
  exact hK _ _ (KeepsFrom.refl _ _) (KC.refl _ _) hi rfl
 case body =>
  rintro l pre x a' W hI rfl
  have c1 := hI.bx.cell
  have c2 := hI.row.frozen x.i
  have c3 := hI.row.cell (i := x.i) (by have := x.hi; omega)
  have zZ : x.i < subs.length := by have := x.hi; omega
  obtain ⟨cur, xG, _, _⟩ := hI.row
  have xH := KC.setAt (a := ⟨w.1.size, x.i, none⟩) xG rfl x.sl
  have xI := hI.put x
  obtain ⟨xi, xhi, xa, xl, xc⟩ := x
  dsimp only [Yld.sl] at *
  gi_wp2_with fail
  exact ⟨(KeepsOthers.setCell _ _ _).from _, xH, xI⟩
 case done =>
  rintro D xs W hD ⟨xJ, sI⟩ hI hK
  have pY := wY.out.below hI.bl
  have uC : ∀ j, j <= subs.length -> RowJ W base (Z9Y (Z9Z w subs.length) xs j) (Z06 (subs.map tabs) (subs.length - j)) := fun j hj => by
   by_cases e : j = subs.length
   ·rw [e, Zf1 _ _ _ (by omega), Kb3]
    have : Z9Z w subs.length subs.length = .slice (some ⟨w.1.size + 1 + 1, 0, none⟩) 1 1 := by unfold Z9Z; rw [if_pos rfl]
    rw [this]
    exact RowJ.of_ints hI.one (by omega) 1
   ·have h1 := Zhd (Z9Z w subs.length) xs (fun k h => (sI k h).1) (by omega) (subs.length - 1 - j) (by omega)
    rw [show (subs.map tabs).length - 1 - (subs.length - 1 - j) = j by omega] at h1
    have h2 := (sI (subs.length - 1 - j) (by omega)).2
    rw [show subs.length - 1 - j + 1 = subs.length - j by omega] at h2
    rw [h1]
    exact h2
  have xK := Z0 uC
  clear uC xJ sI
  show K0 _ W
  refine tZ _ _ (wpIn_wide.2 (wp_mono ?_ ZhD))
  clear tZ
  have hp := xA.out
  obtain ⟨l1, l2, l3, l4, l5⟩ := pY.lt
  obtain ⟨c0, c1, c2, c3, c4⟩ := pY.tr.c
  obtain ⟨fT, k1, k2⟩ := pY.tb
  have pH := pY.pv
  have c5 := pH.cell (i := g) (by rw [Z4z]; exact hg)
  rw [Zcn hg, hp] at c5
  have xL := k2 g hg
  have ct := k1.cell hg
  rw [hp] at hf
  obtain ⟨agT, cgT, uD, uE⟩ := xL
  obtain ⟨bgT, ogT, cugT, rfl, iA, uF, uG⟩ := uE (by omega)
  have qR : p < (tabs g).length := by omega
  have ct2 : W.cell? ⟨bgT, ogT + p, none⟩ = some (.int .i64 ((tabs g).getD p (-1))) := by
   rw [Kaa W bgT (ogT + p) _ _ _ uF, uG p qR, Z2, Z3 qR]; rfl
  have xM : bgT < W.1.size := (Z5.1 uF).1
  rw [uD] at ct
  have g0' : W.cell? ⟨gg, og + g * 4, none⟩ = some (.int .i64 lv) := (hI.bl.cell (p := ⟨gg, og + g * 4, none⟩) pR).trans g0
  obtain ⟨y0, y1, y2, y3, y4⟩ := pX.below hI.bl tV
  obtain ⟨most, sJ⟩ : ∃ z, z = (tabs g).getD p (-1) := ⟨_, rfl⟩
  rw [<- sJ] at ct2
  have xN := Z0 sJ
  obtain ⟨n2, uH⟩ : ∃ n, n = l.labs.length := ⟨_, rfl⟩
  rw [<- uH] at y2
  have xO : Hid (∀ (p : Int) (W : World), Calls Tryz.prog 101 #[.agg #[.string l.name, .int .i64 l.pre, .slice al' n2 cl', .int .i64 l.min, .int .i64 l.cents], .int .i64 p] W fun e w' => e = .returned (.func (.func 131) #[] #[.pointer (some ⟨W.1.size + 1, 0, none⟩), .pointer (some ⟨W.1.size, 0, none⟩)]) /\
   Below W.1.size W w' /\ SavAt w' (W.1.size + 1) W.1.size p l.min l.cents /\ w'.1.size = W.1.size + 2) := fun p W => by
   refine (Z9T l (.slice al' n2 cl') p W).mono ?_
   rintro e w' ⟨rfl, rfl⟩
   exact ⟨rfl, ((Z9 _ W).alloc (Z1 _) _).alloc (by simp) _, SavAt.new _ _ _ _, by simp⟩
  have sK := Z0 pH
  have xP := Z0 k2
  have iB := Z0 pY
  have sL := Z0 pG
  have sM := Z0 pL
  have HP := Z0 hp
  have pZ := Z0 rM
  have iC := Z0 sD
  have HI := Z0 hI
  have iD : (lv : Int) < ls.length := by omega
  clear sJ uH hl pH k2 pY pG pL hp rM sD hI uE uD uG pX g0
  dsimp only
  go_upto_region 7 with fail
  go_cut [8] from 43 to 64 (fun t wx => ∃ SB X Y, t = .pointer (some ⟨SB, 0, none⟩) /\ Below W.1.size W wx /\ W.1.size <= SB /\ W.1.size <= X /\ W.1.size <= Y /\ SB < wx.1.size /\ X < wx.1.size /\ Y < wx.1.size /\ wx.cell? ⟨SB, 0, none⟩ = some (.func (.func 131) #[] #[.pointer (some ⟨X, 0, none⟩), .pointer (some ⟨Y, 0, none⟩)]) /\ SavAt wx X Y p l.min l.cents)
  case first =>
   have qS : Below W.1.size W (W.drew.alloc (.cells #[.nilFunc] 91)) := (Z9 _ W).drew.alloc (Z1 _) _
   have pE : T < W.1.size := by omega
   have rN : PB < W.1.size := by omega
   have qT : gl < W.1.size := ZH tV HI.out.bl.size
   have xQ : gg < W.1.size := ZH pR HI.out.bl.size
   have hk : ∀ w', Below W.1.size W w' -> w'.cell? ⟨T, 0, none⟩ = some (.slice (some ⟨gl, ol, none⟩) ls.length cl) /\ w'.cell? ⟨T, 1, none⟩ = some (.slice (some ⟨gg, og, none⟩) Gs.length cg) /\ w'.cell? ⟨T, 4, none⟩ = some (.slice (some ⟨PB, 0, none⟩) Gs.length Gs.length) /\
    w'.cell? ⟨PB, g, none⟩ = some (.int .i64 p) /\ w'.cell? ⟨gg, og + g * 4, none⟩ = some (.int .i64 lv) /\ w'.cell? ⟨gl, ol + lv * 5, none⟩ = some (.string l.name) /\ w'.cell? ⟨gl, ol + lv * 5 + 1, none⟩ = some (.int .i64 l.pre) /\ w'.cell? ⟨gl, ol + lv * 5 + 2, none⟩ = some (.slice al' n2 cl') /\
    w'.cell? ⟨gl, ol + lv * 5 + 3, none⟩ = some (.int .i64 l.min) /\ w'.cell? ⟨gl, ol + lv * 5 + 4, none⟩ = some (.int .i64 l.cents) := fun w' hw =>
    ⟨(hw.cell (p := ⟨T, 0, none⟩) pE).trans c0, (hw.cell (p := ⟨T, 1, none⟩) pE).trans c1, (hw.cell (p := ⟨T, 4, none⟩) pE).trans c4, (hw.cell (p := ⟨PB, g, none⟩) rN).trans c5, (hw.cell (p := ⟨gg, og + g * 4, none⟩) xQ).trans g0',
     (hw.cell (p := ⟨gl, ol + lv * 5, none⟩) qT).trans y0, (hw.cell (p := ⟨gl, ol + lv * 5 + 1, none⟩) qT).trans y1, (hw.cell (p := ⟨gl, ol + lv * 5 + 2, none⟩) qT).trans y2, (hw.cell (p := ⟨gl, ol + lv * 5 + 3, none⟩) qT).trans y3, (hw.cell (p := ⟨gl, ol + lv * 5 + 4, none⟩) qT).trans y4⟩
   have HK := Z0 hk
   clear hk
   go_region_held3 (fun w' => w'.cell? ⟨T, 0, none⟩ = some (.slice (some ⟨gl, ol, none⟩) ls.length cl) /\ w'.cell? ⟨T, 1, none⟩ = some (.slice (some ⟨gg, og, none⟩) Gs.length cg) /\ w'.cell? ⟨T, 4, none⟩ = some (.slice (some ⟨PB, 0, none⟩) Gs.length Gs.length) /\
    w'.cell? ⟨PB, g, none⟩ = some (.int .i64 p) /\ w'.cell? ⟨gg, og + g * 4, none⟩ = some (.int .i64 lv) /\ w'.cell? ⟨gl, ol + lv * 5, none⟩ = some (.string l.name) /\ w'.cell? ⟨gl, ol + lv * 5 + 1, none⟩ = some (.int .i64 l.pre) /\ w'.cell? ⟨gl, ol + lv * 5 + 2, none⟩ = some (.slice al' n2 cl') /\
    w'.cell? ⟨gl, ol + lv * 5 + 3, none⟩ = some (.int .i64 l.min) /\ w'.cell? ⟨gl, ol + lv * 5 + 4, none⟩ = some (.int .i64 l.cents))
    (first
     | exact HK.out _ (Z9 _ W).drew
     | exact HK.out _ qS
     | exact HK.out _ pI
     | exact HK.out _ (pI.alloc pI.size _)
     | exact HK.out _ (pI.setCell (p := ⟨W.1.size, 0, none⟩) (Z1 _) _)
     | exact HK.out _ ((pI.alloc pI.size _).setCell (p := ⟨w6.1.size, 0, none⟩) pI.size _))
    (first
     | (go_at_call 101; refine (xO.out _ _).mono ?_; rintro e w6 ⟨rfl, sN, qU, uI⟩; have uJ := Z0 uI; clear uI; (have pI : Below W.1.size W w6 := by (first | exact (Z9 _ W).drew.trans (sN.mono (Z1 _)) | exact qS.trans (sN.mono (by simp)))); (try (have e6 := Zgz sN; have c6 := Boxed.cell e6; have f6 := Boxed.frozen e6; have E6 := Z0 e6; clear e6))))
   all_goals go_wp2_with fail
   ·go_meet
    have hz := uJ.out
    have uK : W.drew.1.size = W.1.size := rfl
    have uL : Below w6.1.size w6 (w6.alloc (.cells #[.func (.func 131) #[] #[.pointer (some ⟨W.1.size + 1, 0, none⟩), .pointer (some ⟨W.1.size, 0, none⟩)]] 91)) := (Z9 _ w6).alloc (Z1 _) _
    exact ⟨w6.1.size, W.1.size + 1, W.1.size, rfl, pI.alloc pI.size _, pI.size, Kbd _, Z1 _, by simp, by simp; omega, by simp; omega, (Boxed.new w6 _ _).cell, SavAt.below qU uL (by show W.1.size + 1 < _; omega) (by show W.1.size < _; omega)⟩
   ·go_meet
    have hz := uJ.out
    have uK : (W.alloc (.cells #[.nilFunc] 91)).drew.1.size = W.1.size + 1 := Z6 _ _
    rw [uK] at hz qU
    exact ⟨W.1.size, W.1.size + 1 + 1, W.1.size + 1, rfl, pI.setCell (p := ⟨W.1.size, 0, none⟩) (Z1 _) _, Z1 _, by omega, by omega, by simp [World.setCell]; omega, by simp [World.setCell]; omega, by simp [World.setCell]; omega, (Boxed.set _ E6.out).cell, SavAt.set qU (by show W.1.size + 1 + 1 ≠ W.1.size; omega) (by show W.1.size + 1 ≠ W.1.size; omega) _⟩
  case rest =>
   obtain ⟨W1, xR⟩ : ∃ W1, W1 = wc := ⟨_, rfl⟩
   subst xR
   obtain ⟨SB, X, Y, rfl, pB, iE, iF, iG, xS, qU, xT, uM, hsv⟩ := hcut
   have pE : T < W.1.size := by omega
   have rN : PB < W.1.size := by omega
   have uN : TB < W.1.size := by omega
   have b3 := (pB.cell (p := ⟨T, 3, none⟩) pE).trans c3
   have b4 := (pB.cell (p := ⟨T, 4, none⟩) pE).trans c4
   have b5 := (pB.cell (p := ⟨PB, g, none⟩) rN).trans c5
   have bt := (pB.cell (p := ⟨TB, g, none⟩) uN).trans ct
   have bt2 := (pB.cell (p := ⟨bgT, ogT + p, none⟩) xM).trans ct2
   have uO := Z0 (And.intro uM hsv)
   have uP := Z0 (And.intro c0 (And.intro c1 (And.intro c3 c4)))
   clear uM hsv c0 c1 c2 c3 c4 c5 ct ct2 g0' y0 y1 y2 y3 y4
   go_upto_region 8 with fail
   go_cut [9] from 65 to 80 (fun t wx => ∃ MB, t = .pointer (some ⟨MB, 0, none⟩) /\ Below W1.1.size W1 wx /\ W1.1.size <= MB /\ MB < wx.1.size /\ wx.cell? ⟨MB, 0, none⟩ = some (.int .i64 most))
   case first =>
    have hk : ∀ w', Below W1.1.size W1 w' -> w'.cell? ⟨T, 3, none⟩ = some (.slice (some ⟨TB, 0, none⟩) Gs.length Gs.length) /\ w'.cell? ⟨T, 4, none⟩ = some (.slice (some ⟨PB, 0, none⟩) Gs.length Gs.length) /\
     w'.cell? ⟨PB, g, none⟩ = some (.int .i64 p) /\ w'.cell? ⟨TB, g, none⟩ = some (.slice (some ⟨bgT, ogT, none⟩) (tabs g).length cgT) /\ w'.cell? ⟨bgT, ogT + p, none⟩ = some (.int .i64 most) := fun w' hw =>
     ⟨(hw.cell (p := ⟨T, 3, none⟩) (by have := pB.size; show T < _; omega)).trans b3, (hw.cell (p := ⟨T, 4, none⟩) (by have := pB.size; show T < _; omega)).trans b4, (hw.cell (p := ⟨PB, g, none⟩) (by have := pB.size; show PB < _; omega)).trans b5,
      (hw.cell (p := ⟨TB, g, none⟩) (by have := pB.size; show TB < _; omega)).trans bt, (hw.cell (p := ⟨bgT, ogT + p, none⟩) (by have := pB.size; show bgT < _; omega)).trans bt2⟩
    have HK := Z0 hk
    clear hk
    go_region_held3 (fun w' => w'.cell? ⟨T, 3, none⟩ = some (.slice (some ⟨TB, 0, none⟩) Gs.length Gs.length) /\ w'.cell? ⟨T, 4, none⟩ = some (.slice (some ⟨PB, 0, none⟩) Gs.length Gs.length) /\
     w'.cell? ⟨PB, g, none⟩ = some (.int .i64 p) /\ w'.cell? ⟨TB, g, none⟩ = some (.slice (some ⟨bgT, ogT, none⟩) (tabs g).length cgT) /\ w'.cell? ⟨bgT, ogT + p, none⟩ = some (.int .i64 most))
     (first
      | exact HK.out _ (Z9 _ W1).drew
      | exact HK.out _ ((Z9 _ W1).alloc (Z1 _) _).drew
      | exact HK.out _ ((Z9 _ W1).drew.alloc (Z1 _) _))
     (fail)
    all_goals go_wp2_with fail
    go_meet
    exact ⟨W1.1.size, rfl, ((Z9 _ W1).alloc (Z1 _) _).drew, Z1 _, by simp, (Boxed.new W1 _ _).cell⟩
   case rest =>
    obtain ⟨MB, rfl, rO, iH, iI, rL⟩ := hcut
    obtain ⟨W2, xU⟩ : ∃ W2, W2 = wc := ⟨_, rfl⟩
    subst xU
    have pK : Below W.1.size W W2 := pB.trans (rO.mono pB.size)
    have pM : Below w.1.size w W2 := Z01 HI.out.bl HI.out.bl.size pK
    have uQ := HI.out.keep (Z0a pK) (fun r e => by cases e)
    have iJ := HI.out.bl.size
    have iK := pK.size
    have iL := pB.size
    have iM := rO.size
    have sc2 := (rO.cell (p := ⟨SB, 0, none⟩) xS).trans uO.out.1
    have sv2 := uO.out.2.below rO qU xT
    have t3 := (pK.cell (p := ⟨T, 3, none⟩) pE).trans uP.out.2.2.1
    have t4 := (pK.cell (p := ⟨T, 4, none⟩) pE).trans uP.out.2.2.2
    have uR : IntsAt W2 PB (Z88 f Gs.length) := sK.out.below pK rN
    have uS : W2.1[D]? = some (.deferred (some [])) := (pK.block D (Z5.1 hK).1).trans hK
    have uT := sL.out.below pM
    have uU : ∀ g, g < Gs.length -> RowJ W2 base (fT g) (tabs g) := fun g hg => (xP.out g hg).below pK
    have uV : ∀ j, j <= subs.length -> RowJ W2 base (Z9Y (Z9Z w subs.length) xs j) (Z06 (subs.map tabs) (subs.length - j)) := fun j hj => (xK.out j hj).below pK
    have kt : ∀ s, s < Gs.length -> W2.cell? ⟨TB, s, none⟩ = some (fT s) := fun s hs => (pK.cell (p := ⟨TB, s, none⟩) uN).trans (k1.cell hs)
    have H1 := Z0 sc2
    have H2 := Z0 sv2
    have H3 := Z0 (And.intro t3 t4)
    have H4 := Z0 uR
    have H5 := Z0 uT
    have H6 := Z0 uU
    have H7 := Z0 uV
    have H8 := Z0 kt
    have H9 := Z0 rL
    have uW := Z0 uQ
    have uX := Z0 uS
    have hM' := hM
    have xV := Z0 (fun k hk => ZaK (mn := l.min) (cents := l.cents) (P := (p : Int)) (most := most) hM' k hk)
    have xW := Z0 (fun k hk => Z8K (mn := l.min) (cents := l.cents) (P := (p : Int)) (most := most) hM' k hk)
    have xX := Z0 (fun k => Z56 l.min l.cents (p : Int) most (subs.map tabs) k)
    have uY := Z0 ((hM.all (subs.map tabs).length (Z1 _)).2.1)
    have HM := Z0 hM
    clear sc2 sv2 t3 t4 uR uT uU uV kt rL uQ uS b3 b4 b5 bt bt2 hK hM hM' k1
    go_wp2_with fail
    go_loopw [83] (fun i wr => ∃ k : Nat, k <= subs.length /\ i = .int .i64 k /\ W2.grownBy wr (some PB) /\ IntsAt wr PB (Z88 (ZgO subs (ZbX l.min l.cents p most (subs.map tabs)) f k) Gs.length) /\
     Boxed wr W2.1.size 3 (.int .i64 ((Z1k l.min l.cents p most (subs.map tabs) k).1 : Nat)) /\ Boxed wr (W2.1.size + 1) 3 (.int .i64 (Z1k l.min l.cents p most (subs.map tabs) k).2.1)) (fun i _ => subs.length - (intOf i).toNat)
    case atStart =>
     have uZ : PB < W2.1.size := by omega
     have xY : Below W2.1.size W2 (W2.alloc (.cells #[.int .i64 0] 3)) := (Z9 _ W2).alloc (Z1 _) _
     have qS : Below W2.1.size W2 ((W2.alloc (.cells #[.int .i64 0] 3)).alloc (.cells #[.int .i64 0] 3)) := xY.alloc (by simp) _
     refine ⟨0, ZE _, rfl, Z4j _ qS, ?_, ?_, ?_⟩
     ·rw [ZeK]; exact H4.out.below qS uZ
     ·exact (Boxed.new W2 3 (.int .i64 0)).alloc _
     ·have := Boxed.new (W2.alloc (.cells #[.int .i64 0] 3)) 3 (.int .i64 0)
      rw [Z6] at this
      exact this
    case round =>
     obtain ⟨k, hk, rfl, hG, qA, qV, qW⟩ := hrel
     have uZ : PB < W2.1.size := by omega
     have iN := hG.size
     by_cases pA : k < subs.length
     ·have vA : k < (subs.map tabs).length := by rw [pZ.out]; exact pA
      have sO : ∀ j, j <= subs.length -> 1 <= (Z06 (subs.map tabs) (subs.length - j)).length /\ (Z06 (subs.map tabs) (subs.length - j)).length <= 5000 /\ ∀ x ∈ Z06 (subs.map tabs) (subs.length - j), -1 <= x /\ x <= 1000000000000 := fun j hj => HM.out.all _ (by rw [pZ.out]; omega)
      have rP := sO (k + 1) (by omega)
      have vB : Z0E (subs.map tabs) k = tabs subs[k] := by unfold Z0E; rw [Z2, Kal, Z3 pA]; rfl
      have pS := HM.out.one _ (ZeA vA)
      have pF := sE _ (Z4 pA)
      have pP := xX.out k
      have rQ := xV.out k (by omega)
      have sP := xW.out k (by omega)
      rw [pZ.out] at sP
      have xZ := (sO k (by omega)).1
      have rR : ZbX l.min l.cents p most (subs.map tabs) k = Z8F (Z0E (subs.map tabs) k) (Z06 (subs.map tabs) (subs.length - (k + 1))) (Zjq l.min l.cents p most (Z1k l.min l.cents p most (subs.map tabs) k).1 (Z1k l.min l.cents p most (subs.map tabs) k).2.1) := by
       unfold ZbX
       rw [pZ.out, show subs.length - 1 - k = subs.length - (k + 1) by omega]
      have qB := Z9s (mn := l.min) (cents := l.cents) (P := (p : Int)) (most := most) HM.out vA
      have rS := ZeL (ZbX l.min l.cents p most (subs.map tabs)) f tW pA
      rw [vB] at pS rR qB pP
      obtain ⟨s, hs⟩ : ∃ s, s = subs[k] := ⟨_, rfl⟩
      have qX := (H5.out.kept hG (fun g e => .inl (by cases e; exact l4)))
      rw [sM.out] at qX
      obtain ⟨aB', capB', pQ, qY⟩ := qX
      injection pQ with q1 q2 q3
      subst q1
      clear q2 q3
      obtain ⟨gb, ob, curb, rfl, yA, qZ, rA⟩ := qY (by rw [Z7]; omega)
      have e1 : wr.cell? ⟨gb, ob + k, none⟩ = some (.int .i64 (subs[k] : Int)) := by
       rw [Kaa wr gb (ob + k) _ _ _ qZ, rA k (by rw [Z7]; exact pA), Kba]; rfl
      rw [<- hs] at pS rR qB pP rS pF e1
      have e2 := hG.cell H3.out.1 (by intro e; cases e; exact n3 rfl)
      have e3 := hG.cell H3.out.2 (by intro e; cases e; exact n3 rfl)
      have e4 := hG.cell (H8.out s pF) (by intro e; cases e; exact n6 rfl)
      have yB := (H6.out s pF).kept hG (fun g e => .inl (by cases e; exact l4))
      obtain ⟨as_, cs_, rT, sQ⟩ := yB
      have sR : RdInts wr (fT s) (tabs s) := RowJ.rd (base := base) ⟨as_, cs_, rT, sQ⟩
      rw [rT] at e4 sR
      obtain ⟨gs, os, curs, rfl, iO, vC, vD⟩ := sQ (by omega)
      have iP : gs < W2.1.size := by
       obtain ⟨a9, c9, vE, yC⟩ := H6.out s pF
       rw [rT] at vE
       injection vE with r1 _ _
       obtain ⟨g9, o9, cu9, r2, _, yD, _⟩ := yC (by omega)
       rw [<- r1] at r2
       injection r2 with r2
       injection r2 with r2 _
       rw [r2]
       exact (Z5.1 yD).1
      have sS := (H7.out (k + 1) (by omega)).kept hG (fun g e => .inl (by cases e; exact l4))
      obtain ⟨ar, cr, vF⟩ := sS.len
      have sT := sS.rd
      have e5 := hG.cell (uW.out.row.cell (i := k + 1) (by omega)) (by show some w.1.size ≠ some PB; intro e; injection e; omega)
      have e6 := hG.cell uW.out.bx.cell (by show some (w.1.size + 1) ≠ some PB; intro e; injection e; omega)
      rw [vF] at e5 sT
      have vG : FitAt wr SB W2.1.size (W2.1.size + 1) MB X Y l.min l.cents p ((Z1k l.min l.cents p most (subs.map tabs) k).1 : Nat) (Z1k l.min l.cents p most (subs.map tabs) k).2.1 most :=
       ⟨hG.cell H1.out (by show some SB ≠ some PB; intro e; injection e; omega), qV.cell, qW.cell, hG.cell H9.out (by show some MB ≠ some PB; intro e; injection e; omega),
        ⟨hG.cell H2.out.1 (by show some X ≠ some PB; intro e; injection e; omega), hG.cell H2.out.2.1 (by show some Y ≠ some PB; intro e; injection e; omega), hG.cell H2.out.2.2 (by show some Y ≠ some PB; intro e; injection e; omega)⟩⟩
      have pT := Zjr (tabs s) (Z06 (subs.map tabs) (subs.length - (k + 1))) _ _ SB W2.1.size (W2.1.size + 1) MB X Y l.min l.cents p ((Z1k l.min l.cents p most (subs.map tabs) k).1 : Nat) (Z1k l.min l.cents p most (subs.map tabs) k).2.1 most wr vG sR sT ⟨pS.1, pS.2.1⟩ ⟨rP.1, rP.2.1⟩ pS.2.2 rP.2.2
       ⟨by omega, by omega⟩ ⟨by omega, by have := uY.out; rw [pZ.out] at this; omega⟩ tT ⟨by omega, by omega⟩
      unfold ZkQ at pT
      rw [<- rR] at pT
      obtain ⟨q, hq⟩ : ∃ q, q = ZbX l.min l.cents p most (subs.map tabs) k := ⟨_, rfl⟩
      obtain ⟨ql, rU⟩ : ∃ z, z = (Z06 (subs.map tabs) (subs.length - (k + 1))).length := ⟨_, rfl⟩
      obtain ⟨tl, vH⟩ : ∃ z, z = (tabs s).length := ⟨_, rfl⟩
      obtain ⟨cm, sU⟩ : ∃ z, z = (Z1k l.min l.cents p most (subs.map tabs) k).1 := ⟨_, rfl⟩
      obtain ⟨sv, hsv⟩ : ∃ z, z = (Z1k l.min l.cents p most (subs.map tabs) k).2.1 := ⟨_, rfl⟩
      obtain ⟨en, sV⟩ : ∃ z, z = ent (tabs s) q := ⟨_, rfl⟩
      have yE := ZiI (i := q) pS.2.2
      rw [<- hq] at pT qB pP rS
      rw [<- sV] at pP yE
      have e7 : wr.cell? ⟨gs, os + q, none⟩ = some (.int .i64 en) := by
       rw [sV, Kaa wr gs (os + q) _ _ _ vC, vD q qB, Z3I qB]
      rw [<- sU] at pP rQ sP
      rw [<- hsv] at pP rQ
      rw [<- sU] at qV
      rw [<- hsv] at qW
      rw [<- rU] at e5 pT
      rw [<- vH] at e4 pT qB
      have yF : PB ≠ W2.1.size := by omega
      have yG : PB ≠ W2.1.size + 1 := by omega
      have d1 := qA.cell (i := s) (by rw [Z4z]; exact pF)
      have d2 := qA.free s
      have rV : Boxed (wr.setCell ⟨PB, s, none⟩ (.int .i64 (q : Nat))) W2.1.size 3 (.int .i64 (cm : Nat)) := (ZA _ _ _ _ (by show W2.1.size ≠ PB; omega)).trans qV
      have vI : Boxed (wr.setCell ⟨PB, s, none⟩ (.int .i64 (q : Nat))) (W2.1.size + 1) 3 (.int .i64 sv) := (ZA _ _ _ _ (by show W2.1.size + 1 ≠ PB; omega)).trans qW
      have pQ : Boxed ((wr.setCell ⟨PB, s, none⟩ (.int .i64 (q : Nat))).setCell ⟨W2.1.size, 0, none⟩ (.int .i64 ((cm : Int) + (q : Int)))) (W2.1.size + 1) 3 (.int .i64 sv) := (ZA _ _ _ _ (by show W2.1.size + 1 ≠ W2.1.size; omega)).trans vI
      have vJ := rV.set (.int .i64 ((cm : Int) + (q : Int)))
      have yH : gs ≠ PB := by omega
      have f3 : ((wr.setCell ⟨PB, s, none⟩ (.int .i64 (q : Nat))).setCell ⟨W2.1.size, 0, none⟩ (.int .i64 ((cm : Int) + (q : Int)))).cell? ⟨gs, os + q, none⟩ = some (.int .i64 en) :=
       (Kak (w := wr) ((ZA _ _ _ _ (by show gs ≠ W2.1.size; omega)).trans (ZA _ _ _ _ yH))).trans e7
      have f1 := rV.cell
      have f1' := rV.frozen
      have f2 := pQ.cell
      have f2' := pQ.frozen
      have vK : IntsAt (wr.setCell ⟨PB, s, none⟩ (.int .i64 (q : Nat))) PB (Z88 (ZgO subs (ZbX l.min l.cents p most (subs.map tabs)) f (k + 1)) Gs.length) := by
       have := qA.set s (q : Int)
       rw [Zha _ pF] at this
       rw [rS]
       exact this
      have vL : W2.grownBy (wr.setCell ⟨PB, s, none⟩ (.int .i64 (q : Nat))) (some PB) := Z4i hG (Z08 _ _ _) (fun r e => .inl (by cases e; rfl))
      have vM : W2.grownBy ((wr.setCell ⟨PB, s, none⟩ (.int .i64 (q : Nat))).setCell ⟨W2.1.size, 0, none⟩ (.int .i64 ((cm : Int) + (q : Int)))) (some PB) := Z4i vL (Z08 _ _ _) (fun r e => .inr (by cases e; exact Z1 _))
      have vN := Z0 (And.intro (vK.setOther (a := ⟨W2.1.size, 0, none⟩) yF (.int .i64 ((cm : Int) + (q : Int)))) (And.intro vM (And.intro vJ pQ)))
      have yI := Z0 pT
      have vO := Z0 pP
      have iQ : -6000 <= sv /\ sv <= 6000000000000000 := by obtain ⟨r1, r2, r3⟩ := rQ; constructor <;> omega
      have iR : -7000 <= sv + en /\ sv + en <= 7000000000000000 := by constructor <;> omega
      have iS : IntKind.i64.wrap (sv + en) = sv + en := IntWalk.i64_in _ (by omega)
      clear rQ
      have iT : cm + q <= 5000 + 5000 := by have := uY.out; rw [pZ.out] at this; omega
      clear pT pP rS hq rU vH sU hsv sV hs rT vF sR sT vD vC qZ rA qY sQ sS sO vB rR vG rV vI pQ vJ vK vL vM qA qV qW e7 pS rP sP xZ
      go_wp2_with (go_at_call 105; refine yI.out.mono ?_; rintro e w7 ⟨rfl, h7⟩; obtain rfl : wr = w7 := h7)
      generalize yJ : (wr.setCell ⟨PB, s, none⟩ (.int .i64 (q : Nat))).setCell ⟨W2.1.size, 0, none⟩ (.int .i64 ((cm : Int) + (q : Int))) = XW at f2 f2' f3 vN ⊢
      clear yJ f1 f1'
      go_still_tail 6, (by kernel_rfl)
      change wpList _ _ _ _ _ XW.drew
      go_wp2_with fail
      all_goals
       go_roundw
       case rel =>
        obtain ⟨h1, h2, h3, h4⟩ := vN.out
        refine ⟨k + 1, by omega, by go_num, Z4i (Z4i h2 (Zjn _) (fun r e => by cases e)) (Z08 _ _ _) (fun r e => .inr (by cases e; exact Kbd _)), IntsAt.setOther (w := World.drew _) h1 (a := ⟨W2.1.size + 1, 0, none⟩) yG _, ?_, ?_⟩
        ·rw [vO.out, Kc3]
         exact (ZA _ _ _ _ (by show W2.1.size ≠ W2.1.size + 1; omega)).trans h3
        ·rw [vO.out]
         exact Boxed.set (W := World.drew _) _ h4
       case measure => simp [intOf]; omega
     ·obtain rfl : k = subs.length := by omega
      have vP : wr.1[D]? = some (.deferred (some [])) := (hG.block D (Z5.1 uX.out).1 (by intro e; injection e; omega)).trans uX.out
      have yK := Z0 vP
      have vQ := Z0 qA
      have HG := Z0 hG
      have yL := Z0 pM
      clear vP qA qV qW hG
      go_wp2_with fail
      refine ⟨by simp, .inl ⟨_, _, rfl, run_takeDeferred yK.out, ?_⟩⟩
      refine ⟨_, results_none rfl _ _ _, ⟨_, rfl⟩, Z4i (Z4i (Z4j PB yL.out) HG.out (fun r e => .inl (by cases e; rfl))) (grownBy_putObj' _ _ _) (fun r e => .inr (by cases e; omega)), ?_⟩
      rw [<- xN.out]
      exact ((grownBy_putObj' _ _ _).block PB vQ.out.lt (by intro e; injection e; omega)).trans vQ.out
 case stop =>
  rintro D c pre W hD hS hX hK
  exact hX.elim
end
section
open Go.RowKit Go.Sort Go.Shelf
theorem Z7i (x : Int) : ∀ l : List Int, l.Pairwise (· <= ·) -> (ZiF x l).Pairwise (· <= ·)
 | [], _ => by simp [ZiF]
 | y :: r, h => by
  unfold ZiF
  obtain ⟨h1, h2⟩ := Kbu.1 h
  by_cases e : x <= y
  ·rw [if_pos e]
   exact Kbu.2 ⟨fun z hz => by
    rcases Kbf.1 hz with rfl | hz
    ·exact e
    ·have := h1 z hz; omega, h⟩
  ·rw [if_neg e]
   refine Kbu.2 ⟨fun z hz => ?_, Z7i x r h2⟩
   rcases Kbf.1 ((Z7j x r).mem_iff.1 hz) with rfl | hz
   ·omega
   ·exact h1 z hz
theorem Z5O : ∀ l : List Int, (Z1l l).Pairwise (· <= ·)
 | [] => List.Pairwise.nil
 | x :: r => Z7i x _ (Z5O r)
theorem Z4w : ∀ a b : List Int, a.Perm b -> a.Pairwise (· <= ·) -> b.Pairwise (· <= ·) -> a = b
 | [], b, h, _, _ => (List.nil_perm.1 h).symm ▸ rfl
 | x :: r, b, h, h1, h2 => by
  cases b with
  | nil => exact absurd h.symm (by intro h; have := h.length_eq; simp at this)
  | cons y s =>
   obtain ⟨p1, p2⟩ := Kbu.1 h1
   obtain ⟨q1, q2⟩ := Kbu.1 h2
   have hx : x ∈ y :: s := h.mem_iff.1 Kaf
   have hy : y ∈ x :: r := h.mem_iff.2 Kaf
   have e : x = y := by
    rcases Kbf.1 hx with e | hx
    ·exact e
    ·rcases Kbf.1 hy with e | hy
     ·exact e.symm
     ·have := q1 x hx
      have := p1 y hy
      omega
   subst e
   rw [Z4w r s (List.Perm.cons_inv h) p2 q2]
theorem Zbx (l : List Int) : (l.mergeSort fun x y => decide (x <= y)) = Z1l l := by
 refine Z4w _ _ ((List.mergeSort_perm l _).trans (Z0N l).symm) ?_ (Z5O l)
 have := List.pairwise_mergeSort (le := fun x y : Int => decide (x <= y)) (fun a b c h1 h2 => by simp at h1 h2 ⊢; omega) (fun a b => by simp; omega) l
 exact this.imp (fun h => by simpa using h)
theorem Zh3 (g cap base : Nat) (zs : List Int) (w : World) (ho : w.ownsRow base 3 1 (.slice (some ⟨g, 0, none⟩) zs.length cap) zs.length (zs.map (Value.int .i64))) (hl : zs.length <= 100000) :
 Calls Tryz.prog 106 #[.slice (some ⟨g, 0, none⟩) zs.length cap] w fun e w' => e = .returned (.tuple #[]) /\ w.grownBy w' (some g) /\ RowJ w' base (.slice (some ⟨g, 0, none⟩) (Z1l zs).length cap) (Z1l zs) := by
 rcases ho.2 with ⟨h0, _⟩ | ⟨g', cap', cur, hv, hg, hn, h1, h2, h3, h4⟩
 ·cases h0
 cases hv
 rw [Kdj] at h4
 have pA : g < w.1.size := (Z5.1 hn).1
 refine (Tryz.slices_Sort_int g 0 cap zs w (holds_of_blockI hn h4) pA (by omega)).mono ?_
 rintro e w' ⟨rfl, n, os, rfl⟩
 rw [Zbx]
 have rK : (Z1l zs).length = zs.length := (Z0N zs).length_eq
 refine ⟨rfl, grownBy_sortedI _, ?_⟩
 have hw := heap_sortedI (n := n) (os := os) (Z1l zs).toArray hn
 refine ⟨_, cap, rfl, fun _ => ⟨g, 0, _, rfl, hg, hw, fun i hi => ?_⟩⟩
 have ht := take_putCellsI cur (Z1l zs) (by omega)
 have : ((putCells (Value.int .i64) 0 (Z1l zs).toArray cur).toList.take (Z1l zs).length)[i]? = ((Z1l zs).map (Value.int .i64))[i]? := by rw [ht]
 rw [Kcd hi, Kal, Z3 hi, Kb9] at this
 rw [Ka0]
 exact this
def PassV (w : World) (base : Nat) (v : Value) (zs : List Int) : Prop := RowJ w base v zs /\ (v = .slice none 0 0 \/ ∃ b off c, v = .slice (some ⟨b, off, none⟩) zs.length c)
theorem PassV.kept {w w' : World} {base : Nat} {v : Value} {zs : List Int} {row : Option Nat} (h : PassV w base v zs) (hg : w.grownBy w' row) (pO : ∀ g, row = some g -> g < base \/ ∀ cur fr, w.1[g]? ≠ some (.cells cur 3 fr)) : PassV w' base v zs := ⟨h.1.kept hg pO, h.2⟩
theorem PassV.below {w w' : World} {base : Nat} {v : Value} {zs : List Int} (h : PassV w base v zs) (hb : Below w.1.size w w') : PassV w' base v zs := ⟨h.1.below hb, h.2⟩
theorem PassV.nil (w : World) (base : Nat) : PassV w base (.slice none 0 0) [] := ⟨RowJ.nil _ _ _ _, .inl rfl⟩
theorem PassV.zero {w : World} {base : Nat} {zs : List Int} (h : PassV w base (.slice none 0 0) zs) : zs = [] := by
 obtain ⟨a, cap, hv, _⟩ := h.1
 injection hv with _ e _
 exact Kag.1 e.symm
theorem RowJ.news {w : World} {base b off n c : Nat} {zs : List Int} (h : RowJ w base (.slice (some ⟨b, off, none⟩) n c) zs) : ∀ j u, (zs.map (Value.int .i64))[j]? = some u -> w.cell? ((⟨b, off, none⟩ : Addr).add j) = some u := by
 intro j u hj
 obtain ⟨rB, sW⟩ := Kam.1 hj
 rw [Z7] at rB
 obtain ⟨a, cap, hv, hc⟩ := h
 obtain ⟨g, o, cur, ha, _, hh, qC⟩ := hc (by omega)
 injection hv with e1 _ _
 rw [<- e1] at ha
 injection ha with ha
 injection ha with e2 e3
 subst e2; subst e3
 have ea : (⟨b, off, none⟩ : Addr).add j = ⟨b, off + j, none⟩ := by unfold Addr.add; split <;> simp_all
 rw [ea, Kaa w b (off + j) _ _ _ hh, qC j rB, <- sW, Kba]
theorem RdInts.news {w : World} {b off n c : Nat} {zs : List Int} (h : RdInts w (.slice (some ⟨b, off, none⟩) n c) zs) : ∀ j u, (zs.map (Value.int .i64))[j]? = some u -> w.cell? ((⟨b, off, none⟩ : Addr).add j) = some u := by
 intro j u hj
 obtain ⟨rB, sW⟩ := Kam.1 hj
 rw [Z7] at rB
 obtain ⟨a, cap, hv, hc⟩ := h
 obtain ⟨g, o, ha, hh, qC⟩ := hc (by omega)
 injection hv with e1 _ _
 rw [<- e1] at ha
 injection ha with ha
 injection ha with e2 e3
 subst e2; subst e3
 have ea : (⟨b, off, none⟩ : Addr).add j = ⟨b, off + j, none⟩ := by unfold Addr.add; split <;> simp_all
 rw [ea, qC j rB, <- sW, Kba]
theorem ZcQ (zs : List Int) : ∀ u ∈ zs.map (Value.int .i64), u.oneCell' = true := by
 intro u hu
 obtain ⟨b, _, rfl⟩ := Kae.1 hu
 rfl
theorem Z9k (x : Int) : ∀ (l : List Int) (q : List Int), (l.foldl (fun q i => q.set i.toNat x) q).length = q.length
 | [], q => rfl
 | i :: r, q => by rw [List.foldl_cons, Z9k x r]; simp
theorem Z5p (gs : List PGrp) (f : Nat -> Int) (p : List Int) : ∀ k, (Z0M gs f k p).1.length = p.length
 | 0 => rfl
 | k + 1 => by rw [Z1t]; dsimp only; rw [Z9k, Z5p gs f p k]
theorem Zhp (T BB TB PB base : Nat) (v vg : Value) (Gs : List Grp) (tabs : Nat -> List Int) (f : Nat -> Int) (np : Nat) (pls : List (Int × Int)) (w : World)
 (h : TreeW w T BB TB PB base v vg Gs tabs Gs.length (Z88 f Gs.length)) (hF : Forest pls (Z0n Gs)) (hn : Gs.length <= 100000) (iU : np <= 100000)
 (hf : ∀ g, g < Gs.length -> 0 <= f g /\ f g <= ((Z1o (Z0n Gs) f g).length : Int)) (qO : ∀ g, g < Gs.length -> (Z1o (Z0n Gs) f g).length <= 100000)
 (vR : ∀ g, g < Gs.length -> ∀ i ∈ Z1o (Z0n Gs) f g, 0 <= i /\ i < (np : Int)) :
 Calls Tryz.prog 65 #[.pointer (some ⟨T, 0, none⟩), .int .i64 np] w fun e w' => e = .returned (.slice (some ⟨w.1.size, 0, none⟩) np np) /\ Below w.1.size w w' /\
  IntsAt w' w.1.size (Z0M (Z0n Gs) f Gs.length (List.replicate np 0)).1 := by
 obtain ⟨l1, l2, l3, l4, l5⟩ := h.lt
 obtain ⟨c0, c1, c2, c3, c4⟩ := h.tr.c
 have pH := h.pv
 obtain ⟨fB, f1, f2⟩ := h.bl
 have pD := h.gr
 obtain ⟨ag, cg, rfl, pD⟩ := pD
 have yM := Z0 pD
 have yN := Z0 f2
 have yO := Z0 f1
 have sK := Z0 pH
 have HF := Z0 hF
 have yP := Z0 hf
 have yQ := Z0 qO
 have yR := Z0 vR
 obtain ⟨j0, hj⟩ := info_parts Tryz.infoI
 have HJ := Z0 hj
 have yS := fun W => run_make_row' (P := Tryz.prog) 35 3 (.int .i64 0) 8 Tryz.underlying35 Tryz.infoI rfl .i64 .i64 np (by omega) (by omega) W
 have yT := fun W => run_make_row' (P := Tryz.prog) 109 35 (.slice none 0 0) 24 Tryz.underlying109 Tryz.infoSl rfl .i64 .i64 Gs.length (by omega) (by omega) W
 clear h pD f2 f1 pH hF hf qO vR hj
 go_enter Tryz.func65, Tryz.ntmps65
 have pE : T < w.1.size := by omega
 have sX : Below w.1.size w (w.alloc (.cells (madeCells #[Value.int .i64 0] np) 3)) := (Z9 _ w).alloc (Z1 _) _
 have sY : Below w.1.size w ((w.alloc (.cells (madeCells #[Value.int .i64 0] np) 3)).alloc (.cells (madeCells #[Value.slice none 0 0] Gs.length) 35)) := sX.alloc (by simp) _
 have d1 := (sX.cell (p := ⟨T, 1, none⟩) pE).trans c1
 have d2 := (sY.cell (p := ⟨T, 1, none⟩) pE).trans c1
 have vS : IntsAt ((w.alloc (.cells (madeCells #[Value.int .i64 0] np) 3)).alloc (.cells (madeCells #[Value.slice none 0 0] Gs.length) 35)) w.1.size (List.replicate np 0) :=
  (ZB _ _ _ (by simp)).trans (Z4W w np)
 have vT : ((w.alloc (.cells (madeCells #[Value.int .i64 0] np) 3)).alloc (.cells (madeCells #[Value.slice none 0 0] Gs.length) 35)).rowIs (w.1.size + 1) 35 Gs.length (fun _ => .slice none 0 0) := by
  have := World.rowIs_made (w.alloc (.cells (madeCells #[Value.int .i64 0] np) 3)) (.slice none 0 0) Gs.length 35
  rw [Z6] at this
  exact this
 have sZ := Z0 (And.intro vS vT)
 clear vS vT
 go_wp2_with fail
 clear d1 d2 yS yT
 go_loopw [28] (fun i wr => ∃ k : Nat, k <= Gs.length /\ i = .int .i64 k /\ Below w.1.size w wr /\ w.1.size + 2 <= wr.1.size /\ IntsAt wr w.1.size (Z0M (Z0n Gs) f k (List.replicate np 0)).1 /\
  ∃ F : Nat -> Value, wr.rowIs (w.1.size + 1) 35 Gs.length F /\ ∀ j, j < k -> PassV wr (w.1.size + 2) (F j) (Z0m (Z0n Gs) f j)) (fun i _ => Gs.length - (intOf i).toNat)
 case atStart =>
  refine ⟨0, ZE _, rfl, sY, by simp, sZ.out.1, _, sZ.out.2, fun j hj => absurd hj (Ka2 _)⟩
 case round =>
  clear sX sY sZ
  obtain ⟨k, hk, rfl, hB, hz, hI, F, tA, tB⟩ := hrel
  obtain ⟨wo, yU⟩ : ∃ x, x = wr := ⟨_, rfl⟩
  subst yU
  by_cases pA : k < Gs.length
  ·obtain ⟨gg, og, rfl, pR, qM⟩ := yM.out (by omega)
   obtain ⟨sv, hsv, g0, g1, g2, g3⟩ := qM k pA
   have rC : k < (Z0n Gs).length := by rw [Z1W]; exact pA
   have vU := Z2F pA
   have pN := Za4 HF.out f (List.replicate np 0) rC
   have rD := Z3z HF.out f rC
   have rW := HF.out.some_ k rC
   have rX := HF.out.below k rC
   have rY := yP.out k pA
   have tC := yQ.out k pA
   have tD := yR.out k pA
   have pU : Z1o (Z0n Gs) f k = Z1l ((if (Z0c (Z0n Gs) k).lvl = 0 then (Z0c (Z0n Gs) k).items else []) ++ (Z05 (Z0n Gs) k).flatMap (Z0m (Z0n Gs) f)) := rfl
   have pV : Z3n (Z0n Gs) f k = (Z1o (Z0n Gs) f k).take ((Z1o (Z0n Gs) f k).length - (f k).toNat) := rfl
   rw [pV] at pN
   rw [vU] at pN rW pU
   have pF : ∀ x ∈ Z05 (Z0n Gs) k, x < Gs.length := fun x hx => by have := rX x hx; omega
   obtain ⟨x, hx⟩ : ∃ x, x = Gs[k] := ⟨_, rfl⟩
   rw [<- hx] at hsv g0 g1 g2 pN rW pU
   obtain ⟨lvl, nm, up, items⟩ := x
   dsimp only [pOf] at hsv g0 g1 g2 g3 pN rW pU
   obtain ⟨L, hL⟩ : ∃ L, L = (if lvl = 0 then items else []) ++ (Z05 (Z0n Gs) k).flatMap (Z0m (Z0n Gs) f) := ⟨_, rfl⟩
   replace pU : Z1o (Z0n Gs) f k = Z1l L := by rw [hL]; exact pU
   rw [pU] at pN rD rY tC tD
   have pG := yN.out k pA
   have cb := yO.out.cell pA
   have rK : (Z05 (Z0n Gs) k).length <= 100000 := by
    unfold Z05
    refine Kaw (Kbw _ _) ?_
    rw [Kay, Z1W]; exact hn
   obtain ⟨subs, hS⟩ : ∃ s, s = Z05 (Z0n Gs) k := ⟨_, rfl⟩
   rw [<- hS] at pG hL rX pF rK
   obtain ⟨aB, capB, pL⟩ := pG.len
   rw [pL] at cb
   rw [Z7] at cb pL
   obtain ⟨p, hp⟩ : ∃ p : Nat, f k = (p : Int) := ⟨_, (Ka3 rY.1).symm⟩
   rw [hp] at pN rD rY
   rw [Kar] at pN rD
   have c5 := sK.out.cell (i := k) (by rw [Z4z]; exact pA)
   rw [Zcn pA, hp] at c5
   have e1 : wo.cell? ⟨gg, og + k * 4, none⟩ = some (.int .i64 lvl) := (hB.cell (p := ⟨gg, og + k * 4, none⟩) pR).trans g0
   have e2 : wo.cell? ⟨gg, og + k * 4 + 1, none⟩ = some (.string nm) := (hB.cell (p := ⟨gg, og + k * 4 + 1, none⟩) pR).trans g1
   have e3 : wo.cell? ⟨gg, og + k * 4 + 2, none⟩ = some (.int .i64 up) := (hB.cell (p := ⟨gg, og + k * 4 + 2, none⟩) pR).trans g2
   obtain ⟨ai, ci, rfl, rE⟩ := hsv
   have e4 : wo.cell? ⟨gg, og + k * 4 + 3, none⟩ = some (.slice ai items.length ci) := (hB.cell (p := ⟨gg, og + k * 4 + 3, none⟩) pR).trans g3
   obtain ⟨X, hX⟩ : ∃ X, X = if lvl = 0 then items else [] := ⟨_, rfl⟩
   rw [<- hX] at hL
   have yV : L.length <= 100000 := by have := tC; rwa [(Z0N L).length_eq] at this
   have vV : L.length = X.length + (subs.flatMap (Z0m (Z0n Gs) f)).length := by rw [hL, ZC]
   obtain ⟨CG, rF⟩ : ∃ c, c = Obj.cells #[.int .i64 lvl, .string nm, .int .i64 up, .slice ai items.length ci] 107 (0, 0) := ⟨_, rfl⟩
   have qD : Below wo.1.size wo (wo.alloc CG) := (Z9 _ wo).alloc (Z1 _) _
   have rG : Below w.1.size w (wo.alloc CG) := hB.alloc hB.size _
   have tE : (wo.alloc CG).1.size = wo.1.size + 1 := Z6 _ _
   have q0 : (wo.alloc CG).cell? ⟨wo.1.size, 0, none⟩ = some (.int .i64 lvl) := by rw [rF]; exact Kaa _ _ 0 _ _ _ (Z02 wo _)
   have q3 : (wo.alloc CG).cell? ⟨wo.1.size, 3, none⟩ = some (.slice ai items.length ci) := by rw [rF]; exact Kaa _ _ 3 _ _ _ (Z02 wo _)
   have hit : RdInts (wo.alloc CG) (.slice ai items.length ci) items := RdInts.below (w := w) ⟨ai, ci, rfl, rE⟩ rG
   have HX := Z0 hX
   have HL := Z0 hL
   have vW := Z0 pN
   have vX := Z0 rD
   have vY := Z0 vV
   have yW := Z0 tD
   have sL := Z0 pG
   have sM := Z0 pL
   have HI := Z0 hI
   have vZ := Z0 tA
   have tF := Z0 tB
   have yX := Z0 q0
   have yY := Z0 tE
   have HP := Z0 hp
   have yZ := Z0 pF
   have zA := Z0 rX
   clear hX hL pN rD vV tD pG pL hI tA tB q0 tE hp pF rX pU tC rE qM g0 g1 g2 g3 vU hS hx pV rC
   go_upto_if 35 with fail
   rw [<- rF]
   have iV := Z0 rF
   clear rF
   go_cut [9] from 35 to 39 (fun t wx => Below (wo.alloc CG).1.size (wo.alloc CG) wx /\ wx.ownsRow (wo.alloc CG).1.size 3 1 t X.length (X.map (Value.int .i64)))
   case first =>
    by_cases h0 : lvl = 0
    ·have qE : X = items := by rw [HX.out, if_pos h0]
     have rU : (lvl == 0) = true := by simp [h0]
     obtain ⟨ai', ci', hv, hc⟩ := hit
     have zB : 0 < items.length := Kcr.2 rW
     obtain ⟨gi, oi, rfl, zC, rE⟩ := hc zB
     injection hv with q1 q2 q4
     subst q1
     have rH : ∀ j u, (items.map (Value.int .i64))[j]? = some u -> (wo.alloc CG).cell? ((⟨gi, oi, none⟩ : Addr).add j) = some u := RdInts.news (n := items.length) (c := ci) ⟨_, ci, rfl, fun _ => ⟨gi, oi, rfl, zC, rE⟩⟩
     have tG := Z0 rH
     have tH := Z0 qE
     have iW : items.length <= 100000 := by have := vY.out; rw [qE] at this; omega
     clear rH qE rE hc q2 q4 h0
     go_wp2_with (at_builtin; refine wpList_append_own _ rfl _ _ 35 rfl (wo.alloc CG).1.size 3 j0 (.int .i64 0) 1 8 Tryz.underlying35 HJ.out.1 HJ.out.2.1 HJ.out.2.2.1 HJ.out.2.2.2 rfl (by decide) _ _ _ rfl (Kbb _ _ _ _) ⟨gi, oi, none⟩ items.length ci (items.map (Value.int .i64)) rfl (by simp) tG.out (ZcQ items) (by unfold maxLen; omega) (by omega) (Z1 _) ?_; intro v' w5 rZ tI _)
     all_goals go_meet
     case rel =>
      rw [Ka0, Kca] at rZ
      rw [tH.out]
      exact ⟨(Z9 _ _).grown tI (Z1 _) (fun r e => by cases e), rZ⟩
    ·have qE : X = [] := by rw [HX.out, if_neg h0]
     have rU : (lvl == 0) = false := by simp [h0]
     have tH := Z0 qE
     clear qE
     go_wp2_with fail
     all_goals go_meet
     case rel =>
      rw [tH.out]
      exact ⟨Z9 _ _, Kbb _ _ _ _⟩
   case rest =>
    obtain ⟨tJ, sA⟩ := hcut
    have pB : Below w.1.size w wc := Z01 rG rG.size tJ
    have b2 := (pB.cell (p := ⟨T, 2, none⟩) pE).trans c2
    have bb := (pB.cell (p := ⟨BB, k, none⟩) (by show BB < _; omega)).trans cb
    have wA : ∀ j, j <= subs.length -> X.length + ((subs.take j).flatMap (Z0m (Z0n Gs) f)).length <= L.length := fun j hj => by
     rw [vY.out]
     conv => rhs; rw [<- Kcl j subs, Kai, ZC]
     omega
    have zD := Z0 wA
    clear wA hit q3
    go_wp2_with fail
    go_loopw [9, 48] (fun v i wq => ∃ j : Nat, j <= subs.length /\ i = .int .i64 j /\ Below (wo.alloc CG).1.size (wo.alloc CG) wq /\
     wq.ownsRow (wo.alloc CG).1.size 3 1 v (X ++ (subs.take j).flatMap (Z0m (Z0n Gs) f)).length ((X ++ (subs.take j).flatMap (Z0m (Z0n Gs) f)).map (Value.int .i64))) (fun _ i _ => subs.length - (intOf i).toNat)
    case atStart => exact ⟨0, ZE _, rfl, tJ, by simpa using sA⟩
    case round =>
     clear tJ sA pB b2 bb
     obtain ⟨j, hj, rfl, pC, hO⟩ := hrel
     have pM : Below w.1.size w wr := Z01 rG rG.size pC
     have tE := yY.out
     by_cases qF : j < subs.length
     ·have wB := zA.out _ (Z4 qF)
      have pF := yZ.out _ (Z4 qF)
      have zE := zD.out (j + 1) qF
      have qG : X ++ (subs.take (j + 1)).flatMap (Z0m (Z0n Gs) f) = (X ++ (subs.take j).flatMap (Z0m (Z0n Gs) f)) ++ Z0m (Z0n Gs) f subs[j] := by
       rw [Z8 qF, Kai, Kbc]; simp
      have qL : (X ++ (subs.take (j + 1)).flatMap (Z0m (Z0n Gs) f)).length = X.length + ((subs.take (j + 1)).flatMap (Z0m (Z0n Gs) f)).length := ZC
      obtain ⟨s, hs⟩ : ∃ s, s = subs[j] := ⟨_, rfl⟩
      have qX := sL.out.below pM
      rw [sM.out] at qX
      obtain ⟨aB', capB', pQ, qY⟩ := qX
      injection pQ with q1 q2 q3
      subst q1
      clear q2 q3
      obtain ⟨gb, ob, curb, rfl, yA, qZ, rA⟩ := qY (by rw [Z7]; omega)
      have e1 : wr.cell? ⟨gb, ob + j, none⟩ = some (.int .i64 (subs[j] : Int)) := by
       rw [Kaa wr gb (ob + j) _ _ _ qZ, rA j (by rw [Z7]; exact qF), Kba]; rfl
      rw [<- hs] at wB pF qG e1
      have e2 : wr.cell? ⟨w.1.size + 1, s, none⟩ = some (F s) := (pC.cell (p := ⟨w.1.size + 1, s, none⟩) (by show w.1.size + 1 < _; omega)).trans ((qD.cell (p := ⟨w.1.size + 1, s, none⟩) (by show w.1.size + 1 < _; omega)).trans (vZ.out.cell pF))
      have pH := ((tF.out s wB).below qD).below pC
      rw [qG, ZC] at qL
      obtain ⟨A, hA⟩ : ∃ A, A = X ++ (subs.take j).flatMap (Z0m (Z0n Gs) f) := ⟨_, rfl⟩
      obtain ⟨zs, wC⟩ : ∃ z, z = Z0m (Z0n Gs) f s := ⟨_, rfl⟩
      rw [<- hA] at qG hO qL
      rw [<- wC] at qG pH qL
      have wD := Z0 qG
      have HO := Z0 hO
      have tK := pC.size
      have uL : A.length + zs.length <= 100000 := by omega
      clear qG hO hA wC hs rA qZ qY qL zE
      rcases pH with ⟨qH, rI | ⟨bs, os, cs, rI⟩⟩
      ·rw [rI] at e2 qH
       have wE : zs = [] := PassV.zero (base := w.1.size + 2) ⟨qH, .inl rfl⟩
       have zF := Z0 wE
       clear wE rI qH
       go_wp2_with (at_builtin; refine wpList_append_own_none rfl _ _ 35 rfl (wo.alloc CG).1.size 3 j0 1 Tryz.underlying35 HJ.out.1 _ _ _ rfl HO.out rfl ?_)
       go_roundw
       case rel =>
        refine ⟨j + 1, by omega, by go_num, pC, ?_⟩
        rw [wD.out, zF.out, Ka1]
        exact HO.out
       case measure => simp [intOf]; omega
      ·rw [rI] at e2 qH
       have rH := RowJ.news qH
       have tG := Z0 rH
       clear rI qH rH
       go_wp2_with (at_builtin; refine wpList_append_own _ rfl _ _ 35 rfl (wo.alloc CG).1.size 3 j0 (.int .i64 0) 1 8 Tryz.underlying35 HJ.out.1 HJ.out.2.1 HJ.out.2.2.1 HJ.out.2.2.2 rfl (by decide) _ _ _ rfl HO.out ⟨bs, os, none⟩ zs.length cs (zs.map (Value.int .i64)) rfl (by simp) tG.out (ZcQ zs) (by unfold maxLen; omega) (by omega) tK ?_; intro v' w5 rZ tI _)
       go_roundw
       case rel =>
        refine ⟨j + 1, by omega, by go_num, pC.grown tI tK (fun r e => (HO.out.lt r e).1), ?_⟩
        rw [wD.out, ZC, ZD]
        exact rZ
       case measure => simp [intOf]; omega
     ·obtain rfl : j = subs.length := by omega
      rw [Kat, <- HL.out] at hO
      have b4 := (pM.cell (p := ⟨T, 4, none⟩) pE).trans c4
      have b5 := (pM.cell (p := ⟨PB, k, none⟩) (by show PB < _; omega)).trans c5
      have tK := pC.size
      have r0 := (pC.cell (p := ⟨wo.1.size, 0, none⟩) (by show wo.1.size < _; omega)).trans yX.out
      have qR : p <= L.length := by have := rY.2; rw [(Z0N L).length_eq] at this; omega
      have wF : IntsAt wr w.1.size (Z0M (Z0n Gs) f k (List.replicate np 0)).1 := (HI.out.below qD (by omega)).below pC (by omega)
      have qI : wr.rowIs (w.1.size + 1) 35 Gs.length F := Z12 (Z12 vZ.out qD (by omega)) pC (by omega)
      have wG : ∀ j, j < k -> PassV wr (w.1.size + 2) (F j) (Z0m (Z0n Gs) f j) := fun j hj => ((tF.out j hj).below qD).below pC
      have wH := Z0 wF
      have tL := Z0 qI
      have zG := Z0 wG
      clear wF qI wG
      rcases Joins.ownsRow_forms hO with ⟨rfl, tM⟩ | ⟨g2, cap2, rfl⟩
      ·have tN : L = [] := Kag.1 tM
       obtain rfl : p = 0 := by omega
       have zH := Z0 tN
       have iX := Z0 tM
       have iY := Z0 hO
       rw [tN] at qR
       clear tM tN qR hO
       go_wp2_with (go_at_call 106; refine (Tryz.slices_Sort_int_none none 0 wr).mono ?_; rintro e w5 ⟨rfl, h5⟩; obtain rfl : wr = w5 := h5.symm)
       go_loopw [75] (fun i wq => ∃ j : Nat, j <= 0 /\ i = .int .i64 j /\ wr = wq) (fun i _ => 0)
       case atStart => exact ⟨0, Z1 _, rfl, by first | rfl | trivial⟩
       case round =>
        obtain ⟨j, hj, rfl, hW⟩ := hrel
        subst hW
        obtain rfl : j = 0 := by omega
        have qI := tL.out
        have e1 := qI.cell pA
        have e2 := qI.frozen k
        clear qI
        go_wp2_with fail
        go_roundw
        case rel =>
         have wI : Z1l L = [] := by rw [zH.out]; rfl
         refine ⟨k + 1, by omega, by go_num, pM.setCell (p := ⟨w.1.size + 1, k, none⟩) (Kbd _) _, by simp [World.setCell]; omega, ?_, _, tL.out.set k _, fun j hj => ?_⟩
         ·rw [vW.out, wI]
          exact wH.out.setOther (by show w.1.size ≠ w.1.size + 1; omega) _
         ·by_cases e : j = k
          ·subst e
           rw [if_pos rfl, vX.out, wI]
           exact PassV.nil _ _
          ·rw [if_neg e]
           exact (zG.out j (by omega)).kept (Z08 _ _ _) (fun g e => .inl (by cases e; exact Ka4 _))
        case measure => simp [intOf]; omega
      ·have iZ : L.length <= cap2 := by
        rcases hO.2 with ⟨h0, _⟩ | ⟨g', cap', cur, hv, _, _, h1, _, _, _⟩
        ·cases h0
        ·cases hv; exact h1
       have jA := (hO.lt g2 rfl).1
       have jB := (hO.lt g2 rfl).2
       obtain ⟨tk, pV⟩ : ∃ tk : Nat, (L.length : Int) - (p : Int) = (tk : Int) := ⟨L.length - p, by omega⟩
       have rM : tk <= L.length := by omega
       have wJ : L.length - p = tk := by omega
       have wK := Z0 wJ
       have HO := Z0 hO
       have wL : ∀ w5, wr.grownBy w5 (some g2) -> w5.cell? ⟨T, 4, none⟩ = some (.slice (some ⟨PB, 0, none⟩) Gs.length Gs.length) /\ w5.cell? ⟨PB, k, none⟩ = some (.int .i64 p) /\ w5.cell? ⟨wo.1.size, 0, none⟩ = some (.int .i64 lvl) := fun w5 hg =>
        ⟨hg.cell b4 (by show some T ≠ some g2; intro e; injection e; omega), hg.cell b5 (by show some PB ≠ some g2; intro e; injection e; omega), hg.cell r0 (by show some wo.1.size ≠ some g2; intro e; injection e; omega)⟩
       have zI := Z0 wL
       clear hO wL b4 b5 r0 wJ
       go_wp2_with (go_at_call 106; refine (Zh3 g2 cap2 _ L wr HO.out yV).mono ?_; rintro e w5 ⟨rfl, pJ, wM⟩; obtain ⟨b4, b5, r0⟩ := zI.out w5 pJ)
       have wN : IntsAt w5 w.1.size (Z0M (Z0n Gs) f k (List.replicate np 0)).1 := (pJ.block w.1.size (by omega) (by intro e; injection e; omega)).trans wH.out
       have pW : w5.rowIs (w.1.size + 1) 35 Gs.length F := tL.out.of_block (pJ.block _ (by omega) (by intro e; injection e; omega))
       have wO : ∀ j, j < k -> PassV w5 (w.1.size + 2) (F j) (Z0m (Z0n Gs) f j) := fun j hj => by
        have h1 := tF.out j hj
        have hg : (wo.alloc CG).grownBy w5 none := ⟨pJ.os.trans pC.os, pJ.tape.trans pC.tape, pJ.output.trans pC.output, Kaw pC.size pJ.size, fun i hi _ => (pJ.block i (by omega) (by intro e; injection e; omega)).trans (pC.block i hi)⟩
        exact (h1.below qD).kept hg (fun g e => by cases e)
       have wP : Below w.1.size w w5 := pM.grown pJ pM.size (fun r e => by cases e; omega)
       have wQ : (Z1l L).length = L.length := (Z0N L).length_eq
       have tO : (Z0M (Z0n Gs) f k (List.replicate np 0)).1.length = np := by rw [Z5p]; simp
       have jC := pJ.size
       have zJ := Z0 pW
       have zK := Z0 wO
       have wR := Z0 wM
       have zL := Z0 wP
       have wS := Z0 wN
       have qJ := Z0 wQ
       have zM := Z0 r0
       obtain ⟨st, tP⟩ : ∃ z, z = (Z0M (Z0n Gs) f k (List.replicate np 0)).1 := ⟨_, rfl⟩
       have zN := Z0 tP
       rw [<- tP] at wS tO
       have zO := Z0 tO
       clear pW wO wM wP wN wQ r0 tP tO b4 b5 pJ
       go_loopw [75] (fun i wq => ∃ j : Nat, j <= tk /\ i = .int .i64 j /\ w5.grownBy wq (some w.1.size) /\ IntsAt wq w.1.size (((Z1l L).take j).foldl (fun q i => q.set i.toNat lvl) st)) (fun i _ => tk - (intOf i).toNat)
       case atStart => exact ⟨0, ZE _, rfl, Z4j _ (Z9 _ _), wS.out⟩
       case round =>
        obtain ⟨wp, zP⟩ : ∃ x, x = wr := ⟨_, rfl⟩
        subst zP
        obtain ⟨j, hj, rfl, hG, qK⟩ := hrel
        have jD := hG.size
        by_cases qF : j < tk
        ·have tQ : j < (Z1l L).length := by rw [qJ.out]; omega
         obtain ⟨z0, z1⟩ := yW.out _ (Z4 tQ)
         obtain ⟨ar, cr, zQ, wT⟩ := wR.out
         obtain ⟨gr, or_, cur, sB, jE, wU, qC⟩ := wT (by omega)
         injection zQ with r1 r2 r3
         rw [<- r1] at sB
         injection sB with sB
         injection sB with r4 r5
         subst r4; subst r5
         have e1 : wp.cell? ⟨g2, j, none⟩ = some (.int .i64 (Z1l L)[j]) := hG.cell (by rw [Kaa w5 g2 j _ _ _ wU]; have := qC j tQ; rwa [Ka0] at this) (by show some g2 ≠ some w.1.size; intro e; injection e; omega)
         have e2 := hG.cell zM.out (by show some wo.1.size ≠ some w.1.size; intro e; injection e; omega)
         have pV : (Z1l L).take (j + 1) = (Z1l L).take j ++ [(Z1l L)[j]] := Z8 tQ
         obtain ⟨z, hz⟩ : ∃ z : Nat, (Z1l L)[j] = (z : Int) := ⟨_, (Ka3 z0).symm⟩
         rw [hz] at e1 z1 pV
         have jF : z < np := by omega
         have wV := Z9k lvl ((Z1l L).take j) st
         rw [zO.out] at wV
         have e3 := qK.cell (i := z) (by omega)
         have e4 := qK.free z
         have zR := Z0 pV
         have tR := Z0 qK
         have rJ := Z0 hG
         clear pV hz qC wU wT r1 r2 r3 wV qK
         go_wp2_with fail
         go_roundw
         case rel =>
          refine ⟨j + 1, by omega, by go_num, Z4i rJ.out (Z08 _ _ _) (fun r e => .inl (by cases e; rfl)), ?_⟩
          rw [zR.out, Kbs]
          have := tR.out.set z lvl
          simpa using this
         case measure => simp [intOf]; omega
        ·obtain rfl : j = tk := by omega
         have pW := zJ.out.of_block (hG.block (w.1.size + 1) (by omega) (by intro e; injection e; omega))
         have e1 := pW.cell pA
         have e2 := pW.frozen k
         have zS := Z0 pW
         have tR := Z0 qK
         have rJ := Z0 hG
         clear pW qK
         go_wp2_with fail
         go_roundw
         case rel =>
          have pH : PassV wp (w.1.size + 2) (.slice (if cap2 = j then some ⟨g2, 0, none⟩ else some ⟨g2, j, none⟩) (L.length - j) (cap2 - j)) (Z0m (Z0n Gs) f k) := by
           rw [vX.out, qJ.out, wK.out]
           have hr := ((wR.out.mono (base' := w.1.size + 2) (by omega)).kept rJ.out (fun g e => .inl (by cases e; omega)))
           have hd := RowJ.drop hr (k := j) (cap' := cap2 - j) (by rw [qJ.out]; exact rM)
           rw [Ka0, qJ.out] at hd
           have zT : ((Z1l L).drop j).length = L.length - j := by rw [Kdp, qJ.out]
           by_cases hc : cap2 = j
           ·rw [if_pos hc]
            have h0 : (Z1l L).drop j = [] := Kag.1 (by omega)
            rw [h0, show L.length - j = 0 by omega]
            exact ⟨RowJ.nil _ _ _ _, .inr ⟨g2, 0, _, rfl⟩⟩
           ·rw [if_neg hc]
            exact ⟨hd, .inr ⟨g2, j, _, by rw [zT]⟩⟩
          refine ⟨k + 1, by omega, by go_num, ?_, ?_, ?_, _, zS.out.set k _, fun i hi => ?_⟩
          ·exact (zL.out.grown rJ.out (by omega) (fun r e => by cases e; exact Z1 _)).setCell (p := ⟨w.1.size + 1, k, none⟩) (Kbd _) _
          ·simp [World.setCell]; omega
          ·rw [vW.out, qJ.out, wK.out, <- zN.out]
           exact tR.out.setOther (by show w.1.size ≠ w.1.size + 1; omega) _
          ·by_cases e : i = k
           ·subst e
            rw [if_pos rfl]
            exact pH.kept (Z08 _ _ _) (fun g e => .inl (by cases e; exact Ka4 _))
           ·rw [if_neg e]
            exact ((zK.out i (by omega)).kept rJ.out (fun g e => .inl (by cases e; omega))).kept (Z08 _ _ _) (fun g e => .inl (by cases e; exact Ka4 _))
         case measure => simp [intOf]; omega
  ·obtain rfl : k = Gs.length := by omega
   have HI := Z0 hI
   clear hI tA tB
   go_wp2_with fail
   go_ret
   exact ⟨rfl, hB, HI.out⟩
end
section
open Go.RowKit Go.Sort Go.Shelf
theorem Z8i {ls : List (Int × Int)} {gs : List PGrp} (hF : Forest ls gs) (hM : ∀ g, g < gs.length -> 0 < (Z0c gs g).lvl -> MOk (Z0b ls gs g)) : ∀ k, k <= gs.length -> ∀ h, h < gs.length -> 0 <= Z1L ls gs (Z0D ls gs gs.length) k h /\ Z1L ls gs (Z0D ls gs gs.length) k h < ((Z17 ls gs h).length : Int)
 | 0, _, h, hh => by
  show 0 <= (0 : Int) /\ (0 : Int) < _
  have := (Zcd hF h hh).2
  omega
 | k + 1, hk, h, hh => by
  rw [Z8j]
  unfold ZgO
  rw [Kat]
  by_cases hm : h ∈ Z05 gs (gs.length - 1 - k)
  ·obtain ⟨i, hi, rfl⟩ := Kau.1 hm
   rw [Z3S (Z1U _ _) hi]
   dsimp only
   have hg : gs.length - 1 - k < gs.length := by omega
   have hs := hF.sub _ hg _ hm
   have hl := (hF.lvl _ hh).1
   have e : (Z05 gs (gs.length - 1 - k)).map (fun h => (Z0D ls gs gs.length).getD h []) = Z0b ls gs (gs.length - 1 - k) := rfl
   rw [e]
   have pA : i < (Z0b ls gs (gs.length - 1 - k)).length := by unfold Z0b; rw [Z7]; exact hi
   have := Z9s (mn := (Z2L ls gs (gs.length - 1 - k)).1) (cents := (Z2L ls gs (gs.length - 1 - k)).2) (P := Z1L ls gs (Z0D ls gs gs.length) k (gs.length - 1 - k)) (most := ((Z0D ls gs gs.length).getD (gs.length - 1 - k) []).getD (Z1L ls gs (Z0D ls gs gs.length) k (gs.length - 1 - k)).toNat (-1)) (hM _ hg (by omega)) pA
   have e2 : (Z05 gs (gs.length - 1 - k)).getD i 0 = (Z05 gs (gs.length - 1 - k))[i] := by rw [Z2, Z3 hi]; rfl
   rw [Z9N hi, e2] at this
   exact ⟨Kce _, Int.ofNat_lt.2 this⟩
  ·rw [Z50 hm]
   exact Z8i hF hM k (by omega) h hh
theorem Zk2 {l : List Nat} {f g : Nat -> Nat} (h : ∀ x ∈ l, f x <= g x) : (l.map f).sum <= (l.map g).sum := by
 induction l with
 | nil => exact Z1 _
 | cons a r ih =>
  simp only [Kan, Ka7]
  have := h a Kaf
  have := ih (fun x hx => h x (Kaj _ hx))
  omega
theorem ZkJ {ls : List (Int × Int)} {gs : List PGrp} (hF : Forest ls gs) (hc : ∀ l ∈ ls, l.2 <= 1000000) (hp : ∀ g, g < gs.length -> PassOk ls gs g) {g : Nat} (hg : g < gs.length) : qN ls gs g <= (Z0c gs g).items.length := by
 unfold qN
 by_cases h0 : (Z0c gs g).lvl = 0
 ·rw [if_pos h0]; exact Z1 _
 ·rw [if_neg h0, <- Z6E hF hg (by have := (hF.lvl g hg).1; omega)]
  refine Zk2 (fun x hx => ?_)
  have pA := hF.below g hg x hx
  have h1 := Z55 (hp x (by omega)).poss
  have h2 := (Z9J hF hc x (by omega)).l2
  omega
def Z2J (gs : List PGrp) (k u : Nat) : List Int := ((List.range k).filter (fun h => decide ((Z0c gs h).up = (u : Int)))).map Int.ofNat
theorem ZgF (gs : List PGrp) (u : Nat) : Z2J gs gs.length u = (Z05 gs u).map Int.ofNat := rfl
theorem Z8N (gs : List PGrp) (k u : Nat) : Z2J gs (k + 1) u = if (Z0c gs k).up = (u : Int) then Z2J gs k u ++ [(k : Int)] else Z2J gs k u := by
 unfold Z2J
 rw [Kaq, Kb0, ZD]
 by_cases e : (Z0c gs k).up = (u : Int)
 ·rw [if_pos e, Kby (by simpa using e), Kbq]; rfl
 ·rw [if_neg e, Kbz (by simpa using e), Kbq, Kbe, Ka1]
theorem ZgE (gs : List PGrp) (k u : Nat) : (Z2J gs k u).length <= k := by
 unfold Z2J
 rw [Z7]
 have := Kbw (fun h => decide ((Z0c gs h).up = (u : Int))) (List.range k)
 rwa [Kay] at this
theorem RowJ.of_rowI {w : World} {base : Nat} {v : Value} {zs : List Int} (h : w.ownsRow base 3 1 v zs.length (zs.map (Value.int .i64))) : RowJ w base v zs := by
 obtain ⟨h1, h2 | ⟨g, cap, cur, hv, hb, hg, _, _, _, ht⟩⟩ := h
 ·obtain rfl := Kag.1 h2.2
  rw [h2.1]
  exact RowJ.nil _ _ _ _
 ·refine ⟨_, cap, hv, fun _ => ⟨g, 0, cur, rfl, hb, hg, fun i hi => ?_⟩⟩
  rw [Kdj] at ht
  have : (cur.toList.take zs.length)[i]? = (zs.map (Value.int .i64))[i]? := by rw [ht]
  rw [Kcd hi, Kal, Z3 hi, Kb9] at this
  rw [Ka0]; exact this
structure BelF (w : World) (base BB n : Nat) (G : Nat -> List Int) (F : Nat -> Value) : Prop where
 row : w.rowIs BB 35 n F
 own : ∀ u, u < n -> w.ownsRow base 3 1 (F u) (G u).length ((G u).map (Value.int .i64))
 apart : ∀ u, u < n -> ∀ u', u' < n -> u ≠ u' -> ∀ b, (F u).ownBlock = some b -> (F u').ownBlock ≠ some b
theorem BelF.below {w w' : World} {base BB n : Nat} {G : Nat -> List Int} {F : Nat -> Value} (h : BelF w base BB n G F) (hb : Below w.1.size w w') : BelF w' base BB n G F :=
 ⟨Z12 h.row hb h.row.lt, fun u hu => (h.own u hu).kept (Z0a hb) (by
  cases (F u).ownBlock with
  | none => exact .inl rfl
  | some b => exact .inr (by simp)), h.apart⟩
theorem Zbu {w : World} {base : Nat} {v : Value} {zs : List Value} {n : Nat} (h : w.ownsRow base 3 1 v n zs) {b : Nat} (hb : v.ownBlock = some b) : base <= b /\ b < w.1.size := h.lt b hb
theorem BelF.put {w w1 : World} {base BB n : Nat} {G : Nat -> List Int} {F : Nat -> Value} (h : BelF w base BB n G F) {u : Nat} (hu : u < n) (x : Int) (jG : BB < base) {gg cap : Nat}
 (sA : w1.ownsRow base 3 1 (.slice (some ⟨gg, 0, none⟩) ((G u).length + 1) cap) ((G u).length + 1) ((G u).map (Value.int .i64) ++ [.int .i64 x])) (hg : w.grownBy w1 (F u).ownBlock) (pX : (F u).ownBlock = some gg \/ w.1.size <= gg) :
 BelF (w1.setCell ⟨BB, u, none⟩ (.slice (some ⟨gg, 0, none⟩) ((G u).length + 1) cap)) base BB n (fun i => if i = u then G u ++ [x] else G i) (fun i => if i = u then .slice (some ⟨gg, 0, none⟩) ((G u).length + 1) cap else F i) := by
 have pG : w1.rowIs BB 35 n F := h.row.of_block (hg.block BB h.row.lt (fun e => by
  have := (Zbu (h.own u hu) e.symm).1
  omega))
 have zU : ∀ i, i < n -> i ≠ u -> w1.ownsRow base 3 1 (F i) (G i).length ((G i).map (Value.int .i64)) := fun i hi pO => (h.own i hi).kept hg (by
  cases hb : (F i).ownBlock with
  | none => exact .inl rfl
  | some b =>
   refine .inr (fun e => ?_)
   exact h.apart i hi u hu pO b hb e.symm)
 have wW : ∀ {v : Value} {k : Nat} {zs : List Value}, w1.ownsRow base 3 1 v k zs -> (w1.setCell ⟨BB, u, none⟩ (.slice (some ⟨gg, 0, none⟩) ((G u).length + 1) cap)).ownsRow base 3 1 v k zs := fun {v k zs} ho => ho.kept (Z08 _ _ _) (by
  cases hb : v.ownBlock with
  | none => exact .inl rfl
  | some b =>
   refine .inr (fun e => ?_)
   injection e with e
   have := (ho.lt b hb).1
   have : b = BB := e
   omega)
 refine ⟨pG.set u _, fun i hi => ?_, fun i hi j hj sC b hb => ?_⟩
 ·try dsimp only
  by_cases e : i = u
  ·subst e
   rw [if_pos rfl, if_pos rfl]
   have := wW sA
   rw [ZC, ZD]
   exact this
  ·rw [if_neg e, if_neg e]
   exact wW (zU i hi e)
 ·try dsimp only at hb
  try dsimp only
  by_cases e : i = u
  ·subst e
   rw [if_pos rfl] at hb
   rw [if_neg (fun h => sC h.symm)]
   intro hc
   have tS : gg = b := by injection hb
   subst tS
   rcases pX with h1 | h1
   ·exact h.apart i hi j hj sC gg h1 hc
   ·have := (Zbu (h.own j hj) hc).2
    omega
  ·rw [if_neg e] at hb
   by_cases e2 : j = u
   ·subst e2
    rw [if_pos rfl]
    intro hc
    have tS : gg = b := by injection hc
    subst tS
    rcases pX with h1 | h1
    ·exact h.apart i hi j hj sC gg hb h1
    ·have := (Zbu (h.own i hi) hb).2
     omega
   ·rw [if_neg e2]
    exact h.apart i hi j hj sC b hb
theorem BelF.nil {w : World} {base BB n : Nat} (h : w.rowIs BB 35 n (fun _ => .slice none 0 0)) : BelF w base BB n (fun _ => []) (fun _ => .slice none 0 0) :=
 ⟨h, fun u _ => Kbb _ _ _ _, fun u _ u' _ _ b hb => by cases hb⟩
theorem TreeW.put {w : World} {T BB TB PB base : Nat} {v vg : Value} {Gs : List Grp} {tabs : Nat -> List Int} {m : Nat} {ps : List Int} (h : TreeW w T BB TB PB base v vg Gs tabs m ps) (hm : m < Gs.length) {val : Value} (hv : RowJ w base val (tabs m)) (pD : RdGrps (w.setCell ⟨TB, m, none⟩ val) vg Gs) :
 TreeW (w.setCell ⟨TB, m, none⟩ val) T BB TB PB base v vg Gs tabs (m + 1) ps := by
 obtain ⟨l1, l2, l3, l4, l5⟩ := h.lt
 obtain ⟨n1, n2, n3, n4, n5, n6⟩ := h.ne
 obtain ⟨fB, f1, f2⟩ := h.bl
 obtain ⟨fT, k1, k2⟩ := h.tb
 have hk : ∀ {u : Value} {zs : List Int}, RowJ w base u zs -> RowJ (w.setCell ⟨TB, m, none⟩ val) base u zs := fun {u zs} hr => hr.kept (Z08 _ _ _) (fun g e => .inl (by injection e with e; subst e; exact l3))
 refine ⟨(ZA _ _ _ _ n2).trans h.tr, ⟨fB, f1.setOther n4 _, fun g hg => hk (f2 g hg)⟩, ⟨_, k1.set m val, fun g hg => ?_⟩, h.pv.setOther (fun e => n6 e.symm) _, h.pl, ⟨l1, l2, l3, l4, by simpa [World.setCell] using l5⟩, h.ne, pD⟩
 by_cases e : g = m
 ·subst e
  rw [if_pos rfl]
  exact hk hv
 ·rw [if_neg e]
  exact hk (k2 g (by omega))
theorem TreeW.pass {w w' : World} {T BB TB PB base : Nat} {v vg : Value} {Gs : List Grp} {tabs : Nat -> List Int} {m : Nat} {ps ps' : List Int} (h : TreeW w T BB TB PB base v vg Gs tabs m ps) (hg : w.grownBy w' (some PB)) (hp : IntsAt w' PB ps') (hl : ps'.length = Gs.length) (pD : RdGrps w' vg Gs) :
 TreeW w' T BB TB PB base v vg Gs tabs m ps' := by
 obtain ⟨l1, l2, l3, l4, l5⟩ := h.lt
 obtain ⟨n1, n2, n3, n4, n5, n6⟩ := h.ne
 obtain ⟨fB, f1, f2⟩ := h.bl
 obtain ⟨fT, k1, k2⟩ := h.tb
 have hk : ∀ {u : Value} {zs : List Int}, RowJ w base u zs -> RowJ w' base u zs := fun {u zs} hr => hr.kept hg (fun g e => .inl (by injection e with e; subst e; exact l4))
 exact ⟨(hg.block T (by omega) (fun e => n3 (by injection e))).trans h.tr, ⟨fB, f1.of_block (hg.block BB (by omega) (fun e => n5 (by injection e))), fun g hg => hk (f2 g hg)⟩, ⟨fT, k1.of_block (hg.block TB (by omega) (fun e => n6 (by injection e))), fun g hg => hk (k2 g hg)⟩,
  hp, hl, ⟨l1, l2, l3, l4, Kaw l5 hg.size⟩, h.ne, pD⟩
theorem Z8q {m : Mai} (h : Z2c m = true) : (Z07 m.ps).length <= 2000 /\ ∀ c ∈ Z07 m.ps, Z0G c = true := by
 unfold Z2c at h
 simp only [ZF, Kab] at h
 have hp : ∀ (l : List Pce) (b : Int), Zcw b l = true -> ∀ p ∈ l, Z0G p.code = true := by
  intro l
  induction l with
  | nil => intro b _ p hp; cases hp
  | cons q r ih =>
   intro b hb p hp
   unfold Zcw at hb
   rw [ZF] at hb
   rcases Kbf.1 hp with rfl | hp
   ·have h1 := hb.1
    unfold pcB at h1
    simp only [ZF] at h1
    exact h1.2.1
   ·exact ih _ hb.2 p hp
 refine ⟨by unfold Z07; rw [Z7]; exact h.2.2.1, fun c hc => ?_⟩
 unfold Z07 at hc
 obtain ⟨p, hp', rfl⟩ := Kae.1 hc
 exact hp _ _ h.2.2.2 p hp'
end
end Go.Proofs.YtlgajongmkhcnaaGreatDoor
