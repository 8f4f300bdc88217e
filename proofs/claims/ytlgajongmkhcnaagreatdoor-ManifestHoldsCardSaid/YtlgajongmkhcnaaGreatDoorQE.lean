import Derived.Test.YtlgajongmkhcnaaGreatDoorQZ
import Derived.Test.YtlgajongmkhcnaaGreatDoorQD
import Derived.StillTailTactics
import Derived.Deep.OwnRows
import Derived.Deep.DeepCutAuto
import Derived.Laws.EntriesVeiled
import Derived.Deep.RegionHeld3
import Derived.Test.YtlgajongmkhcnaaGreatDoorQ7
import Derived.Sort.OwnSortedInts
import Derived.Laws.AppendOwnNone
import Derived.Test.YtlgajongmkhcnaaGreatDoorQ8
set_option linter.unusedVariables false
set_option linter.unusedSimpArgs false
set_option maxHeartbeats 32000000
namespace Go.Proofs.YtlgajongmkhcnaaGreatDoor
open Go.RowKit Go.Sort Go.Shelf Go.IntWalk
attribute [local go_sem] Oper.semAt_some
set_option linter.unusedVariables false
set_option maxRecDepth 100000
theorem ZbA {α : Type} {p : List α -> Prop} (h0 : p []) (h1 : ∀ xs x, p xs -> p (xs ++ [x])) : ∀ xs, p xs := by
 intro xs
 rw [<- List.reverse_reverse xs]
 generalize xs.reverse = ys
 induction ys with
 | nil => exact h0
 | cons y ys ih => rw [List.reverse_cons]; exact h1 _ _ ih
def Z9i (F0 : Nat -> Value) {n : Nat} (xs : List (Yld n)) : Nat -> Value := xs.foldl (fun F x j => if j = x.i then x.sl else F j) F0
theorem Z4Z (F0 : Nat -> Value) {n : Nat} (xs : List (Yld n)) (x : Yld n) : Z9i F0 (xs ++ [x]) = fun j => if j = x.i then x.sl else Z9i F0 xs j := by
 unfold Z9i; rw [List.foldl_append]; rfl
theorem ZdY (F0 : Nat -> Value) {n : Nat} (N : Nat) (xs : List (Yld n)) (hn : n <= N) : Z9i F0 xs N = F0 N := by
 induction xs using ZbA with
 | h0 => rfl
 | h1 xs x ih =>
  rw [Z4Z]
  dsimp only
  have := x.hi
  rw [if_neg (by omega)]
  exact ih
theorem ZfY (F0 : Nat -> Value) {n : Nat} (xs : List (Yld n)) : (∀ k (h : k < xs.length), xs[k].i = n - 1 - k) -> xs.length <= n -> ∀ k (h : k < xs.length), Z9i F0 xs (n - 1 - k) = xs[k].sl := by
 induction xs using ZbA with
 | h0 => intro _ _ k h; exact absurd h (Nat.not_lt_zero _)
 | h1 xs x ih =>
  intro hi hl k hk
  rw [Z4Z]
  dsimp only
  have hlen : (xs ++ [x]).length = xs.length + 1 := by simp
  have hx := hi xs.length (by omega)
  rw [List.getElem_append_right (Z1 _)] at hx
  simp only [Nat.sub_self, List.getElem_cons_zero] at hx
  by_cases e : k = xs.length
  ·subst e
   rw [if_pos hx.symm, List.getElem_append_right (Z1 _)]
   simp
  ·have hk' : k < xs.length := by omega
   rw [if_neg (by omega), List.getElem_append_left hk']
   refine ih (fun j hj => ?_) (by omega) k hk'
   have := hi j (by omega)
   rwa [List.getElem_append_left hj] at this
def Z9j (w : World) (n : Nat) : Nat -> Value := fun j => if j = n then .slice (some ⟨w.1.size + 1 + 1, 0, none⟩) 1 1 else .slice none 0 0
structure DivI (w : World) (n : Nat) {m : Nat} (xs : List (Yld m)) (W : World) : Prop where
 row : W.rowIs w.1.size 35 (n + 1) (Z9i (Z9j w n) xs)
 bx : Boxed W (w.1.size + 1) 109 (.slice (some ⟨w.1.size, 0, none⟩) (n + 1) (n + 1))
 one : IntsAt W (w.1.size + 2) [0]
 bl : Below w.1.size w W
theorem DivI.keep {w A B : World} {n m : Nat} {xs : List (Yld m)} {row : Option Nat} (h : DivI w n xs A) (hg : A.grownBy B row) (hr : ∀ r, row = some r -> w.1.size + 3 <= r) : DivI w n xs B := by
 have h1 := h.row.lt
 have h2 := h.bx.lt
 have h3 := h.one.lt
 refine ⟨h.row.of_block (hg.block _ h1 (fun e => by have := hr _ e.symm; omega)), h.bx.kept hg (fun e => by have := hr _ e.symm; omega), ?_, h.bl.trans ((Z9 _ A).grown hg h.bl.size (fun r e => by have := hr r e; omega))⟩
 exact (hg.block _ h3 (fun e => by have := hr _ e.symm; omega)).trans h.one
theorem ZgP {w Wp : World} {n m : Nat} (h : Wp = ((w.alloc (.cells ((madeCells #[.slice none 0 0] (n + 1)).setIfInBounds n (.slice (some ⟨w.1.size + 1 + 1, 0, none⟩) 1 1)) 35)).alloc (.cells #[.slice (some ⟨w.1.size, 0, none⟩) (n + 1) (n + 1)] 109)).alloc (.cells #[.int .i64 0] 3)) :
 DivI w n ([] : List (Yld m)) Wp /\ Wp.1.size = w.1.size + 3 := by
 subst h
 refine ⟨⟨?_, ?_, ?_, ?_⟩, by simp⟩
 ·refine World.rowIs.alloc (World.rowIs.alloc ?_ _) _
  refine ⟨_, Z01 w _, by simp [madeCells], fun i hi => ?_⟩
  show _ = some (Z9j w n i)
  unfold Z9j
  rw [Array.getElem?_setIfInBounds]
  by_cases e : i = n
  ·subst e
   simp [madeCells]
  ·rw [if_neg (fun h => e h.symm), if_neg e]
   simp [madeCells, hi, Nat.mod_one]
 ·have := Boxed.new (w.alloc (.cells ((madeCells #[.slice none 0 0] (n + 1)).setIfInBounds n (.slice (some ⟨w.1.size + 1 + 1, 0, none⟩) 1 1)) 35)) 109 (.slice (some ⟨w.1.size, 0, none⟩) (n + 1) (n + 1))
  rw [show (w.alloc (.cells ((madeCells #[.slice none 0 0] (n + 1)).setIfInBounds n (.slice (some ⟨w.1.size + 1 + 1, 0, none⟩) 1 1)) 35)).1.size = w.1.size + 1 by simp] at this
  exact this.alloc _
 ·have := Z01 ((w.alloc (.cells ((madeCells #[.slice none 0 0] (n + 1)).setIfInBounds n (.slice (some ⟨w.1.size + 1 + 1, 0, none⟩) 1 1)) 35)).alloc (.cells #[.slice (some ⟨w.1.size, 0, none⟩) (n + 1) (n + 1)] 109)) (.cells #[.int .i64 0] 3)
  simp only [Z6] at this
  exact this
 ·exact (((Z9 _ w).alloc (Z1 _) _).alloc (by simp) _).alloc (by simp; omega) _
theorem KC.setAt {Lb : Nat} {A : World} {c : Array Value} {fr : Nat × Nat} {a : Addr} (h : A.1[Lb]? = some (.cells c 35 fr)) (ha : a.block = Lb) (u : Value) : KC Lb A (A.setCell a u) := by
 refine ⟨by simp [World.setCell], fun k c' t fr' hk hh => ?_⟩
 by_cases e : k = Lb
 ·subst e
  rw [h] at hh
  injection hh with hh
  injection hh with _ hh _
  subst hh
  simp at hk
 ·exact (ZA A a u k (by omega)).trans hh
theorem DivI.put {w A : World} {n m : Nat} {xs : List (Yld m)} (h : DivI w n xs A) (x : Yld m) : DivI w n (xs ++ [x]) (A.setCell ⟨w.1.size, x.i, none⟩ x.sl) := by
 refine ⟨?_, ?_, ?_, h.bl.setCell (p := ⟨w.1.size, x.i, none⟩) (Z1 _) _⟩
 ·rw [Z4Z]
  exact h.row.set x.i x.sl
 ·exact (ZA A _ _ _ (by show w.1.size + 1 ≠ w.1.size; omega)).trans h.bx
 ·exact h.one.setOther (by show w.1.size + 2 ≠ w.1.size; omega) _
def Zju (Q : Exit -> Act -> World -> Prop) : Exit -> Act -> World -> Prop := fun e a w => match e with
 | .panic _ => False
 | e => Q e a w
theorem Zgo {Q : Exit -> Act -> World -> Prop} : ∀ e a w, Zju Q e a w -> Q e a w := fun e a w h => by
 cases e with
 | panic c => exact h.elim
 | _ => exact h
theorem Zfv {W w6 : World} {t : TypeId} {v : Value} (h : Below (W.drew.alloc (.cells #[v] t)).1.size (W.drew.alloc (.cells #[v] t)) w6) : Boxed w6 W.1.size t v :=
 (h.block W.1.size (by rw [Z6]; exact Nat.lt_succ_self _)).trans (Boxed.new W.drew t v)
theorem Z3X {w a b : World} {P : Nat} {row : Option Nat} (h : w.grownBy a (some P)) (k : a.grownBy b row) (hr : ∀ r, row = some r -> r = P \/ w.1.size <= r) : w.grownBy b (some P) :=
 ⟨k.os.trans h.os, k.tape.trans h.tape, k.output.trans h.output, Nat.le_trans h.size k.size, fun i hi hne => (k.block i (ZH hi h.size) (fun e => by
  rcases hr i e.symm with h1 | h1
  ·exact hne (by rw [h1])
  ·omega)).trans (h.block i hi hne)⟩
theorem Z3Y {w a : World} (P : Nat) (h : Below w.1.size w a) : w.grownBy a (some P) := ⟨h.os, h.tape, h.output, h.size, fun k hk _ => h.block k hk⟩
theorem Z07 (a : World) (p : Addr) (u : Value) : a.grownBy (a.setCell p u) (some p.block) := ⟨rfl, rfl, rfl, by simp [World.setCell], fun k hk hne => ZA _ _ _ _ (fun e => hne (by rw [e]))⟩
theorem Zi6 (a : World) : a.grownBy a.drew none := ⟨rfl, rfl, rfl, Z1 _, fun _ _ _ => rfl⟩
theorem Z88 {mn cents P most : Int} {ts : List (List Int)} (hM : MOk ts) : ∀ k, k <= ts.length -> (Z1d mn cents P most ts k).1 + (Z05 ts (ts.length - k)).length <= (Z05 ts ts.length).length
 | 0, _ => by show 0 + _ <= _; rw [Nat.zero_add]; exact Z1 _
 | k + 1, hk => by
  have ih := Z88 hM (mn := mn) (cents := cents) (P := P) (most := most) k (by omega)
  have h1 := Z8T (mn := mn) (cents := cents) (P := P) (most := most) hM (show k < ts.length by omega)
  have e : Z05 ts (ts.length - k) = Z2I (Z0A ts k) (Z05 ts (ts.length - (k + 1))) := by
   rw [show ts.length - k = (ts.length - (k + 1)) + 1 by omega]
   show Z2I (ts.getD (ts.length - 1 - (ts.length - (k + 1))) []) _ = _
   rw [show ts.length - 1 - (ts.length - (k + 1)) = k by omega]; rfl
  have hl : (Z05 ts (ts.length - k)).length = (Z0A ts k).length + (Z05 ts (ts.length - (k + 1))).length - 1 := by rw [e]; exact Z5a _ _ _
  have h2 := (hM.all (ts.length - (k + 1)) (by omega)).1
  rw [Z4G]
  dsimp only
  omega
theorem Zdh (T BB TB PB base : Nat) (v vg : Value) (Gs : List Grp) (tabs : Nat -> List Int) (f : Nat -> Int) (g : Nat) (ls : List Lev) (lv : Nat) (w : World)
 (h : TreeW w T BB TB PB base v vg Gs tabs Gs.length (Z7z f Gs.length)) (hg : g < Gs.length) (hn : Gs.length <= 100000)
 (hr : RdLevs w v ls) (hlv : lv < ls.length) (hle : Gs[g].lvl = (lv : Int)) (hl6 : ls.length <= 1000) (hcents : 0 <= ls[lv].cents /\ ls[lv].cents <= 1000000)
 (hM : MOk ((Z04 (Z0m Gs) g).map tabs)) (hf : 0 <= f g /\ f g < ((tabs g).length : Int)) (ht : (tabs g).length <= 5000) :
 Calls Tryz.prog 64 #[.pointer (some ⟨T, 0, none⟩), .int .i64 g] w fun e w' => (∃ r, e = .returned r) /\ w.grownBy w' (some PB) /\
  IntsAt w' PB (Z7z (ZfG (Z04 (Z0m Gs) g) (Zbb ls[lv].min ls[lv].cents (f g) ((tabs g).getD (f g).toNat (-1)) ((Z04 (Z0m Gs) g).map tabs)) f (Z04 (Z0m Gs) g).length) Gs.length) := by
 obtain ⟨l1, l2, l3, l4, l5⟩ := h.lt
 obtain ⟨n1, n2, n3, n4, n5, n6⟩ := h.ne
 obtain ⟨c0, c1, c2, c3, c4⟩ := h.tr.c
 have HTW := Z0 h
 have hgr := h.gr
 obtain ⟨ag, cg, rfl, hgr⟩ := hgr
 obtain ⟨gg, og, rfl, hgg, hcg⟩ := hgr (by omega)
 obtain ⟨gsv, hgsv, g0, g1, g2, g3⟩ := hcg g hg
 rw [hle] at g0
 obtain ⟨al, cl, rfl, hlr⟩ := hr
 obtain ⟨gl, ol, rfl, hgl, hcl⟩ := hlr (by omega)
 obtain ⟨lsv, hlsv, hat⟩ := hcl lv hlv
 obtain ⟨al', cl', rfl, _⟩ := hlsv
 obtain ⟨l, hl⟩ : ∃ l, l = ls[lv] := ⟨_, rfl⟩
 rw [<- hl] at hat hcents ⊢
 obtain ⟨fB, f1, f2⟩ := h.bl
 have hrow := f2 g hg
 have cb := f1.cell hg
 have hsub : ∀ x ∈ Z04 (Z0m Gs) g, x < Gs.length := fun x hx => by have := (Z2E.1 hx).1; rwa [Z1M] at this
 have hnd := Z1J (Z0m Gs) g
 obtain ⟨subs, hS⟩ : ∃ s, s = Z04 (Z0m Gs) g := ⟨_, rfl⟩
 have HP := Z0 (fun W (hW : Below w.1.size w W) => Z9q T BB TB PB base _ _ Gs tabs Gs.length (Z7z f Gs.length) g W (h.below hW) hg hn hsub (Z1 _))
 rw [<- hS] at hrow hsub hnd hM HP ⊢
 clear hS h
 obtain ⟨aB, capB, hfb⟩ := hrow.len
 rw [hfb] at cb
 rw [Z7] at cb hfb
 have hsl := hM.n
 rw [Z7] at hsl
 have hmk := fun W => run_make_row' (P := Tryz.prog) 109 35 (.slice none 0 0) 24 Tryz.underlying109 Tryz.infoSl rfl .i64 .i64 (subs.length + 1) (by omega) (by omega) W
 simp only [Int.natCast_add, Int.natCast_one] at hmk
 obtain ⟨p, hp⟩ : ∃ p : Nat, f g = (p : Int) := ⟨_, (Int.toNat_of_nonneg hf.1).symm⟩
 rw [hp, Int.toNat_natCast]
 have HP0 := Z0 hp
 clear hp
 have hmc : (madeCells #[Value.slice none 0 0] (subs.length + 1))[subs.length]? = some (Value.slice none 0 0) := by simp [madeCells, Nat.mod_one]
 refine (callsIn_wide (n := 0)).1 ?_
 refine callsIn_of_wp_marks Tryz.func64 rfl trivial ?_ rfl
 simp only [Tryz.ntmps64, List.size_toArray, List.length_cons, List.length_nil, Nat.reduceAdd, Nat.reduceSub, Array.replicate_succ, Array.replicate_zero, List.push_toArray, List.append_toArray, List.nil_append, List.cons_append]
 gi_wp2_with (first
  | (refine ⟨trivial, rfl, ?_⟩; gi_at_call 103; refine (callsIn_wide.2 (HP.out _ (((((Z9 _ w).alloc (Z1 _) _).alloc (by simp) _).alloc (by simp; omega) _)))).mono ?_; rintro e w1 ⟨ap, cp, rfl, hb1, hr1, hn1⟩)
  | (refine ⟨trivial, rfl, ?_⟩; gi_at_call 102; refine (callsIn_wide.2 (Z7P _ _ _ _)).mono ?_; rintro e w2 ⟨rfl, rfl⟩))
 rename_i K0 hK0
 clear c0 c1 c2 c3 c4 cb g1 g2 g3 hmk hmc f1 f2 HP hgr hcg hlr hcl
 obtain ⟨Wp, hWp⟩ : ∃ Wp, Wp = ((w.alloc (.cells ((madeCells #[.slice none 0 0] (subs.length + 1)).setIfInBounds subs.length (.slice (some ⟨w.1.size + 1 + 1, 0, none⟩) 1 1)) 35)).alloc (.cells #[.slice (some ⟨w.1.size, 0, none⟩) (subs.length + 1) (subs.length + 1)] 109)).alloc (.cells #[.int .i64 0] 3) := ⟨_, rfl⟩
 rw [<- hWp] at hb1 hn1
 have hI := ZgP (m := (subs.map tabs).length) hWp
 clear hWp
 obtain ⟨hI, hWz⟩ := hI
 have hB1 : Below w.1.size w w1 := Z00 hI.bl hI.bl.size hb1
 have hsz := hb1.size
 have hI1 := hI.keep (Z0a hb1) (fun r e => by cases e)
 obtain ⟨W0, hW0⟩ : ∃ W0 : World, W0 = w1.alloc (.cells #[.slice ap subs.length cp] 109) := ⟨_, rfl⟩
 have hbx : Boxed W0 w1.1.size 109 (.slice ap subs.length cp) := by rw [hW0]; exact Boxed.new _ _ _
 have hWb : Below w1.1.size w1 W0 := by rw [hW0]; exact (Z9 _ w1).alloc (Z1 _) _
 have hW0z : W0.1.size = w1.1.size + 1 := by rw [hW0]; simp
 have hI0 : DivI w subs.length ([] : List (Yld (subs.map tabs).length)) W0 := hI1.keep (Z0a hWb) (fun r e => by cases e)
 have htl : (subs.map tabs).length = subs.length := Z7 _
 have hR0 : RdRowsX w.1.size W0 base (.slice ap subs.length cp) (subs.map tabs) := ⟨by have := hr1.below hWb; exact this, fun b off n c h0 e => by
  injection e with e _ _
  have := hn1 b off e
  omega⟩
 rw [<- hW0]
 clear hW0 hWb hr1 hn1 hb1 hI hI1 hB1
 generalize w1.1.size = B at hbx hW0z hsz ⊢
 have hMM := hM
 refine Z2j (gf := 132) (lb := #[.pointer (some ⟨B, 0, none⟩)]) rfl Tryz.call132 (Bs := B) (by omega) (Z5t B base w.1.size _ (subs.map tabs) W0 hM hbx hR0 (by omega) (by omega)) (MergS.own _ _ _)
  (fun h k => h.trans k) (fun W l o o' hl hW hc => KC.put hW hc) (fun _ => rfl)
  (DivI w subs.length) (fun _ _ _ => False)
  (fun s A B' row h hg hr => h.keep hg (fun r e => by obtain ⟨h1, _⟩ := hr r e; omega))
  (fun c s A B' row h _ _ => h)
  (fun s A B' row h hg hr => h.keep hg (fun r e => by have := hr r e; omega))
  (fun c s A B' row h _ _ => h)
  hI0
  (fun x a' W => a' = { tmps := #[.pointer (some ⟨T, 0, none⟩), .int .i64 g, undef, undef, .slice aB subs.length capB, .pointer (some ⟨w.1.size + 1, 0, none⟩), .int .i64 x.i, x.sl, undef, undef, undef, undef, undef, undef, undef, undef, undef, .pointer (some ⟨T, 0, none⟩), .pointer (some ⟨T, 0, none⟩), .pointer (some ⟨T, 2, none⟩), .slice (some ⟨BB, 0, none⟩) Gs.length Gs.length, .int .i64 g, .pointer (some ⟨BB, g, none⟩), .slice aB subs.length capB, .slice aB subs.length capB, .int .i64 subs.length, .int .i64 (subs.length + 1), .slice (some ⟨w.1.size, 0, none⟩) (subs.length + 1) (subs.length + 1), .slice (some ⟨w.1.size, 0, none⟩) (subs.length + 1) (subs.length + 1), .slice aB subs.length capB, .int .i64 subs.length, .slice (some ⟨w.1.size + 1 + 1, 0, none⟩) 1 1, .pointer (some ⟨w.1.size, subs.length, none⟩), .pointer (some ⟨T, 0, none⟩), .int .i64 g, .slice ap subs.length cp, .func (.func 132) #[] #[.pointer (some ⟨B, 0, none⟩)], .int .i64 x.i, x.sl, undef, undef, undef, undef, undef, undef, undef, undef, undef, undef, undef, undef, undef, undef, undef, undef, undef, undef, undef, undef, undef, undef, undef, undef, undef, undef, undef, undef, undef, undef, undef, undef, undef, undef, undef, undef, undef, undef, undef, undef, undef, undef, undef, undef, undef, undef, undef, undef, undef, undef, undef, undef, undef, undef, undef, undef, undef, undef, undef, undef, undef, undef, undef, undef, undef, undef, undef, undef, undef, undef, undef, undef, undef, undef, undef, undef, undef, undef, undef, undef, undef, undef], defers := [] })
  (fun x a' s A B' row h _ _ => h) ?assign ?body ?done ?stop
 case assign =>
  intro l pre x W K hi hK
  gi_wp2
  exact hK _ _ (KeepsFrom.refl _ _) (KC.refl _ _) hi rfl
 case body =>
  rintro l pre x a' W hI rfl
  have c1 := hI.bx.cell
  have c2 := hI.row.frozen x.i
  have c3 := hI.row.cell (i := x.i) (by have := x.hi; omega)
  have hxi : x.i < subs.length := by have := x.hi; omega
  obtain ⟨cur, hcur, _, _⟩ := hI.row
  have hkc := KC.setAt (a := ⟨w.1.size, x.i, none⟩) hcur rfl x.sl
  have hput := hI.put x
  obtain ⟨xi, xhi, xa, xl, xc⟩ := x
  dsimp only [Yld.sl] at *
  gi_wp2_with fail
  exact ⟨(KeepsOthers.setCell _ _ _).from _, hkc, hput⟩
 case done =>
  rintro D xs W hD ⟨hS1, hS2⟩ hI hK
  have hTW := HTW.out.below hI.bl
  have hRest : ∀ j, j <= subs.length -> RowJ W base (Z9i (Z9j w subs.length) xs j) (Z05 (subs.map tabs) (subs.length - j)) := fun j hj => by
   by_cases e : j = subs.length
   ·rw [e, ZdY _ _ _ (by omega), Nat.sub_self]
    have : Z9j w subs.length subs.length = .slice (some ⟨w.1.size + 1 + 1, 0, none⟩) 1 1 := by unfold Z9j; rw [if_pos rfl]
    rw [this]
    exact RowJ.of_ints hI.one (by omega) 1
   ·have h1 := ZfY (Z9j w subs.length) xs (fun k h => (hS2 k h).1) (by omega) (subs.length - 1 - j) (by omega)
    rw [show (subs.map tabs).length - 1 - (subs.length - 1 - j) = j by omega] at h1
    have h2 := (hS2 (subs.length - 1 - j) (by omega)).2
    rw [show subs.length - 1 - j + 1 = subs.length - j by omega] at h2
    rw [h1]
    exact h2
  have HRest := Z0 hRest
  clear hRest hS1 hS2
  show K0 _ W
  refine hK0 _ _ (wpIn_wide.2 (wp_mono ?_ Zgo))
  clear hK0
  have hp := HP0.out
  obtain ⟨l1, l2, l3, l4, l5⟩ := hTW.lt
  obtain ⟨c0, c1, c2, c3, c4⟩ := hTW.tr.c
  obtain ⟨fT, k1, k2⟩ := hTW.tb
  have hpv := hTW.pv
  have c5 := hpv.cell (i := g) (by rw [Z4e]; exact hg)
  rw [ZbH hg, hp] at c5
  have hgT := k2 g hg
  have ct := k1.cell hg
  rw [hp] at hf
  obtain ⟨agT, cgT, hgv, hgc⟩ := hgT
  obtain ⟨bgT, ogT, cugT, rfl, hbT, hhT, hccT⟩ := hgc (by omega)
  have hpl : p < (tabs g).length := by omega
  have ct2 : W.cell? ⟨bgT, ogT + p, none⟩ = some (.int .i64 ((tabs g).getD p (-1))) := by
   rw [cell_of_row W bgT (ogT + p) _ _ _ hhT, hccT p hpl, Z2, Z3 hpl]; rfl
  have hbTl : bgT < W.1.size := (Z5.1 hhT).1
  rw [hgv] at ct
  have g0' : W.cell? ⟨gg, og + g * 4, none⟩ = some (.int .i64 lv) := (hI.bl.cell (p := ⟨gg, og + g * 4, none⟩) hgg).trans g0
  obtain ⟨y0, y1, y2, y3, y4⟩ := hat.below hI.bl hgl
  obtain ⟨most, hmo⟩ : ∃ z, z = (tabs g).getD p (-1) := ⟨_, rfl⟩
  rw [<- hmo] at ct2
  have HMO := Z0 hmo
  obtain ⟨n2, hn2⟩ : ∃ n, n = l.labs.length := ⟨_, rfl⟩
  rw [<- hn2] at y2
  have HSV : Hid (∀ (p : Int) (W : World), Calls Tryz.prog 101 #[.agg #[.string l.name, .int .i64 l.pre, .slice al' n2 cl', .int .i64 l.min, .int .i64 l.cents], .int .i64 p] W fun e w' => e = .returned (.func (.func 131) #[] #[.pointer (some ⟨W.1.size + 1, 0, none⟩), .pointer (some ⟨W.1.size, 0, none⟩)]) /\
   Below W.1.size W w' /\ SavAt w' (W.1.size + 1) W.1.size p l.min l.cents /\ w'.1.size = W.1.size + 2) := fun p W => by
   refine (Z9d l (.slice al' n2 cl') p W).mono ?_
   rintro e w' ⟨rfl, rfl⟩
   exact ⟨rfl, ((Z9 _ W).alloc (Z1 _) _).alloc (by simp) _, SavAt.new _ _ _ _, by simp⟩
  have HPV := Z0 hpv
  have HK2 := Z0 k2
  have HTT := Z0 hTW
  have HROW := Z0 hrow
  have HFB := Z0 hfb
  have HP := Z0 hp
  have HTL := Z0 htl
  have HLE := Z0 hle
  have HI := Z0 hI
  have hlvl : (lv : Int) < ls.length := by omega
  clear hmo hn2 hl hpv k2 hTW hrow hfb hp htl hle hI hgc hgv hccT hat g0
  dsimp only
  go_upto_region 7 with fail
  go_cut [8] from 43 to 64 (fun t wx => ∃ SB X Y, t = .pointer (some ⟨SB, 0, none⟩) /\ Below W.1.size W wx /\ W.1.size <= SB /\ W.1.size <= X /\ W.1.size <= Y /\ SB < wx.1.size /\ X < wx.1.size /\ Y < wx.1.size /\ wx.cell? ⟨SB, 0, none⟩ = some (.func (.func 131) #[] #[.pointer (some ⟨X, 0, none⟩), .pointer (some ⟨Y, 0, none⟩)]) /\ SavAt wx X Y p l.min l.cents)
  case first =>
   have hba : Below W.1.size W (W.drew.alloc (.cells #[.nilFunc] 91)) := (Z9 _ W).drew.alloc (Z1 _) _
   have hTl : T < W.1.size := by omega
   have hPl : PB < W.1.size := by omega
   have hgl3 : gl < W.1.size := ZH hgl HI.out.bl.size
   have hgg3 : gg < W.1.size := ZH hgg HI.out.bl.size
   have hk : ∀ w', Below W.1.size W w' -> w'.cell? ⟨T, 0, none⟩ = some (.slice (some ⟨gl, ol, none⟩) ls.length cl) /\ w'.cell? ⟨T, 1, none⟩ = some (.slice (some ⟨gg, og, none⟩) Gs.length cg) /\ w'.cell? ⟨T, 4, none⟩ = some (.slice (some ⟨PB, 0, none⟩) Gs.length Gs.length) /\
    w'.cell? ⟨PB, g, none⟩ = some (.int .i64 p) /\ w'.cell? ⟨gg, og + g * 4, none⟩ = some (.int .i64 lv) /\ w'.cell? ⟨gl, ol + lv * 5, none⟩ = some (.string l.name) /\ w'.cell? ⟨gl, ol + lv * 5 + 1, none⟩ = some (.int .i64 l.pre) /\ w'.cell? ⟨gl, ol + lv * 5 + 2, none⟩ = some (.slice al' n2 cl') /\
    w'.cell? ⟨gl, ol + lv * 5 + 3, none⟩ = some (.int .i64 l.min) /\ w'.cell? ⟨gl, ol + lv * 5 + 4, none⟩ = some (.int .i64 l.cents) := fun w' hw =>
    ⟨(hw.cell (p := ⟨T, 0, none⟩) hTl).trans c0, (hw.cell (p := ⟨T, 1, none⟩) hTl).trans c1, (hw.cell (p := ⟨T, 4, none⟩) hTl).trans c4, (hw.cell (p := ⟨PB, g, none⟩) hPl).trans c5, (hw.cell (p := ⟨gg, og + g * 4, none⟩) hgg3).trans g0',
     (hw.cell (p := ⟨gl, ol + lv * 5, none⟩) hgl3).trans y0, (hw.cell (p := ⟨gl, ol + lv * 5 + 1, none⟩) hgl3).trans y1, (hw.cell (p := ⟨gl, ol + lv * 5 + 2, none⟩) hgl3).trans y2, (hw.cell (p := ⟨gl, ol + lv * 5 + 3, none⟩) hgl3).trans y3, (hw.cell (p := ⟨gl, ol + lv * 5 + 4, none⟩) hgl3).trans y4⟩
   have HK := Z0 hk
   clear hk
   go_region_held3 (fun w' => w'.cell? ⟨T, 0, none⟩ = some (.slice (some ⟨gl, ol, none⟩) ls.length cl) /\ w'.cell? ⟨T, 1, none⟩ = some (.slice (some ⟨gg, og, none⟩) Gs.length cg) /\ w'.cell? ⟨T, 4, none⟩ = some (.slice (some ⟨PB, 0, none⟩) Gs.length Gs.length) /\
    w'.cell? ⟨PB, g, none⟩ = some (.int .i64 p) /\ w'.cell? ⟨gg, og + g * 4, none⟩ = some (.int .i64 lv) /\ w'.cell? ⟨gl, ol + lv * 5, none⟩ = some (.string l.name) /\ w'.cell? ⟨gl, ol + lv * 5 + 1, none⟩ = some (.int .i64 l.pre) /\ w'.cell? ⟨gl, ol + lv * 5 + 2, none⟩ = some (.slice al' n2 cl') /\
    w'.cell? ⟨gl, ol + lv * 5 + 3, none⟩ = some (.int .i64 l.min) /\ w'.cell? ⟨gl, ol + lv * 5 + 4, none⟩ = some (.int .i64 l.cents))
    (first
     | exact HK.out _ (Z9 _ W).drew
     | exact HK.out _ hba
     | exact HK.out _ hB6
     | exact HK.out _ (hB6.alloc hB6.size _)
     | exact HK.out _ (hB6.setCell (p := ⟨W.1.size, 0, none⟩) (Z1 _) _)
     | exact HK.out _ ((hB6.alloc hB6.size _).setCell (p := ⟨w6.1.size, 0, none⟩) hB6.size _))
    (first
     | (go_at_call 101; refine (HSV.out _ _).mono ?_; rintro e w6 ⟨rfl, hb5, hs5, hz5⟩; have HZ5 := Z0 hz5; clear hz5; (have hB6 : Below W.1.size W w6 := by (first | exact (Z9 _ W).drew.trans (hb5.mono (Z1 _)) | exact hba.trans (hb5.mono (by simp)))); (try (have e6 := Zfv hb5; have c6 := Boxed.cell e6; have f6 := Boxed.frozen e6; have E6 := Z0 e6; clear e6))))
   all_goals go_wp2_with fail
   ·go_meet
    have hz := HZ5.out
    have hz2 : W.drew.1.size = W.1.size := rfl
    have hbz : Below w6.1.size w6 (w6.alloc (.cells #[.func (.func 131) #[] #[.pointer (some ⟨W.1.size + 1, 0, none⟩), .pointer (some ⟨W.1.size, 0, none⟩)]] 91)) := (Z9 _ w6).alloc (Z1 _) _
    exact ⟨w6.1.size, W.1.size + 1, W.1.size, rfl, hB6.alloc hB6.size _, hB6.size, Nat.le_succ _, Z1 _, by simp, by simp; omega, by simp; omega, (Boxed.new w6 _ _).cell, SavAt.below hs5 hbz (by show W.1.size + 1 < _; omega) (by show W.1.size < _; omega)⟩
   ·go_meet
    have hz := HZ5.out
    have hz2 : (W.alloc (.cells #[.nilFunc] 91)).drew.1.size = W.1.size + 1 := Z6 _ _
    rw [hz2] at hz hs5
    exact ⟨W.1.size, W.1.size + 1 + 1, W.1.size + 1, rfl, hB6.setCell (p := ⟨W.1.size, 0, none⟩) (Z1 _) _, Z1 _, by omega, by omega, by simp [World.setCell]; omega, by simp [World.setCell]; omega, by simp [World.setCell]; omega, (Boxed.set _ E6.out).cell, SavAt.set hs5 (by show W.1.size + 1 + 1 ≠ W.1.size; omega) (by show W.1.size + 1 ≠ W.1.size; omega) _⟩
  case rest =>
   obtain ⟨W1, hW1⟩ : ∃ W1, W1 = wc := ⟨_, rfl⟩
   subst hW1
   obtain ⟨SB, X, Y, rfl, hBc, hs1, hs2, hs3, hs4, hs5, hs6, hsc, hsv⟩ := hcut
   have hTl : T < W.1.size := by omega
   have hPl : PB < W.1.size := by omega
   have hTBl : TB < W.1.size := by omega
   have b3 := (hBc.cell (p := ⟨T, 3, none⟩) hTl).trans c3
   have b4 := (hBc.cell (p := ⟨T, 4, none⟩) hTl).trans c4
   have b5 := (hBc.cell (p := ⟨PB, g, none⟩) hPl).trans c5
   have bt := (hBc.cell (p := ⟨TB, g, none⟩) hTBl).trans ct
   have bt2 := (hBc.cell (p := ⟨bgT, ogT + p, none⟩) hbTl).trans ct2
   have HSCV := Z0 (And.intro hsc hsv)
   have HCC := Z0 (And.intro c0 (And.intro c1 (And.intro c3 c4)))
   clear hsc hsv c0 c1 c2 c3 c4 c5 ct ct2 g0' y0 y1 y2 y3 y4
   go_upto_region 8 with fail
   go_cut [9] from 65 to 80 (fun t wx => ∃ MB, t = .pointer (some ⟨MB, 0, none⟩) /\ Below W1.1.size W1 wx /\ W1.1.size <= MB /\ MB < wx.1.size /\ wx.cell? ⟨MB, 0, none⟩ = some (.int .i64 most))
   case first =>
    have hk : ∀ w', Below W1.1.size W1 w' -> w'.cell? ⟨T, 3, none⟩ = some (.slice (some ⟨TB, 0, none⟩) Gs.length Gs.length) /\ w'.cell? ⟨T, 4, none⟩ = some (.slice (some ⟨PB, 0, none⟩) Gs.length Gs.length) /\
     w'.cell? ⟨PB, g, none⟩ = some (.int .i64 p) /\ w'.cell? ⟨TB, g, none⟩ = some (.slice (some ⟨bgT, ogT, none⟩) (tabs g).length cgT) /\ w'.cell? ⟨bgT, ogT + p, none⟩ = some (.int .i64 most) := fun w' hw =>
     ⟨(hw.cell (p := ⟨T, 3, none⟩) (by have := hBc.size; show T < _; omega)).trans b3, (hw.cell (p := ⟨T, 4, none⟩) (by have := hBc.size; show T < _; omega)).trans b4, (hw.cell (p := ⟨PB, g, none⟩) (by have := hBc.size; show PB < _; omega)).trans b5,
      (hw.cell (p := ⟨TB, g, none⟩) (by have := hBc.size; show TB < _; omega)).trans bt, (hw.cell (p := ⟨bgT, ogT + p, none⟩) (by have := hBc.size; show bgT < _; omega)).trans bt2⟩
    have HK := Z0 hk
    clear hk
    go_region_held3 (fun w' => w'.cell? ⟨T, 3, none⟩ = some (.slice (some ⟨TB, 0, none⟩) Gs.length Gs.length) /\ w'.cell? ⟨T, 4, none⟩ = some (.slice (some ⟨PB, 0, none⟩) Gs.length Gs.length) /\
     w'.cell? ⟨PB, g, none⟩ = some (.int .i64 p) /\ w'.cell? ⟨TB, g, none⟩ = some (.slice (some ⟨bgT, ogT, none⟩) (tabs g).length cgT) /\ w'.cell? ⟨bgT, ogT + p, none⟩ = some (.int .i64 most))
     (first
      | exact HK.out _ (Z9 _ W1).drew
      | exact HK.out _ ((Z9 _ W1).alloc (Z1 _) _).drew
      | exact HK.out _ ((Z9 _ W1).drew.alloc (Z1 _) _))
     (fail)
    all_goals go_wp2_with fail
    go_meet
    exact ⟨W1.1.size, rfl, ((Z9 _ W1).alloc (Z1 _) _).drew, Z1 _, by simp, (Boxed.new W1 _ _).cell⟩
   case rest =>
    obtain ⟨MB, rfl, hBd, hm1, hm2, hmc⟩ := hcut
    obtain ⟨W2, hW2⟩ : ∃ W2, W2 = wc := ⟨_, rfl⟩
    subst hW2
    have hB2 : Below W.1.size W W2 := hBc.trans (hBd.mono hBc.size)
    have hBw : Below w.1.size w W2 := Z00 HI.out.bl HI.out.bl.size hB2
    have hI2 := HI.out.keep (Z0a hB2) (fun r e => by cases e)
    have hIb := HI.out.bl.size
    have hB2s := hB2.size
    have hBcs := hBc.size
    have hBds := hBd.size
    have sc2 := (hBd.cell (p := ⟨SB, 0, none⟩) hs4).trans HSCV.out.1
    have sv2 := HSCV.out.2.below hBd hs5 hs6
    have t3 := (hB2.cell (p := ⟨T, 3, none⟩) hTl).trans HCC.out.2.2.1
    have t4 := (hB2.cell (p := ⟨T, 4, none⟩) hTl).trans HCC.out.2.2.2
    have hpv2 : IntsAt W2 PB (Z7z f Gs.length) := HPV.out.below hB2 hPl
    have hD2 : W2.1[D]? = some (.deferred (some [])) := (hB2.block D (Z5.1 hK).1).trans hK
    have hrow2 := HROW.out.below hBw
    have hk2 : ∀ g, g < Gs.length -> RowJ W2 base (fT g) (tabs g) := fun g hg => (HK2.out g hg).below hB2
    have hr2 : ∀ j, j <= subs.length -> RowJ W2 base (Z9i (Z9j w subs.length) xs j) (Z05 (subs.map tabs) (subs.length - j)) := fun j hj => (HRest.out j hj).below hB2
    have kt : ∀ s, s < Gs.length -> W2.cell? ⟨TB, s, none⟩ = some (fT s) := fun s hs => (hB2.cell (p := ⟨TB, s, none⟩) hTBl).trans (k1.cell hs)
    have H1 := Z0 sc2
    have H2 := Z0 sv2
    have H3 := Z0 (And.intro t3 t4)
    have H4 := Z0 hpv2
    have H5 := Z0 hrow2
    have H6 := Z0 hk2
    have H7 := Z0 hr2
    have H8 := Z0 kt
    have H9 := Z0 hmc
    have H10 := Z0 hI2
    have H11 := Z0 hD2
    have hM' := hM
    have HRG := Z0 (fun k hk => Za0 (mn := l.min) (cents := l.cents) (P := (p : Int)) (most := most) hM' k hk)
    have HCB := Z0 (fun k hk => Z88 (mn := l.min) (cents := l.cents) (P := (p : Int)) (most := most) hM' k hk)
    have HDS := Z0 (fun k => Z4G l.min l.cents (p : Int) most (subs.map tabs) k)
    have HML := Z0 ((hM.all (subs.map tabs).length (Z1 _)).2.1)
    have HM := Z0 hM
    clear sc2 sv2 t3 t4 hpv2 hrow2 hk2 hr2 kt hmc hI2 hD2 b3 b4 b5 bt bt2 hK hM hM' k1
    go_wp2_with fail
    go_loopw [83] (fun i wr => ∃ k : Nat, k <= subs.length /\ i = .int .i64 k /\ W2.grownBy wr (some PB) /\ IntsAt wr PB (Z7z (ZfG subs (Zbb l.min l.cents p most (subs.map tabs)) f k) Gs.length) /\
     Boxed wr W2.1.size 3 (.int .i64 ((Z1d l.min l.cents p most (subs.map tabs) k).1 : Nat)) /\ Boxed wr (W2.1.size + 1) 3 (.int .i64 (Z1d l.min l.cents p most (subs.map tabs) k).2.1)) (fun i _ => subs.length - (intOf i).toNat)
    case atStart =>
     have hPl2 : PB < W2.1.size := by omega
     have hb0 : Below W2.1.size W2 (W2.alloc (.cells #[.int .i64 0] 3)) := (Z9 _ W2).alloc (Z1 _) _
     have hba : Below W2.1.size W2 ((W2.alloc (.cells #[.int .i64 0] 3)).alloc (.cells #[.int .i64 0] 3)) := hb0.alloc (by simp) _
     refine ⟨0, ZE _, rfl, Z3Y _ hba, ?_, ?_, ?_⟩
     ·rw [ZdK]; exact H4.out.below hba hPl2
     ·exact (Boxed.new W2 3 (.int .i64 0)).alloc _
     ·have := Boxed.new (W2.alloc (.cells #[.int .i64 0] 3)) 3 (.int .i64 0)
      rw [Z6] at this
      exact this
    case round =>
     obtain ⟨k, hk, rfl, hG, hPB, hCB, hVB⟩ := hrel
     have hPl2 : PB < W2.1.size := by omega
     have hWs := hG.size
     by_cases hlt : k < subs.length
     ·have hlt' : k < (subs.map tabs).length := by rw [HTL.out]; exact hlt
      have hml : ∀ j, j <= subs.length -> 1 <= (Z05 (subs.map tabs) (subs.length - j)).length /\ (Z05 (subs.map tabs) (subs.length - j)).length <= 5000 /\ ∀ x ∈ Z05 (subs.map tabs) (subs.length - j), -1 <= x /\ x <= 1000000000000 := fun j hj => HM.out.all _ (by rw [HTL.out]; omega)
      have hrest := hml (k + 1) (by omega)
      have htab : Z0A (subs.map tabs) k = tabs subs[k] := by unfold Z0A; rw [Z2, List.getElem?_map, Z3 hlt]; rfl
      have htm := HM.out.one _ (ZdH hlt')
      have hsn := hsub _ (Z4 hlt)
      have hds := HDS.out k
      have hrg := HRG.out k (by omega)
      have hcb := HCB.out k (by omega)
      rw [HTL.out] at hcb
      have hcb0 := (hml k (by omega)).1
      have hdp : Zbb l.min l.cents p most (subs.map tabs) k = Z83 (Z0A (subs.map tabs) k) (Z05 (subs.map tabs) (subs.length - (k + 1))) (Zi9 l.min l.cents p most (Z1d l.min l.cents p most (subs.map tabs) k).1 (Z1d l.min l.cents p most (subs.map tabs) k).2.1) := by
       unfold Zbb
       rw [HTL.out, show subs.length - 1 - k = subs.length - (k + 1) by omega]
      have hqlt := Z8T (mn := l.min) (cents := l.cents) (P := (p : Int)) (most := most) HM.out hlt'
      have hsf := ZdL (Zbb l.min l.cents p most (subs.map tabs)) f hnd hlt
      rw [htab] at htm hdp hqlt hds
      obtain ⟨s, hs⟩ : ∃ s, s = subs[k] := ⟨_, rfl⟩
      have hrw := (H5.out.kept hG (fun g e => .inl (by cases e; exact l4)))
      rw [HFB.out] at hrw
      obtain ⟨aB', capB', hvB, hcB⟩ := hrw
      injection hvB with q1 q2 q3
      subst q1
      clear q2 q3
      obtain ⟨gb, ob, curb, rfl, hbb, hhb, hcb2⟩ := hcB (by rw [Z7]; omega)
      have e1 : wr.cell? ⟨gb, ob + k, none⟩ = some (.int .i64 (subs[k] : Int)) := by
       rw [cell_of_row wr gb (ob + k) _ _ _ hhb, hcb2 k (by rw [Z7]; exact hlt), List.getElem_map]; rfl
      rw [<- hs] at htm hdp hqlt hds hsf hsn e1
      have e2 := hG.cell H3.out.1 (by intro e; cases e; exact n3 rfl)
      have e3 := hG.cell H3.out.2 (by intro e; cases e; exact n3 rfl)
      have e4 := hG.cell (H8.out s hsn) (by intro e; cases e; exact n6 rfl)
      have hTs := (H6.out s hsn).kept hG (fun g e => .inl (by cases e; exact l4))
      obtain ⟨as_, cs_, hfs, hcs⟩ := hTs
      have hTr : RdInts wr (fT s) (tabs s) := RowJ.rd (base := base) ⟨as_, cs_, hfs, hcs⟩
      rw [hfs] at e4 hTr
      obtain ⟨gs, os, curs, rfl, hbs, hhs, hccs⟩ := hcs (by omega)
      have hgs2 : gs < W2.1.size := by
       obtain ⟨a9, c9, hv9, hc9⟩ := H6.out s hsn
       rw [hfs] at hv9
       injection hv9 with r1 _ _
       obtain ⟨g9, o9, cu9, r2, _, hh9, _⟩ := hc9 (by omega)
       rw [<- r1] at r2
       injection r2 with r2
       injection r2 with r2 _
       rw [r2]
       exact (Z5.1 hh9).1
      have hR1 := (H7.out (k + 1) (by omega)).kept hG (fun g e => .inl (by cases e; exact l4))
      obtain ⟨ar, cr, hfr⟩ := hR1.len
      have hRr := hR1.rd
      have e5 := hG.cell (H10.out.row.cell (i := k + 1) (by omega)) (by show some w.1.size ≠ some PB; intro e; injection e; omega)
      have e6 := hG.cell H10.out.bx.cell (by show some (w.1.size + 1) ≠ some PB; intro e; injection e; omega)
      rw [hfr] at e5 hRr
      have hfit : FitAt wr SB W2.1.size (W2.1.size + 1) MB X Y l.min l.cents p ((Z1d l.min l.cents p most (subs.map tabs) k).1 : Nat) (Z1d l.min l.cents p most (subs.map tabs) k).2.1 most :=
       ⟨hG.cell H1.out (by show some SB ≠ some PB; intro e; injection e; omega), hCB.cell, hVB.cell, hG.cell H9.out (by show some MB ≠ some PB; intro e; injection e; omega),
        ⟨hG.cell H2.out.1 (by show some X ≠ some PB; intro e; injection e; omega), hG.cell H2.out.2.1 (by show some Y ≠ some PB; intro e; injection e; omega), hG.cell H2.out.2.2 (by show some Y ≠ some PB; intro e; injection e; omega)⟩⟩
      have hfew := Zia (tabs s) (Z05 (subs.map tabs) (subs.length - (k + 1))) _ _ SB W2.1.size (W2.1.size + 1) MB X Y l.min l.cents p ((Z1d l.min l.cents p most (subs.map tabs) k).1 : Nat) (Z1d l.min l.cents p most (subs.map tabs) k).2.1 most wr hfit hTr hRr ⟨htm.1, htm.2.1⟩ ⟨hrest.1, hrest.2.1⟩ htm.2.2 hrest.2.2
       ⟨by omega, by omega⟩ ⟨by omega, by have := HML.out; rw [HTL.out] at this; omega⟩ hcents ⟨by omega, by omega⟩
      unfold ZjA at hfew
      rw [<- hdp] at hfew
      obtain ⟨q, hq⟩ : ∃ q, q = Zbb l.min l.cents p most (subs.map tabs) k := ⟨_, rfl⟩
      obtain ⟨ql, hql⟩ : ∃ z, z = (Z05 (subs.map tabs) (subs.length - (k + 1))).length := ⟨_, rfl⟩
      obtain ⟨tl, htl2⟩ : ∃ z, z = (tabs s).length := ⟨_, rfl⟩
      obtain ⟨cm, hcm⟩ : ∃ z, z = (Z1d l.min l.cents p most (subs.map tabs) k).1 := ⟨_, rfl⟩
      obtain ⟨sv, hsv⟩ : ∃ z, z = (Z1d l.min l.cents p most (subs.map tabs) k).2.1 := ⟨_, rfl⟩
      obtain ⟨en, hen⟩ : ∃ z, z = ent (tabs s) q := ⟨_, rfl⟩
      have hen2 := Zhq (i := q) htm.2.2
      rw [<- hq] at hfew hqlt hds hsf
      rw [<- hen] at hds hen2
      have e7 : wr.cell? ⟨gs, os + q, none⟩ = some (.int .i64 en) := by
       rw [hen, cell_of_row wr gs (os + q) _ _ _ hhs, hccs q hqlt, Z2V hqlt]
      rw [<- hcm] at hds hrg hcb
      rw [<- hsv] at hds hrg
      rw [<- hcm] at hCB
      rw [<- hsv] at hVB
      rw [<- hql] at e5 hfew
      rw [<- htl2] at e4 hfew hqlt
      have hne1 : PB ≠ W2.1.size := by omega
      have hne2 : PB ≠ W2.1.size + 1 := by omega
      have d1 := hPB.cell (i := s) (by rw [Z4e]; exact hsn)
      have d2 := hPB.free s
      have hcA : Boxed (wr.setCell ⟨PB, s, none⟩ (.int .i64 (q : Nat))) W2.1.size 3 (.int .i64 (cm : Nat)) := (ZA _ _ _ _ (by show W2.1.size ≠ PB; omega)).trans hCB
      have hvA : Boxed (wr.setCell ⟨PB, s, none⟩ (.int .i64 (q : Nat))) (W2.1.size + 1) 3 (.int .i64 sv) := (ZA _ _ _ _ (by show W2.1.size + 1 ≠ PB; omega)).trans hVB
      have hvB : Boxed ((wr.setCell ⟨PB, s, none⟩ (.int .i64 (q : Nat))).setCell ⟨W2.1.size, 0, none⟩ (.int .i64 ((cm : Int) + (q : Int)))) (W2.1.size + 1) 3 (.int .i64 sv) := (ZA _ _ _ _ (by show W2.1.size + 1 ≠ W2.1.size; omega)).trans hvA
      have hcB' := hcA.set (.int .i64 ((cm : Int) + (q : Int)))
      have hgsPB : gs ≠ PB := by omega
      have f3 : ((wr.setCell ⟨PB, s, none⟩ (.int .i64 (q : Nat))).setCell ⟨W2.1.size, 0, none⟩ (.int .i64 ((cm : Int) + (q : Int)))).cell? ⟨gs, os + q, none⟩ = some (.int .i64 en) :=
       (World.cell?_of_block (w := wr) ((ZA _ _ _ _ (by show gs ≠ W2.1.size; omega)).trans (ZA _ _ _ _ hgsPB))).trans e7
      have f1 := hcA.cell
      have f1' := hcA.frozen
      have f2 := hvB.cell
      have f2' := hvB.frozen
      have hPBs : IntsAt (wr.setCell ⟨PB, s, none⟩ (.int .i64 (q : Nat))) PB (Z7z (ZfG subs (Zbb l.min l.cents p most (subs.map tabs)) f (k + 1)) Gs.length) := by
       have := hPB.set s (q : Int)
       rw [ZfW _ hsn] at this
       rw [hsf]
       exact this
      have hGA : W2.grownBy (wr.setCell ⟨PB, s, none⟩ (.int .i64 (q : Nat))) (some PB) := Z3X hG (Z07 _ _ _) (fun r e => .inl (by cases e; rfl))
      have hGB : W2.grownBy ((wr.setCell ⟨PB, s, none⟩ (.int .i64 (q : Nat))).setCell ⟨W2.1.size, 0, none⟩ (.int .i64 ((cm : Int) + (q : Int)))) (some PB) := Z3X hGA (Z07 _ _ _) (fun r e => .inr (by cases e; exact Z1 _))
      have HFIN := Z0 (And.intro (hPBs.setOther (a := ⟨W2.1.size, 0, none⟩) hne1 (.int .i64 ((cm : Int) + (q : Int)))) (And.intro hGB (And.intro hcB' hvB)))
      have HFEW := Z0 hfew
      have HDSK := Z0 hds
      have hsvb : -6000 <= sv /\ sv <= 6000000000000000 := by obtain ⟨r1, r2, r3⟩ := hrg; constructor <;> omega
      have hsum : -7000 <= sv + en /\ sv + en <= 7000000000000000 := by constructor <;> omega
      have hwr : IntKind.i64.wrap (sv + en) = sv + en := IntWalk.i64_in _ (by omega)
      clear hrg
      have hcmq : cm + q <= 5000 + 5000 := by have := HML.out; rw [HTL.out] at this; omega
      clear hfew hds hsf hq hql htl2 hcm hsv hen hs hfs hfr hTr hRr hccs hhs hhb hcb2 hcB hcs hR1 hml htab hdp hfit hcA hvA hvB hcB' hPBs hGA hGB hPB hCB hVB e7 htm hrest hcb hcb0
      go_wp2_with (go_at_call 105; refine HFEW.out.mono ?_; rintro e w7 ⟨rfl, h7⟩; obtain rfl : wr = w7 := h7)
      generalize hXW : (wr.setCell ⟨PB, s, none⟩ (.int .i64 (q : Nat))).setCell ⟨W2.1.size, 0, none⟩ (.int .i64 ((cm : Int) + (q : Int))) = XW at f2 f2' f3 HFIN ⊢
      clear hXW f1 f1'
      go_still_tail 6, (by kernel_rfl)
      change wpList _ _ _ _ _ XW.drew
      go_wp2_with fail
      all_goals
       go_roundw
       case rel =>
        obtain ⟨h1, h2, h3, h4⟩ := HFIN.out
        refine ⟨k + 1, by omega, by go_num, Z3X (Z3X h2 (Zi6 _) (fun r e => by cases e)) (Z07 _ _ _) (fun r e => .inr (by cases e; exact Nat.le_succ _)), IntsAt.setOther (w := World.drew _) h1 (a := ⟨W2.1.size + 1, 0, none⟩) hne2 _, ?_, ?_⟩
        ·rw [HDSK.out, Int.natCast_add]
         exact (ZA _ _ _ _ (by show W2.1.size ≠ W2.1.size + 1; omega)).trans h3
        ·rw [HDSK.out]
         exact Boxed.set (W := World.drew _) _ h4
       case measure => simp [intOf]; omega
     ·obtain rfl : k = subs.length := by omega
      have hKr : wr.1[D]? = some (.deferred (some [])) := (hG.block D (Z5.1 H11.out).1 (by intro e; injection e; omega)).trans H11.out
      have HKR := Z0 hKr
      have HPB := Z0 hPB
      have HG := Z0 hG
      have HBW := Z0 hBw
      clear hKr hPB hCB hVB hG
      go_wp2_with fail
      refine ⟨by simp, .inl ⟨_, _, rfl, run_takeDeferred HKR.out, ?_⟩⟩
      refine ⟨_, results_none rfl _ _ _, ⟨_, rfl⟩, Z3X (Z3X (Z3Y PB HBW.out) HG.out (fun r e => .inl (by cases e; rfl))) (grownBy_putObj' _ _ _) (fun r e => .inr (by cases e; omega)), ?_⟩
      rw [<- HMO.out]
      exact ((grownBy_putObj' _ _ _).block PB HPB.out.lt (by intro e; injection e; omega)).trans HPB.out
 case stop =>
  rintro D c pre W hD hS hX hK
  exact hX.elim
end Go.Proofs.YtlgajongmkhcnaaGreatDoor
namespace Go.Proofs.YtlgajongmkhcnaaGreatDoor
open Go.RowKit Go.Sort Go.Shelf
set_option maxRecDepth 100000
theorem Z6G (x : Int) : ∀ l : List Int, l.Pairwise (· <= ·) -> (Zhl x l).Pairwise (· <= ·)
 | [], _ => by simp [Zhl]
 | y :: r, h => by
  unfold Zhl
  obtain ⟨h1, h2⟩ := List.pairwise_cons.1 h
  by_cases e : x <= y
  ·rw [if_pos e]
   exact List.pairwise_cons.2 ⟨fun z hz => by
    rcases List.mem_cons.1 hz with rfl | hz
    ·exact e
    ·have := h1 z hz; omega, h⟩
  ·rw [if_neg e]
   refine List.pairwise_cons.2 ⟨fun z hz => ?_, Z6G x r h2⟩
   rcases List.mem_cons.1 ((Z6H x r).mem_iff.1 hz) with rfl | hz
   ·omega
   ·exact h1 z hz
theorem Z5j : ∀ l : List Int, (Z1f l).Pairwise (· <= ·)
 | [] => List.Pairwise.nil
 | x :: r => Z6G x _ (Z5j r)
theorem Z4a : ∀ a b : List Int, a.Perm b -> a.Pairwise (· <= ·) -> b.Pairwise (· <= ·) -> a = b
 | [], b, h, _, _ => (List.nil_perm.1 h).symm ▸ rfl
 | x :: r, b, h, h1, h2 => by
  cases b with
  | nil => exact absurd h.symm (by intro h; have := h.length_eq; simp at this)
  | cons y s =>
   obtain ⟨p1, p2⟩ := List.pairwise_cons.1 h1
   obtain ⟨q1, q2⟩ := List.pairwise_cons.1 h2
   have hx : x ∈ y :: s := h.mem_iff.1 List.mem_cons_self
   have hy : y ∈ x :: r := h.mem_iff.2 List.mem_cons_self
   have e : x = y := by
    rcases List.mem_cons.1 hx with e | hx
    ·exact e
    ·rcases List.mem_cons.1 hy with e | hy
     ·exact e.symm
     ·have := q1 x hx
      have := p1 y hy
      omega
   subst e
   rw [Z4a r s (List.Perm.cons_inv h) p2 q2]
theorem ZaM (l : List Int) : (l.mergeSort fun x y => decide (x <= y)) = Z1f l := by
 refine Z4a _ _ ((List.mergeSort_perm l _).trans (Z0H l).symm) ?_ (Z5j l)
 have := List.pairwise_mergeSort (le := fun x y : Int => decide (x <= y)) (fun a b c h1 h2 => by simp at h1 h2 ⊢; omega) (fun a b => by simp; omega) l
 exact this.imp (fun h => by simpa using h)
theorem ZfP (g cap base : Nat) (zs : List Int) (w : World) (ho : w.ownsRow base 3 1 (.slice (some ⟨g, 0, none⟩) zs.length cap) zs.length (zs.map (Value.int .i64))) (hl : zs.length <= 100000) :
 Calls Tryz.prog 106 #[.slice (some ⟨g, 0, none⟩) zs.length cap] w fun e w' => e = .returned (.tuple #[]) /\ w.grownBy w' (some g) /\ RowJ w' base (.slice (some ⟨g, 0, none⟩) (Z1f zs).length cap) (Z1f zs) := by
 rcases ho.2 with ⟨h0, _⟩ | ⟨g', cap', cur, hv, hg, hn, h1, h2, h3, h4⟩
 ·cases h0
 cases hv
 rw [Nat.mul_one] at h4
 have hlt : g < w.1.size := (Z5.1 hn).1
 refine (Tryz.slices_Sort_int g 0 cap zs w (holds_of_blockI hn h4) hlt (by omega)).mono ?_
 rintro e w' ⟨rfl, n, os, rfl⟩
 rw [ZaM]
 have hsl : (Z1f zs).length = zs.length := (Z0H zs).length_eq
 refine ⟨rfl, grownBy_sortedI _, ?_⟩
 have hw := heap_sortedI (n := n) (os := os) (Z1f zs).toArray hn
 refine ⟨_, cap, rfl, fun _ => ⟨g, 0, _, rfl, hg, hw, fun i hi => ?_⟩⟩
 have ht := take_putCellsI cur (Z1f zs) (by omega)
 have : ((putCells (Value.int .i64) 0 (Z1f zs).toArray cur).toList.take (Z1f zs).length)[i]? = ((Z1f zs).map (Value.int .i64))[i]? := by rw [ht]
 rw [List.getElem?_take_of_lt hi, List.getElem?_map, Z3 hi, Array.getElem?_toList] at this
 rw [Nat.zero_add]
 exact this
def PassV (w : World) (base : Nat) (v : Value) (zs : List Int) : Prop := RowJ w base v zs /\ (v = .slice none 0 0 \/ ∃ b off c, v = .slice (some ⟨b, off, none⟩) zs.length c)
theorem PassV.kept {w w' : World} {base : Nat} {v : Value} {zs : List Int} {row : Option Nat} (h : PassV w base v zs) (hg : w.grownBy w' row) (hne : ∀ g, row = some g -> g < base \/ ∀ cur fr, w.1[g]? ≠ some (.cells cur 3 fr)) : PassV w' base v zs := ⟨h.1.kept hg hne, h.2⟩
theorem PassV.below {w w' : World} {base : Nat} {v : Value} {zs : List Int} (h : PassV w base v zs) (hb : Below w.1.size w w') : PassV w' base v zs := ⟨h.1.below hb, h.2⟩
theorem PassV.nil (w : World) (base : Nat) : PassV w base (.slice none 0 0) [] := ⟨RowJ.nil _ _ _ _, .inl rfl⟩
theorem PassV.zero {w : World} {base : Nat} {zs : List Int} (h : PassV w base (.slice none 0 0) zs) : zs = [] := by
 obtain ⟨a, cap, hv, _⟩ := h.1
 injection hv with _ e _
 exact List.length_eq_zero_iff.1 e.symm
theorem RowJ.news {w : World} {base b off n c : Nat} {zs : List Int} (h : RowJ w base (.slice (some ⟨b, off, none⟩) n c) zs) : ∀ j u, (zs.map (Value.int .i64))[j]? = some u -> w.cell? ((⟨b, off, none⟩ : Addr).add j) = some u := by
 intro j u hj
 obtain ⟨hjl, hju⟩ := List.getElem?_eq_some_iff.1 hj
 rw [Z7] at hjl
 obtain ⟨a, cap, hv, hc⟩ := h
 obtain ⟨g, o, cur, ha, _, hh, hcc⟩ := hc (by omega)
 injection hv with e1 _ _
 rw [<- e1] at ha
 injection ha with ha
 injection ha with e2 e3
 subst e2; subst e3
 have ea : (⟨b, off, none⟩ : Addr).add j = ⟨b, off + j, none⟩ := by unfold Addr.add; split <;> simp_all
 rw [ea, cell_of_row w b (off + j) _ _ _ hh, hcc j hjl, <- hju, List.getElem_map]
theorem RdInts.news {w : World} {b off n c : Nat} {zs : List Int} (h : RdInts w (.slice (some ⟨b, off, none⟩) n c) zs) : ∀ j u, (zs.map (Value.int .i64))[j]? = some u -> w.cell? ((⟨b, off, none⟩ : Addr).add j) = some u := by
 intro j u hj
 obtain ⟨hjl, hju⟩ := List.getElem?_eq_some_iff.1 hj
 rw [Z7] at hjl
 obtain ⟨a, cap, hv, hc⟩ := h
 obtain ⟨g, o, ha, hh, hcc⟩ := hc (by omega)
 injection hv with e1 _ _
 rw [<- e1] at ha
 injection ha with ha
 injection ha with e2 e3
 subst e2; subst e3
 have ea : (⟨b, off, none⟩ : Addr).add j = ⟨b, off + j, none⟩ := by unfold Addr.add; split <;> simp_all
 rw [ea, hcc j hjl, <- hju, List.getElem_map]
theorem Zc4 (zs : List Int) : ∀ u ∈ zs.map (Value.int .i64), u.oneCell' = true := by
 intro u hu
 obtain ⟨b, _, rfl⟩ := List.mem_map.1 hu
 rfl
theorem Z8J (x : Int) : ∀ (l : List Int) (q : List Int), (l.foldl (fun q i => q.set i.toNat x) q).length = q.length
 | [], q => rfl
 | i :: r, q => by rw [List.foldl_cons, Z8J x r]; simp
theorem Z52 (gs : List PGrp) (f : Nat -> Int) (p : List Int) : ∀ k, (Z0F gs f k p).1.length = p.length
 | 0 => rfl
 | k + 1 => by rw [Z1m]; dsimp only; rw [Z8J, Z52 gs f p k]
theorem Zg9 (T BB TB PB base : Nat) (v vg : Value) (Gs : List Grp) (tabs : Nat -> List Int) (f : Nat -> Int) (np : Nat) (pls : List (Int × Int)) (w : World)
 (h : TreeW w T BB TB PB base v vg Gs tabs Gs.length (Z7z f Gs.length)) (hF : Forest pls (Z0m Gs)) (hn : Gs.length <= 100000) (hnp : np <= 100000)
 (hf : ∀ g, g < Gs.length -> 0 <= f g /\ f g <= ((Z1k (Z0m Gs) f g).length : Int)) (hcl : ∀ g, g < Gs.length -> (Z1k (Z0m Gs) f g).length <= 100000)
 (hir : ∀ g, g < Gs.length -> ∀ i ∈ Z1k (Z0m Gs) f g, 0 <= i /\ i < (np : Int)) :
 Calls Tryz.prog 65 #[.pointer (some ⟨T, 0, none⟩), .int .i64 np] w fun e w' => e = .returned (.slice (some ⟨w.1.size, 0, none⟩) np np) /\ Below w.1.size w w' /\
  IntsAt w' w.1.size (Z0F (Z0m Gs) f Gs.length (List.replicate np 0)).1 := by
 obtain ⟨l1, l2, l3, l4, l5⟩ := h.lt
 obtain ⟨c0, c1, c2, c3, c4⟩ := h.tr.c
 have hpv := h.pv
 obtain ⟨fB, f1, f2⟩ := h.bl
 have hgr := h.gr
 obtain ⟨ag, cg, rfl, hgr⟩ := hgr
 have HGR := Z0 hgr
 have HF2 := Z0 f2
 have HF1 := Z0 f1
 have HPV := Z0 hpv
 have HF := Z0 hF
 have HFF := Z0 hf
 have HCL := Z0 hcl
 have HIR := Z0 hir
 obtain ⟨j0, hj⟩ := info_parts Tryz.infoI
 have HJ := Z0 hj
 have hmk1 := fun W => run_make_row' (P := Tryz.prog) 35 3 (.int .i64 0) 8 Tryz.underlying35 Tryz.infoI rfl .i64 .i64 np (by omega) (by omega) W
 have hmk2 := fun W => run_make_row' (P := Tryz.prog) 109 35 (.slice none 0 0) 24 Tryz.underlying109 Tryz.infoSl rfl .i64 .i64 Gs.length (by omega) (by omega) W
 clear h hgr f2 f1 hpv hF hf hcl hir hj
 go_enter Tryz.func65, Tryz.ntmps65
 have hTl : T < w.1.size := by omega
 have hw1 : Below w.1.size w (w.alloc (.cells (madeCells #[Value.int .i64 0] np) 3)) := (Z9 _ w).alloc (Z1 _) _
 have hw2 : Below w.1.size w ((w.alloc (.cells (madeCells #[Value.int .i64 0] np) 3)).alloc (.cells (madeCells #[Value.slice none 0 0] Gs.length) 35)) := hw1.alloc (by simp) _
 have d1 := (hw1.cell (p := ⟨T, 1, none⟩) hTl).trans c1
 have d2 := (hw2.cell (p := ⟨T, 1, none⟩) hTl).trans c1
 have HM1 : IntsAt ((w.alloc (.cells (madeCells #[Value.int .i64 0] np) 3)).alloc (.cells (madeCells #[Value.slice none 0 0] Gs.length) 35)) w.1.size (List.replicate np 0) :=
  (ZB _ _ _ (by simp)).trans (Z6v w np)
 have HM2 : ((w.alloc (.cells (madeCells #[Value.int .i64 0] np) 3)).alloc (.cells (madeCells #[Value.slice none 0 0] Gs.length) 35)).rowIs (w.1.size + 1) 35 Gs.length (fun _ => .slice none 0 0) := by
  have := World.rowIs_made (w.alloc (.cells (madeCells #[Value.int .i64 0] np) 3)) (.slice none 0 0) Gs.length 35
  rw [Z6] at this
  exact this
 have HM3 := Z0 (And.intro HM1 HM2)
 clear HM1 HM2
 go_wp2_with fail
 clear d1 d2 hmk1 hmk2
 go_loopw [28] (fun i wr => ∃ k : Nat, k <= Gs.length /\ i = .int .i64 k /\ Below w.1.size w wr /\ w.1.size + 2 <= wr.1.size /\ IntsAt wr w.1.size (Z0F (Z0m Gs) f k (List.replicate np 0)).1 /\
  ∃ F : Nat -> Value, wr.rowIs (w.1.size + 1) 35 Gs.length F /\ ∀ j, j < k -> PassV wr (w.1.size + 2) (F j) (Z0l (Z0m Gs) f j)) (fun i _ => Gs.length - (intOf i).toNat)
 case atStart =>
  refine ⟨0, ZE _, rfl, hw2, by simp, HM3.out.1, _, HM3.out.2, fun j hj => absurd hj (Nat.not_lt_zero _)⟩
 case round =>
  clear hw1 hw2 HM3
  obtain ⟨k, hk, rfl, hB, hz, hI, F, hF1, hF2⟩ := hrel
  obtain ⟨wo, hwo⟩ : ∃ x, x = wr := ⟨_, rfl⟩
  subst hwo
  by_cases hlt : k < Gs.length
  ·obtain ⟨gg, og, rfl, hgg, hcg⟩ := HGR.out (by omega)
   obtain ⟨sv, hsv, g0, g1, g2, g3⟩ := hcg k hlt
   have hgp : k < (Z0m Gs).length := by rw [Z1M]; exact hlt
   have hga := Z2q hlt
   have hps := Z9m HF.out f (List.replicate np 0) hgp
   have hpe := Z3h HF.out f hgp
   have hsome := HF.out.some_ k hgp
   have hbel := HF.out.below k hgp
   have hff := HFF.out k hlt
   have hcll := HCL.out k hlt
   have hirr := HIR.out k hlt
   have hcd : Z1k (Z0m Gs) f k = Z1f ((if (Z0c (Z0m Gs) k).lvl = 0 then (Z0c (Z0m Gs) k).items else []) ++ (Z04 (Z0m Gs) k).flatMap (Z0l (Z0m Gs) f)) := rfl
   have htk : Z36 (Z0m Gs) f k = (Z1k (Z0m Gs) f k).take ((Z1k (Z0m Gs) f k).length - (f k).toNat) := rfl
   rw [htk] at hps
   rw [hga] at hps hsome hcd
   have hsn : ∀ x ∈ Z04 (Z0m Gs) k, x < Gs.length := fun x hx => by have := hbel x hx; omega
   obtain ⟨x, hx⟩ : ∃ x, x = Gs[k] := ⟨_, rfl⟩
   rw [<- hx] at hsv g0 g1 g2 hps hsome hcd
   obtain ⟨lvl, nm, up, items⟩ := x
   dsimp only [pOf] at hsv g0 g1 g2 g3 hps hsome hcd
   obtain ⟨L, hL⟩ : ∃ L, L = (if lvl = 0 then items else []) ++ (Z04 (Z0m Gs) k).flatMap (Z0l (Z0m Gs) f) := ⟨_, rfl⟩
   replace hcd : Z1k (Z0m Gs) f k = Z1f L := by rw [hL]; exact hcd
   rw [hcd] at hps hpe hff hcll hirr
   have hrow := HF2.out k hlt
   have cb := HF1.out.cell hlt
   have hsl : (Z04 (Z0m Gs) k).length <= 100000 := by
    unfold Z04
    refine Nat.le_trans (List.length_filter_le _ _) ?_
    rw [List.length_range, Z1M]; exact hn
   obtain ⟨subs, hS⟩ : ∃ s, s = Z04 (Z0m Gs) k := ⟨_, rfl⟩
   rw [<- hS] at hrow hL hbel hsn hsl
   obtain ⟨aB, capB, hfb⟩ := hrow.len
   rw [hfb] at cb
   rw [Z7] at cb hfb
   obtain ⟨p, hp⟩ : ∃ p : Nat, f k = (p : Int) := ⟨_, (Int.toNat_of_nonneg hff.1).symm⟩
   rw [hp] at hps hpe hff
   rw [Int.toNat_natCast] at hps hpe
   have c5 := HPV.out.cell (i := k) (by rw [Z4e]; exact hlt)
   rw [ZbH hlt, hp] at c5
   have e1 : wo.cell? ⟨gg, og + k * 4, none⟩ = some (.int .i64 lvl) := (hB.cell (p := ⟨gg, og + k * 4, none⟩) hgg).trans g0
   have e2 : wo.cell? ⟨gg, og + k * 4 + 1, none⟩ = some (.string nm) := (hB.cell (p := ⟨gg, og + k * 4 + 1, none⟩) hgg).trans g1
   have e3 : wo.cell? ⟨gg, og + k * 4 + 2, none⟩ = some (.int .i64 up) := (hB.cell (p := ⟨gg, og + k * 4 + 2, none⟩) hgg).trans g2
   obtain ⟨ai, ci, rfl, hci⟩ := hsv
   have e4 : wo.cell? ⟨gg, og + k * 4 + 3, none⟩ = some (.slice ai items.length ci) := (hB.cell (p := ⟨gg, og + k * 4 + 3, none⟩) hgg).trans g3
   obtain ⟨X, hX⟩ : ∃ X, X = if lvl = 0 then items else [] := ⟨_, rfl⟩
   rw [<- hX] at hL
   have hLl : L.length <= 100000 := by have := hcll; rwa [(Z0H L).length_eq] at this
   have hLX : L.length = X.length + (subs.flatMap (Z0l (Z0m Gs) f)).length := by rw [hL, ZC]
   obtain ⟨CG, hCG⟩ : ∃ c, c = Obj.cells #[.int .i64 lvl, .string nm, .int .i64 up, .slice ai items.length ci] 107 (0, 0) := ⟨_, rfl⟩
   have HCGb : Below wo.1.size wo (wo.alloc CG) := (Z9 _ wo).alloc (Z1 _) _
   have HB1 : Below w.1.size w (wo.alloc CG) := hB.alloc hB.size _
   have hz1 : (wo.alloc CG).1.size = wo.1.size + 1 := Z6 _ _
   have q0 : (wo.alloc CG).cell? ⟨wo.1.size, 0, none⟩ = some (.int .i64 lvl) := by rw [hCG]; exact cell_of_row _ _ 0 _ _ _ (Z01 wo _)
   have q3 : (wo.alloc CG).cell? ⟨wo.1.size, 3, none⟩ = some (.slice ai items.length ci) := by rw [hCG]; exact cell_of_row _ _ 3 _ _ _ (Z01 wo _)
   have hit : RdInts (wo.alloc CG) (.slice ai items.length ci) items := RdInts.below (w := w) ⟨ai, ci, rfl, hci⟩ HB1
   have HX := Z0 hX
   have HL := Z0 hL
   have HPS := Z0 hps
   have HPE := Z0 hpe
   have HLX := Z0 hLX
   have HIR2 := Z0 hirr
   have HROW := Z0 hrow
   have HFB := Z0 hfb
   have HI := Z0 hI
   have HF1' := Z0 hF1
   have HF2' := Z0 hF2
   have HQ0 := Z0 q0
   have HZ1 := Z0 hz1
   have HP := Z0 hp
   have HSN := Z0 hsn
   have HBEL := Z0 hbel
   clear hX hL hps hpe hLX hirr hrow hfb hI hF1 hF2 q0 hz1 hp hsn hbel hcd hcll hci hcg g0 g1 g2 g3 hga hS hx htk hgp
   go_upto_if 35 with fail
   rw [<- hCG]
   have HCGE := Z0 hCG
   clear hCG
   go_cut [9] from 35 to 39 (fun t wx => Below (wo.alloc CG).1.size (wo.alloc CG) wx /\ wx.ownsRow (wo.alloc CG).1.size 3 1 t X.length (X.map (Value.int .i64)))
   case first =>
    by_cases h0 : lvl = 0
    ·have hXi : X = items := by rw [HX.out, if_pos h0]
     have hql : (lvl == 0) = true := by simp [h0]
     obtain ⟨ai', ci', hv, hc⟩ := hit
     have hlen0 : 0 < items.length := List.length_pos_iff.2 hsome
     obtain ⟨gi, oi, rfl, hgi, hci⟩ := hc hlen0
     injection hv with q1 q2 q4
     subst q1
     have hnw : ∀ j u, (items.map (Value.int .i64))[j]? = some u -> (wo.alloc CG).cell? ((⟨gi, oi, none⟩ : Addr).add j) = some u := RdInts.news (n := items.length) (c := ci) ⟨_, ci, rfl, fun _ => ⟨gi, oi, rfl, hgi, hci⟩⟩
     have HNW := Z0 hnw
     have HXI := Z0 hXi
     have hli : items.length <= 100000 := by have := HLX.out; rw [hXi] at this; omega
     clear hnw hXi hci hc q2 q4 h0
     go_wp2_with (at_builtin; refine wpList_append_own _ rfl _ _ 35 rfl (wo.alloc CG).1.size 3 j0 (.int .i64 0) 1 8 Tryz.underlying35 HJ.out.1 HJ.out.2.1 HJ.out.2.2.1 HJ.out.2.2.2 rfl (by decide) _ _ _ rfl (World.ownsRow_nil _ _ _ _) ⟨gi, oi, none⟩ items.length ci (items.map (Value.int .i64)) rfl (by simp) HNW.out (Zc4 items) (by unfold maxLen; omega) (by omega) (Z1 _) ?_; intro v' w5 hown' hgrow _)
     all_goals go_meet
     case rel =>
      rw [Nat.zero_add, List.nil_append] at hown'
      rw [HXI.out]
      exact ⟨(Z9 _ _).grown hgrow (Z1 _) (fun r e => by cases e), hown'⟩
    ·have hXi : X = [] := by rw [HX.out, if_neg h0]
     have hql : (lvl == 0) = false := by simp [h0]
     have HXI := Z0 hXi
     clear hXi
     go_wp2_with fail
     all_goals go_meet
     case rel =>
      rw [HXI.out]
      exact ⟨Z9 _ _, World.ownsRow_nil _ _ _ _⟩
   case rest =>
    obtain ⟨hbc, hown⟩ := hcut
    have hBc : Below w.1.size w wc := Z00 HB1 HB1.size hbc
    have b2 := (hBc.cell (p := ⟨T, 2, none⟩) hTl).trans c2
    have bb := (hBc.cell (p := ⟨BB, k, none⟩) (by show BB < _; omega)).trans cb
    have hAl : ∀ j, j <= subs.length -> X.length + ((subs.take j).flatMap (Z0l (Z0m Gs) f)).length <= L.length := fun j hj => by
     rw [HLX.out]
     conv => rhs; rw [<- List.take_append_drop j subs, List.flatMap_append, ZC]
     omega
    have HAL := Z0 hAl
    clear hAl hit q3
    go_wp2_with fail
    go_loopw [9, 48] (fun v i wq => ∃ j : Nat, j <= subs.length /\ i = .int .i64 j /\ Below (wo.alloc CG).1.size (wo.alloc CG) wq /\
     wq.ownsRow (wo.alloc CG).1.size 3 1 v (X ++ (subs.take j).flatMap (Z0l (Z0m Gs) f)).length ((X ++ (subs.take j).flatMap (Z0l (Z0m Gs) f)).map (Value.int .i64))) (fun _ i _ => subs.length - (intOf i).toNat)
    case atStart => exact ⟨0, ZE _, rfl, hbc, by simpa using hown⟩
    case round =>
     clear hbc hown hBc b2 bb
     obtain ⟨j, hj, rfl, hBq, hO⟩ := hrel
     have hBw : Below w.1.size w wr := Z00 HB1 HB1.size hBq
     have hz1 := HZ1.out
     by_cases hltj : j < subs.length
     ·have hsk := HBEL.out _ (Z4 hltj)
      have hsn := HSN.out _ (Z4 hltj)
      have hal := HAL.out (j + 1) hltj
      have hxt : X ++ (subs.take (j + 1)).flatMap (Z0l (Z0m Gs) f) = (X ++ (subs.take j).flatMap (Z0l (Z0m Gs) f)) ++ Z0l (Z0m Gs) f subs[j] := by
       rw [Z8 hltj, List.flatMap_append, List.append_assoc]; simp
      have hlen : (X ++ (subs.take (j + 1)).flatMap (Z0l (Z0m Gs) f)).length = X.length + ((subs.take (j + 1)).flatMap (Z0l (Z0m Gs) f)).length := ZC
      obtain ⟨s, hs⟩ : ∃ s, s = subs[j] := ⟨_, rfl⟩
      have hrw := HROW.out.below hBw
      rw [HFB.out] at hrw
      obtain ⟨aB', capB', hvB, hcB⟩ := hrw
      injection hvB with q1 q2 q3
      subst q1
      clear q2 q3
      obtain ⟨gb, ob, curb, rfl, hbb, hhb, hcb2⟩ := hcB (by rw [Z7]; omega)
      have e1 : wr.cell? ⟨gb, ob + j, none⟩ = some (.int .i64 (subs[j] : Int)) := by
       rw [cell_of_row wr gb (ob + j) _ _ _ hhb, hcb2 j (by rw [Z7]; exact hltj), List.getElem_map]; rfl
      rw [<- hs] at hsk hsn hxt e1
      have e2 : wr.cell? ⟨w.1.size + 1, s, none⟩ = some (F s) := (hBq.cell (p := ⟨w.1.size + 1, s, none⟩) (by show w.1.size + 1 < _; omega)).trans ((HCGb.cell (p := ⟨w.1.size + 1, s, none⟩) (by show w.1.size + 1 < _; omega)).trans (HF1'.out.cell hsn))
      have hpv := ((HF2'.out s hsk).below HCGb).below hBq
      rw [hxt, ZC] at hlen
      obtain ⟨A, hA⟩ : ∃ A, A = X ++ (subs.take j).flatMap (Z0l (Z0m Gs) f) := ⟨_, rfl⟩
      obtain ⟨zs, hzs⟩ : ∃ z, z = Z0l (Z0m Gs) f s := ⟨_, rfl⟩
      rw [<- hA] at hxt hO hlen
      rw [<- hzs] at hxt hpv hlen
      have HXT := Z0 hxt
      have HO := Z0 hO
      have hszq := hBq.size
      have hbz : A.length + zs.length <= 100000 := by omega
      clear hxt hO hA hzs hs hcb2 hhb hcB hlen hal
      rcases hpv with ⟨hrj, hsh | ⟨bs, os, cs, hsh⟩⟩
      ·rw [hsh] at e2 hrj
       have hz0 : zs = [] := PassV.zero (base := w.1.size + 2) ⟨hrj, .inl rfl⟩
       have HZ0 := Z0 hz0
       clear hz0 hsh hrj
       go_wp2_with (at_builtin; refine wpList_append_own_none rfl _ _ 35 rfl (wo.alloc CG).1.size 3 j0 1 Tryz.underlying35 HJ.out.1 _ _ _ rfl HO.out rfl ?_)
       go_roundw
       case rel =>
        refine ⟨j + 1, by omega, by go_num, hBq, ?_⟩
        rw [HXT.out, HZ0.out, List.append_nil]
        exact HO.out
       case measure => simp [intOf]; omega
      ·rw [hsh] at e2 hrj
       have hnw := RowJ.news hrj
       have HNW := Z0 hnw
       clear hsh hrj hnw
       go_wp2_with (at_builtin; refine wpList_append_own _ rfl _ _ 35 rfl (wo.alloc CG).1.size 3 j0 (.int .i64 0) 1 8 Tryz.underlying35 HJ.out.1 HJ.out.2.1 HJ.out.2.2.1 HJ.out.2.2.2 rfl (by decide) _ _ _ rfl HO.out ⟨bs, os, none⟩ zs.length cs (zs.map (Value.int .i64)) rfl (by simp) HNW.out (Zc4 zs) (by unfold maxLen; omega) (by omega) hszq ?_; intro v' w5 hown' hgrow _)
       go_roundw
       case rel =>
        refine ⟨j + 1, by omega, by go_num, hBq.grown hgrow hszq (fun r e => (HO.out.lt r e).1), ?_⟩
        rw [HXT.out, ZC, ZD]
        exact hown'
       case measure => simp [intOf]; omega
     ·obtain rfl : j = subs.length := by omega
      rw [List.take_length, <- HL.out] at hO
      have b4 := (hBw.cell (p := ⟨T, 4, none⟩) hTl).trans c4
      have b5 := (hBw.cell (p := ⟨PB, k, none⟩) (by show PB < _; omega)).trans c5
      have hszq := hBq.size
      have r0 := (hBq.cell (p := ⟨wo.1.size, 0, none⟩) (by show wo.1.size < _; omega)).trans HQ0.out
      have hpl : p <= L.length := by have := hff.2; rw [(Z0H L).length_eq] at this; omega
      have hIq : IntsAt wr w.1.size (Z0F (Z0m Gs) f k (List.replicate np 0)).1 := (HI.out.below HCGb (by omega)).below hBq (by omega)
      have hF1q : wr.rowIs (w.1.size + 1) 35 Gs.length F := Z0U (Z0U HF1'.out HCGb (by omega)) hBq (by omega)
      have hF2q : ∀ j, j < k -> PassV wr (w.1.size + 2) (F j) (Z0l (Z0m Gs) f j) := fun j hj => ((HF2'.out j hj).below HCGb).below hBq
      have HIQ := Z0 hIq
      have HF1Q := Z0 hF1q
      have HF2Q := Z0 hF2q
      clear hIq hF1q hF2q
      rcases Joins.ownsRow_forms hO with ⟨rfl, hpn⟩ | ⟨g2, cap2, rfl⟩
      ·have hL0 : L = [] := List.length_eq_zero_iff.1 hpn
       obtain rfl : p = 0 := by omega
       have HL0 := Z0 hL0
       have HPN := Z0 hpn
       have HHO := Z0 hO
       rw [hL0] at hpl
       clear hpn hL0 hpl hO
       go_wp2_with (go_at_call 106; refine (Tryz.slices_Sort_int_none none 0 wr).mono ?_; rintro e w5 ⟨rfl, h5⟩; obtain rfl : wr = w5 := h5.symm)
       go_loopw [75] (fun i wq => ∃ j : Nat, j <= 0 /\ i = .int .i64 j /\ wr = wq) (fun i _ => 0)
       case atStart => exact ⟨0, Z1 _, rfl, by first | rfl | trivial⟩
       case round =>
        obtain ⟨j, hj, rfl, hW⟩ := hrel
        subst hW
        obtain rfl : j = 0 := by omega
        have hF1q := HF1Q.out
        have e1 := hF1q.cell hlt
        have e2 := hF1q.frozen k
        clear hF1q
        go_wp2_with fail
        go_roundw
        case rel =>
         have hs0 : Z1f L = [] := by rw [HL0.out]; rfl
         refine ⟨k + 1, by omega, by go_num, hBw.setCell (p := ⟨w.1.size + 1, k, none⟩) (Nat.le_succ _) _, by simp [World.setCell]; omega, ?_, _, HF1Q.out.set k _, fun j hj => ?_⟩
         ·rw [HPS.out, hs0]
          exact HIQ.out.setOther (by show w.1.size ≠ w.1.size + 1; omega) _
         ·by_cases e : j = k
          ·subst e
           rw [if_pos rfl, HPE.out, hs0]
           exact PassV.nil _ _
          ·rw [if_neg e]
           exact (HF2Q.out j (by omega)).kept (Z07 _ _ _) (fun g e => .inl (by cases e; exact Nat.lt_succ_self _))
        case measure => simp [intOf]; omega
      ·have hcap : L.length <= cap2 := by
        rcases hO.2 with ⟨h0, _⟩ | ⟨g', cap', cur, hv, _, _, h1, _, _, _⟩
        ·cases h0
        ·cases hv; exact h1
       have hg2 := (hO.lt g2 rfl).1
       have hg2' := (hO.lt g2 rfl).2
       obtain ⟨tk, htk⟩ : ∃ tk : Nat, (L.length : Int) - (p : Int) = (tk : Int) := ⟨L.length - p, by omega⟩
       have htl : tk <= L.length := by omega
       have htk2 : L.length - p = tk := by omega
       have HTK := Z0 htk2
       have HO := Z0 hO
       have hkk : ∀ w5, wr.grownBy w5 (some g2) -> w5.cell? ⟨T, 4, none⟩ = some (.slice (some ⟨PB, 0, none⟩) Gs.length Gs.length) /\ w5.cell? ⟨PB, k, none⟩ = some (.int .i64 p) /\ w5.cell? ⟨wo.1.size, 0, none⟩ = some (.int .i64 lvl) := fun w5 hg =>
        ⟨hg.cell b4 (by show some T ≠ some g2; intro e; injection e; omega), hg.cell b5 (by show some PB ≠ some g2; intro e; injection e; omega), hg.cell r0 (by show some wo.1.size ≠ some g2; intro e; injection e; omega)⟩
       have HKK := Z0 hkk
       clear hO hkk b4 b5 r0 htk2
       go_wp2_with (go_at_call 106; refine (ZfP g2 cap2 _ L wr HO.out hLl).mono ?_; rintro e w5 ⟨rfl, hg5, hr5⟩; obtain ⟨b4, b5, r0⟩ := HKK.out w5 hg5)
       have hIw : IntsAt w5 w.1.size (Z0F (Z0m Gs) f k (List.replicate np 0)).1 := (hg5.block w.1.size (by omega) (by intro e; injection e; omega)).trans HIQ.out
       have hF1w : w5.rowIs (w.1.size + 1) 35 Gs.length F := HF1Q.out.of_block (hg5.block _ (by omega) (by intro e; injection e; omega))
       have hF2w : ∀ j, j < k -> PassV w5 (w.1.size + 2) (F j) (Z0l (Z0m Gs) f j) := fun j hj => by
        have h1 := HF2'.out j hj
        have hg : (wo.alloc CG).grownBy w5 none := ⟨hg5.os.trans hBq.os, hg5.tape.trans hBq.tape, hg5.output.trans hBq.output, Nat.le_trans hBq.size hg5.size, fun i hi _ => (hg5.block i (by omega) (by intro e; injection e; omega)).trans (hBq.block i hi)⟩
        exact (h1.below HCGb).kept hg (fun g e => by cases e)
       have hB5 : Below w.1.size w w5 := hBw.grown hg5 hBw.size (fun r e => by cases e; omega)
       have hslen : (Z1f L).length = L.length := (Z0H L).length_eq
       have hplen : (Z0F (Z0m Gs) f k (List.replicate np 0)).1.length = np := by rw [Z52]; simp
       have h5z := hg5.size
       have HF1W := Z0 hF1w
       have HF2W := Z0 hF2w
       have HR5 := Z0 hr5
       have HB5 := Z0 hB5
       have HIW := Z0 hIw
       have HSL := Z0 hslen
       have HR0 := Z0 r0
       obtain ⟨st, hst⟩ : ∃ z, z = (Z0F (Z0m Gs) f k (List.replicate np 0)).1 := ⟨_, rfl⟩
       have HST := Z0 hst
       rw [<- hst] at HIW hplen
       have HPLN := Z0 hplen
       clear hF1w hF2w hr5 hB5 hIw hslen r0 hst hplen b4 b5 hg5
       go_loopw [75] (fun i wq => ∃ j : Nat, j <= tk /\ i = .int .i64 j /\ w5.grownBy wq (some w.1.size) /\ IntsAt wq w.1.size (((Z1f L).take j).foldl (fun q i => q.set i.toNat lvl) st)) (fun i _ => tk - (intOf i).toNat)
       case atStart => exact ⟨0, ZE _, rfl, Z3Y _ (Z9 _ _), HIW.out⟩
       case round =>
        obtain ⟨wp, hwp⟩ : ∃ x, x = wr := ⟨_, rfl⟩
        subst hwp
        obtain ⟨j, hj, rfl, hG, hIj⟩ := hrel
        have hwz := hG.size
        by_cases hltj : j < tk
        ·have hjs : j < (Z1f L).length := by rw [HSL.out]; omega
         obtain ⟨z0, z1⟩ := HIR2.out _ (Z4 hjs)
         obtain ⟨ar, cr, hvr, hcr⟩ := HR5.out
         obtain ⟨gr, or_, cur, har, hbr, hhr, hcc⟩ := hcr (by omega)
         injection hvr with r1 r2 r3
         rw [<- r1] at har
         injection har with har
         injection har with r4 r5
         subst r4; subst r5
         have e1 : wp.cell? ⟨g2, j, none⟩ = some (.int .i64 (Z1f L)[j]) := hG.cell (by rw [cell_of_row w5 g2 j _ _ _ hhr]; have := hcc j hjs; rwa [Nat.zero_add] at this) (by show some g2 ≠ some w.1.size; intro e; injection e; omega)
         have e2 := hG.cell HR0.out (by show some wo.1.size ≠ some w.1.size; intro e; injection e; omega)
         have htk : (Z1f L).take (j + 1) = (Z1f L).take j ++ [(Z1f L)[j]] := Z8 hjs
         obtain ⟨z, hz⟩ : ∃ z : Nat, (Z1f L)[j] = (z : Int) := ⟨_, (Int.toNat_of_nonneg z0).symm⟩
         rw [hz] at e1 z1 htk
         have hzn : z < np := by omega
         have hln := Z8J lvl ((Z1f L).take j) st
         rw [HPLN.out] at hln
         have e3 := hIj.cell (i := z) (by omega)
         have e4 := hIj.free z
         have HTKE := Z0 htk
         have HIJ := Z0 hIj
         have HGH := Z0 hG
         clear htk hz hcc hhr hcr r1 r2 r3 hln hIj
         go_wp2_with fail
         go_roundw
         case rel =>
          refine ⟨j + 1, by omega, by go_num, Z3X HGH.out (Z07 _ _ _) (fun r e => .inl (by cases e; rfl)), ?_⟩
          rw [HTKE.out, List.foldl_append]
          have := HIJ.out.set z lvl
          simpa using this
         case measure => simp [intOf]; omega
        ·obtain rfl : j = tk := by omega
         have hF1w := HF1W.out.of_block (hG.block (w.1.size + 1) (by omega) (by intro e; injection e; omega))
         have e1 := hF1w.cell hlt
         have e2 := hF1w.frozen k
         have HF1X := Z0 hF1w
         have HIJ := Z0 hIj
         have HGH := Z0 hG
         clear hF1w hIj
         go_wp2_with fail
         go_roundw
         case rel =>
          have hpv : PassV wp (w.1.size + 2) (.slice (if cap2 = j then some ⟨g2, 0, none⟩ else some ⟨g2, j, none⟩) (L.length - j) (cap2 - j)) (Z0l (Z0m Gs) f k) := by
           rw [HPE.out, HSL.out, HTK.out]
           have hr := ((HR5.out.mono (base' := w.1.size + 2) (by omega)).kept HGH.out (fun g e => .inl (by cases e; omega)))
           have hd := RowJ.drop hr (k := j) (cap' := cap2 - j) (by rw [HSL.out]; exact htl)
           rw [Nat.zero_add, HSL.out] at hd
           have hdl : ((Z1f L).drop j).length = L.length - j := by rw [List.length_drop, HSL.out]
           by_cases hc : cap2 = j
           ·rw [if_pos hc]
            have h0 : (Z1f L).drop j = [] := List.length_eq_zero_iff.1 (by omega)
            rw [h0, show L.length - j = 0 by omega]
            exact ⟨RowJ.nil _ _ _ _, .inr ⟨g2, 0, _, rfl⟩⟩
           ·rw [if_neg hc]
            exact ⟨hd, .inr ⟨g2, j, _, by rw [hdl]⟩⟩
          refine ⟨k + 1, by omega, by go_num, ?_, ?_, ?_, _, HF1X.out.set k _, fun i hi => ?_⟩
          ·exact (HB5.out.grown HGH.out (by omega) (fun r e => by cases e; exact Z1 _)).setCell (p := ⟨w.1.size + 1, k, none⟩) (Nat.le_succ _) _
          ·simp [World.setCell]; omega
          ·rw [HPS.out, HSL.out, HTK.out, <- HST.out]
           exact HIJ.out.setOther (by show w.1.size ≠ w.1.size + 1; omega) _
          ·by_cases e : i = k
           ·subst e
            rw [if_pos rfl]
            exact hpv.kept (Z07 _ _ _) (fun g e => .inl (by cases e; exact Nat.lt_succ_self _))
           ·rw [if_neg e]
            exact ((HF2W.out i (by omega)).kept HGH.out (fun g e => .inl (by cases e; omega))).kept (Z07 _ _ _) (fun g e => .inl (by cases e; exact Nat.lt_succ_self _))
         case measure => simp [intOf]; omega
  ·obtain rfl : k = Gs.length := by omega
   have HI := Z0 hI
   clear hI hF1 hF2
   go_wp2_with fail
   go_ret
   exact ⟨rfl, hB, HI.out⟩
end Go.Proofs.YtlgajongmkhcnaaGreatDoor
namespace Go.Proofs.YtlgajongmkhcnaaGreatDoor
open Go.RowKit Go.Sort Go.Shelf
set_option linter.unusedVariables false
set_option maxRecDepth 100000
theorem Z7I {ls : List (Int × Int)} {gs : List PGrp} (hF : Forest ls gs) (hM : ∀ g, g < gs.length -> 0 < (Z0c gs g).lvl -> MOk (Z0b ls gs g)) : ∀ k, k <= gs.length -> ∀ h, h < gs.length -> 0 <= Z1z ls gs (Z0y ls gs gs.length) k h /\ Z1z ls gs (Z0y ls gs gs.length) k h < ((Z10 ls gs h).length : Int)
 | 0, _, h, hh => by
  show 0 <= (0 : Int) /\ (0 : Int) < _
  have := (Zbv hF h hh).2
  omega
 | k + 1, hk, h, hh => by
  rw [Z7J]
  unfold ZfG
  rw [List.take_length]
  by_cases hm : h ∈ Z04 gs (gs.length - 1 - k)
  ·obtain ⟨i, hi, rfl⟩ := List.mem_iff_getElem.1 hm
   rw [Z3A (Z1J _ _) hi]
   dsimp only
   have hg : gs.length - 1 - k < gs.length := by omega
   have hs := hF.sub _ hg _ hm
   have hl := (hF.lvl _ hh).1
   have e : (Z04 gs (gs.length - 1 - k)).map (fun h => (Z0y ls gs gs.length).getD h []) = Z0b ls gs (gs.length - 1 - k) := rfl
   rw [e]
   have hlt : i < (Z0b ls gs (gs.length - 1 - k)).length := by unfold Z0b; rw [Z7]; exact hi
   have := Z8T (mn := (Z2w ls gs (gs.length - 1 - k)).1) (cents := (Z2w ls gs (gs.length - 1 - k)).2) (P := Z1z ls gs (Z0y ls gs gs.length) k (gs.length - 1 - k)) (most := ((Z0y ls gs gs.length).getD (gs.length - 1 - k) []).getD (Z1z ls gs (Z0y ls gs gs.length) k (gs.length - 1 - k)).toNat (-1)) (hM _ hg (by omega)) hlt
   have e2 : (Z04 gs (gs.length - 1 - k)).getD i 0 = (Z04 gs (gs.length - 1 - k))[i] := by rw [Z2, Z3 hi]; rfl
   rw [Z97 hi, e2] at this
   exact ⟨Int.natCast_nonneg _, Int.ofNat_lt.2 this⟩
  ·rw [Z4z hm]
   exact Z7I hF hM k (by omega) h hh
theorem ZiE {l : List Nat} {f g : Nat -> Nat} (h : ∀ x ∈ l, f x <= g x) : (l.map f).sum <= (l.map g).sum := by
 induction l with
 | nil => exact Z1 _
 | cons a r ih =>
  simp only [List.map_cons, List.sum_cons]
  have := h a List.mem_cons_self
  have := ih (fun x hx => h x (List.mem_cons_of_mem _ hx))
  omega
theorem Zjs {ls : List (Int × Int)} {gs : List PGrp} (hF : Forest ls gs) (hc : ∀ l ∈ ls, l.2 <= 1000000) (hp : ∀ g, g < gs.length -> PassOk ls gs g) {g : Nat} (hg : g < gs.length) : qN ls gs g <= (Z0c gs g).items.length := by
 unfold qN
 by_cases h0 : (Z0c gs g).lvl = 0
 ·rw [if_pos h0]; exact Z1 _
 ·rw [if_neg h0, <- Z62 hF hg (by have := (hF.lvl g hg).1; omega)]
  refine ZiE (fun x hx => ?_)
  have hlt := hF.below g hg x hx
  have h1 := Z4E (hp x (by omega)).poss
  have h2 := (Z96 hF hc x (by omega)).l2
  omega
def Z2u (gs : List PGrp) (k u : Nat) : List Int := ((List.range k).filter (fun h => decide ((Z0c gs h).up = (u : Int)))).map Int.ofNat
theorem ZfA (gs : List PGrp) (u : Nat) : Z2u gs gs.length u = (Z04 gs u).map Int.ofNat := rfl
theorem Z8c (gs : List PGrp) (k u : Nat) : Z2u gs (k + 1) u = if (Z0c gs k).up = (u : Int) then Z2u gs k u ++ [(k : Int)] else Z2u gs k u := by
 unfold Z2u
 rw [List.range_succ, List.filter_append, ZD]
 by_cases e : (Z0c gs k).up = (u : Int)
 ·rw [if_pos e, List.filter_cons_of_pos (by simpa using e), List.filter_nil]; rfl
 ·rw [if_neg e, List.filter_cons_of_neg (by simpa using e), List.filter_nil, List.map_nil, List.append_nil]
theorem Zfz (gs : List PGrp) (k u : Nat) : (Z2u gs k u).length <= k := by
 unfold Z2u
 rw [Z7]
 have := List.length_filter_le (fun h => decide ((Z0c gs h).up = (u : Int))) (List.range k)
 rwa [List.length_range] at this
theorem RowJ.of_rowI {w : World} {base : Nat} {v : Value} {zs : List Int} (h : w.ownsRow base 3 1 v zs.length (zs.map (Value.int .i64))) : RowJ w base v zs := by
 obtain ⟨h1, h2 | ⟨g, cap, cur, hv, hb, hg, _, _, _, ht⟩⟩ := h
 ·obtain rfl := List.length_eq_zero_iff.1 h2.2
  rw [h2.1]
  exact RowJ.nil _ _ _ _
 ·refine ⟨_, cap, hv, fun _ => ⟨g, 0, cur, rfl, hb, hg, fun i hi => ?_⟩⟩
  rw [Nat.mul_one] at ht
  have : (cur.toList.take zs.length)[i]? = (zs.map (Value.int .i64))[i]? := by rw [ht]
  rw [List.getElem?_take_of_lt hi, List.getElem?_map, Z3 hi, Array.getElem?_toList] at this
  rw [Nat.zero_add]; exact this
structure BelF (w : World) (base BB n : Nat) (G : Nat -> List Int) (F : Nat -> Value) : Prop where
 row : w.rowIs BB 35 n F
 own : ∀ u, u < n -> w.ownsRow base 3 1 (F u) (G u).length ((G u).map (Value.int .i64))
 apart : ∀ u, u < n -> ∀ u', u' < n -> u ≠ u' -> ∀ b, (F u).ownBlock = some b -> (F u').ownBlock ≠ some b
theorem BelF.below {w w' : World} {base BB n : Nat} {G : Nat -> List Int} {F : Nat -> Value} (h : BelF w base BB n G F) (hb : Below w.1.size w w') : BelF w' base BB n G F :=
 ⟨Z0U h.row hb h.row.lt, fun u hu => (h.own u hu).kept (Z0a hb) (by
  cases (F u).ownBlock with
  | none => exact .inl rfl
  | some b => exact .inr (by simp)), h.apart⟩
theorem ZaJ {w : World} {base : Nat} {v : Value} {zs : List Value} {n : Nat} (h : w.ownsRow base 3 1 v n zs) {b : Nat} (hb : v.ownBlock = some b) : base <= b /\ b < w.1.size := h.lt b hb
theorem BelF.put {w w1 : World} {base BB n : Nat} {G : Nat -> List Int} {F : Nat -> Value} (h : BelF w base BB n G F) {u : Nat} (hu : u < n) (x : Int) (hBB : BB < base) {gg cap : Nat}
 (hown : w1.ownsRow base 3 1 (.slice (some ⟨gg, 0, none⟩) ((G u).length + 1) cap) ((G u).length + 1) ((G u).map (Value.int .i64) ++ [.int .i64 x])) (hg : w.grownBy w1 (F u).ownBlock) (hat : (F u).ownBlock = some gg \/ w.1.size <= gg) :
 BelF (w1.setCell ⟨BB, u, none⟩ (.slice (some ⟨gg, 0, none⟩) ((G u).length + 1) cap)) base BB n (fun i => if i = u then G u ++ [x] else G i) (fun i => if i = u then .slice (some ⟨gg, 0, none⟩) ((G u).length + 1) cap else F i) := by
 have hrow : w1.rowIs BB 35 n F := h.row.of_block (hg.block BB h.row.lt (fun e => by
  have := (ZaJ (h.own u hu) e.symm).1
  omega))
 have hkeep : ∀ i, i < n -> i ≠ u -> w1.ownsRow base 3 1 (F i) (G i).length ((G i).map (Value.int .i64)) := fun i hi hne => (h.own i hi).kept hg (by
  cases hb : (F i).ownBlock with
  | none => exact .inl rfl
  | some b =>
   refine .inr (fun e => ?_)
   exact h.apart i hi u hu hne b hb e.symm)
 have hset : ∀ {v : Value} {k : Nat} {zs : List Value}, w1.ownsRow base 3 1 v k zs -> (w1.setCell ⟨BB, u, none⟩ (.slice (some ⟨gg, 0, none⟩) ((G u).length + 1) cap)).ownsRow base 3 1 v k zs := fun {v k zs} ho => ho.kept (Z07 _ _ _) (by
  cases hb : v.ownBlock with
  | none => exact .inl rfl
  | some b =>
   refine .inr (fun e => ?_)
   injection e with e
   have := (ho.lt b hb).1
   have : b = BB := e
   omega)
 refine ⟨hrow.set u _, fun i hi => ?_, fun i hi j hj hij b hb => ?_⟩
 ·try dsimp only
  by_cases e : i = u
  ·subst e
   rw [if_pos rfl, if_pos rfl]
   have := hset hown
   rw [ZC, ZD]
   exact this
  ·rw [if_neg e, if_neg e]
   exact hset (hkeep i hi e)
 ·try dsimp only at hb
  try dsimp only
  by_cases e : i = u
  ·subst e
   rw [if_pos rfl] at hb
   rw [if_neg (fun h => hij h.symm)]
   intro hc
   have hgb : gg = b := by injection hb
   subst hgb
   rcases hat with h1 | h1
   ·exact h.apart i hi j hj hij gg h1 hc
   ·have := (ZaJ (h.own j hj) hc).2
    omega
  ·rw [if_neg e] at hb
   by_cases e2 : j = u
   ·subst e2
    rw [if_pos rfl]
    intro hc
    have hgb : gg = b := by injection hc
    subst hgb
    rcases hat with h1 | h1
    ·exact h.apart i hi j hj hij gg hb h1
    ·have := (ZaJ (h.own i hi) hb).2
     omega
   ·rw [if_neg e2]
    exact h.apart i hi j hj hij b hb
theorem BelF.nil {w : World} {base BB n : Nat} (h : w.rowIs BB 35 n (fun _ => .slice none 0 0)) : BelF w base BB n (fun _ => []) (fun _ => .slice none 0 0) :=
 ⟨h, fun u _ => World.ownsRow_nil _ _ _ _, fun u _ u' _ _ b hb => by cases hb⟩
theorem TreeW.put {w : World} {T BB TB PB base : Nat} {v vg : Value} {Gs : List Grp} {tabs : Nat -> List Int} {m : Nat} {ps : List Int} (h : TreeW w T BB TB PB base v vg Gs tabs m ps) (hm : m < Gs.length) {val : Value} (hv : RowJ w base val (tabs m)) (hgr : RdGrps (w.setCell ⟨TB, m, none⟩ val) vg Gs) :
 TreeW (w.setCell ⟨TB, m, none⟩ val) T BB TB PB base v vg Gs tabs (m + 1) ps := by
 obtain ⟨l1, l2, l3, l4, l5⟩ := h.lt
 obtain ⟨n1, n2, n3, n4, n5, n6⟩ := h.ne
 obtain ⟨fB, f1, f2⟩ := h.bl
 obtain ⟨fT, k1, k2⟩ := h.tb
 have hk : ∀ {u : Value} {zs : List Int}, RowJ w base u zs -> RowJ (w.setCell ⟨TB, m, none⟩ val) base u zs := fun {u zs} hr => hr.kept (Z07 _ _ _) (fun g e => .inl (by injection e with e; subst e; exact l3))
 refine ⟨(ZA _ _ _ _ n2).trans h.tr, ⟨fB, f1.setOther n4 _, fun g hg => hk (f2 g hg)⟩, ⟨_, k1.set m val, fun g hg => ?_⟩, h.pv.setOther (fun e => n6 e.symm) _, h.pl, ⟨l1, l2, l3, l4, by simpa [World.setCell] using l5⟩, h.ne, hgr⟩
 by_cases e : g = m
 ·subst e
  rw [if_pos rfl]
  exact hk hv
 ·rw [if_neg e]
  exact hk (k2 g (by omega))
theorem TreeW.pass {w w' : World} {T BB TB PB base : Nat} {v vg : Value} {Gs : List Grp} {tabs : Nat -> List Int} {m : Nat} {ps ps' : List Int} (h : TreeW w T BB TB PB base v vg Gs tabs m ps) (hg : w.grownBy w' (some PB)) (hp : IntsAt w' PB ps') (hl : ps'.length = Gs.length) (hgr : RdGrps w' vg Gs) :
 TreeW w' T BB TB PB base v vg Gs tabs m ps' := by
 obtain ⟨l1, l2, l3, l4, l5⟩ := h.lt
 obtain ⟨n1, n2, n3, n4, n5, n6⟩ := h.ne
 obtain ⟨fB, f1, f2⟩ := h.bl
 obtain ⟨fT, k1, k2⟩ := h.tb
 have hk : ∀ {u : Value} {zs : List Int}, RowJ w base u zs -> RowJ w' base u zs := fun {u zs} hr => hr.kept hg (fun g e => .inl (by injection e with e; subst e; exact l4))
 exact ⟨(hg.block T (by omega) (fun e => n3 (by injection e))).trans h.tr, ⟨fB, f1.of_block (hg.block BB (by omega) (fun e => n5 (by injection e))), fun g hg => hk (f2 g hg)⟩, ⟨fT, k1.of_block (hg.block TB (by omega) (fun e => n6 (by injection e))), fun g hg => hk (k2 g hg)⟩,
  hp, hl, ⟨l1, l2, l3, l4, Nat.le_trans l5 hg.size⟩, h.ne, hgr⟩
theorem Z7Q {m : Mai} (h : Z21 m = true) : (Z06 m.ps).length <= 2000 /\ ∀ c ∈ Z06 m.ps, Z0C c = true := by
 unfold Z21 at h
 simp only [ZF, decide_eq_true_eq] at h
 have hp : ∀ (l : List Pce) (b : Int), ZbR b l = true -> ∀ p ∈ l, Z0C p.code = true := by
  intro l
  induction l with
  | nil => intro b _ p hp; cases hp
  | cons q r ih =>
   intro b hb p hp
   unfold ZbR at hb
   rw [ZF] at hb
   rcases List.mem_cons.1 hp with rfl | hp
   ·have h1 := hb.1
    unfold pcB at h1
    simp only [ZF] at h1
    exact h1.2.1
   ·exact ih _ hb.2 p hp
 refine ⟨by unfold Z06; rw [Z7]; exact h.2.2.1, fun c hc => ?_⟩
 unfold Z06 at hc
 obtain ⟨p, hp', rfl⟩ := List.mem_map.1 hc
 exact hp _ _ h.2.2.2 p hp'
end Go.Proofs.YtlgajongmkhcnaaGreatDoor
