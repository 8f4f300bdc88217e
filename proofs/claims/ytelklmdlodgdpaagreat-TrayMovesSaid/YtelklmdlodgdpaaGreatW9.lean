/-
  (*tree).divide.
-/
import Derived.Test.YtelklmdlodgdpaaGreatGG
import Derived.StillTailTactics
import Derived.Deep.OwnRows
import Derived.Deep.DeepCutAuto
import Derived.Laws.EntriesVeiled
import Derived.Deep.RegionHeld3
namespace Go.Proofs.YtelklmdlodgdpaaGreat
open Go.RowKit Go.Sort Go.Shelf Go.IntWalk
attribute [local go_sem] Oper.semAt_some
set_option linter.unusedVariables false
set_option maxRecDepth 100000
theorem snoc_ind {α : Type} {p : List α → Prop} (h0 : p []) (h1 : ∀ xs x, p xs → p (xs ++ [x])) : ∀ xs, p xs := by
  intro xs
  rw [← List.reverse_reverse xs]
  generalize xs.reverse = ys
  induction ys with
  | nil => exact h0
  | cons y ys ih => rw [List.reverse_cons]; exact h1 _ _ ih
/-- The rests that divide lays: each index has the slice that was stored last. -/
def restF (F0 : Nat → Value) {n : Nat} (xs : List (Yld n)) : Nat → Value := xs.foldl (fun F x j => if j = x.i then x.sl else F j) F0
theorem restF_snoc (F0 : Nat → Value) {n : Nat} (xs : List (Yld n)) (x : Yld n) : restF F0 (xs ++ [x]) = fun j => if j = x.i then x.sl else restF F0 xs j := by
  unfold restF; rw [List.foldl_append]; rfl
theorem restF_top (F0 : Nat → Value) {n : Nat} (N : Nat) (xs : List (Yld n)) (hn : n ≤ N) : restF F0 xs N = F0 N := by
  induction xs using snoc_ind with
  | h0 => rfl
  | h1 xs x ih =>
    rw [restF_snoc]
    dsimp only
    have := x.hi
    rw [if_neg (by omega)]
    exact ih
theorem restF_at (F0 : Nat → Value) {n : Nat} (xs : List (Yld n)) : (∀ k (h : k < xs.length), xs[k].i = n - 1 - k) → xs.length ≤ n → ∀ k (h : k < xs.length), restF F0 xs (n - 1 - k) = xs[k].sl := by
  induction xs using snoc_ind with
  | h0 => intro _ _ k h; exact absurd h (Nat.not_lt_zero _)
  | h1 xs x ih =>
    intro hi hl k hk
    rw [restF_snoc]
    dsimp only
    have hlen : (xs ++ [x]).length = xs.length + 1 := by simp
    have hx := hi xs.length (by omega)
    rw [List.getElem_append_right (Nat.le_refl _)] at hx
    simp only [Nat.sub_self, List.getElem_cons_zero] at hx
    by_cases e : k = xs.length
    · subst e
      rw [if_pos hx.symm, List.getElem_append_right (Nat.le_refl _)]
      simp
    · have hk' : k < xs.length := by omega
      rw [if_neg (by omega), List.getElem_append_left hk']
      refine ih (fun j hj => ?_) (by omega) k hk'
      have := hi j (by omega)
      rwa [List.getElem_append_left hj] at this
def rest0 (w : World) (n : Nat) : Nat → Value := fun j => if j = n then .slice (some ⟨w.heap.size + 1 + 1, 0, none⟩) 1 1 else .slice none 0 0
/-- What the range over merged keeps in divide. -/
structure DivI (w : World) (n : Nat) {m : Nat} (xs : List (Yld m)) (W : World) : Prop where
  row : W.rowIs w.heap.size 30 (n + 1) (restF (rest0 w n) xs)
  bx : Boxed W (w.heap.size + 1) 83 (.slice (some ⟨w.heap.size, 0, none⟩) (n + 1) (n + 1))
  one : IntsAt W (w.heap.size + 2) [0]
  bl : Below w.heap.size w W
theorem DivI.keep {w A B : World} {n m : Nat} {xs : List (Yld m)} {row : Option Nat} (h : DivI w n xs A) (hg : A.grownBy B row) (hr : ∀ r, row = some r → w.heap.size + 3 ≤ r) : DivI w n xs B := by
  have h1 := h.row.lt
  have h2 := h.bx.lt
  have h3 := h.one.lt
  refine ⟨h.row.of_block (hg.block _ h1 (fun e => by have := hr _ e.symm; omega)), h.bx.kept hg (fun e => by have := hr _ e.symm; omega), ?_, h.bl.trans ((Below.refl _ A).grown hg h.bl.size (fun r e => by have := hr r e; omega))⟩
  exact (hg.block _ h3 (fun e => by have := hr _ e.symm; omega)).trans h.one
theorem div_made {w Wp : World} {n m : Nat} (h : Wp = ((w.alloc (.cells ((madeCells #[.slice none 0 0] (n + 1)).setIfInBounds n (.slice (some ⟨w.heap.size + 1 + 1, 0, none⟩) 1 1)) 30)).alloc (.cells #[.slice (some ⟨w.heap.size, 0, none⟩) (n + 1) (n + 1)] 83)).alloc (.cells #[.int .i64 0] 3)) :
    DivI w n ([] : List (Yld m)) Wp ∧ Wp.heap.size = w.heap.size + 3 := by
  subst h
  refine ⟨⟨?_, ?_, ?_, ?_⟩, by simp⟩
  · refine World.rowIs.alloc (World.rowIs.alloc ?_ _) _
    refine ⟨_, alloc_new w _, by simp [madeCells], fun i hi => ?_⟩
    show _ = some (rest0 w n i)
    unfold rest0
    rw [Array.getElem?_setIfInBounds]
    by_cases e : i = n
    · subst e
      simp [madeCells]
    · rw [if_neg (fun h => e h.symm), if_neg e]
      simp [madeCells, hi, Nat.mod_one]
  · have := Boxed.new (w.alloc (.cells ((madeCells #[.slice none 0 0] (n + 1)).setIfInBounds n (.slice (some ⟨w.heap.size + 1 + 1, 0, none⟩) 1 1)) 30)) 83 (.slice (some ⟨w.heap.size, 0, none⟩) (n + 1) (n + 1))
    rw [show (w.alloc (.cells ((madeCells #[.slice none 0 0] (n + 1)).setIfInBounds n (.slice (some ⟨w.heap.size + 1 + 1, 0, none⟩) 1 1)) 30)).heap.size = w.heap.size + 1 by simp] at this
    exact this.alloc _
  · have := alloc_new ((w.alloc (.cells ((madeCells #[.slice none 0 0] (n + 1)).setIfInBounds n (.slice (some ⟨w.heap.size + 1 + 1, 0, none⟩) 1 1)) 30)).alloc (.cells #[.slice (some ⟨w.heap.size, 0, none⟩) (n + 1) (n + 1)] 83)) (.cells #[.int .i64 0] 3)
    simp only [World.size_alloc] at this
    exact this
  · exact (((Below.refl _ w).alloc (Nat.le_refl _) _).alloc (by simp) _).alloc (by simp; omega) _
theorem KC.setAt {Lb : Nat} {A : World} {c : Array Value} {fr : Nat × Nat} {a : Addr} (h : A.heap[Lb]? = some (.cells c 30 fr)) (ha : a.block = Lb) (u : Value) : KC Lb A (A.setCell a u) := by
  refine ⟨by simp [World.setCell], fun k c' t fr' hk hh => ?_⟩
  by_cases e : k = Lb
  · subst e
    rw [h] at hh
    injection hh with hh
    injection hh with _ hh _
    subst hh
    simp at hk
  · exact (Below.heap_setCell A a u k (by omega)).trans hh
theorem DivI.put {w A : World} {n m : Nat} {xs : List (Yld m)} (h : DivI w n xs A) (x : Yld m) : DivI w n (xs ++ [x]) (A.setCell ⟨w.heap.size, x.i, none⟩ x.sl) := by
  refine ⟨?_, ?_, ?_, h.bl.setCell (p := ⟨w.heap.size, x.i, none⟩) (Nat.le_refl _) _⟩
  · rw [restF_snoc]
    exact h.row.set x.i x.sl
  · exact (Below.heap_setCell A _ _ _ (by show w.heap.size + 1 ≠ w.heap.size; omega)).trans h.bx
  · exact h.one.setOther (by show w.heap.size + 2 ≠ w.heap.size; omega) _
/-- A postcondition that no panic meets. -/
def noPan (Q : Exit → Act → World → Prop) : Exit → Act → World → Prop := fun e a w => match e with
  | .panic _ => False
  | e => Q e a w
theorem noPan_le {Q : Exit → Act → World → Prop} : ∀ e a w, noPan Q e a w → Q e a w := fun e a w h => by
  cases e with
  | panic c => exact h.elim
  | _ => exact h
theorem box_after {W w6 : World} {t : TypeId} {v : Value} (h : Below (W.drew.alloc (.cells #[v] t)).heap.size (W.drew.alloc (.cells #[v] t)) w6) : Boxed w6 W.heap.size t v :=
  (h.block W.heap.size (by rw [World.size_alloc]; exact Nat.lt_succ_self _)).trans (Boxed.new W.drew t v)
theorem gb_then {w a b : World} {P : Nat} {row : Option Nat} (h : w.grownBy a (some P)) (k : a.grownBy b row) (hr : ∀ r, row = some r → r = P ∨ w.heap.size ≤ r) : w.grownBy b (some P) :=
  ⟨k.os.trans h.os, k.tape.trans h.tape, k.output.trans h.output, Nat.le_trans h.size k.size, fun i hi hne => (k.block i (Nat.lt_of_lt_of_le hi h.size) (fun e => by
    rcases hr i e.symm with h1 | h1
    · exact hne (by rw [h1])
    · omega)).trans (h.block i hi hne)⟩
theorem gb_of_below {w a : World} (P : Nat) (h : Below w.heap.size w a) : w.grownBy a (some P) := ⟨h.os, h.tape, h.output, h.size, fun k hk _ => h.block k hk⟩
theorem gb_setCell (a : World) (p : Addr) (u : Value) : a.grownBy (a.setCell p u) (some p.block) := ⟨rfl, rfl, rfl, by simp [World.setCell], fun k hk hne => Below.heap_setCell _ _ _ _ (fun e => hne (by rw [e]))⟩
theorem gb_drew (a : World) : a.grownBy a.drew none := ⟨rfl, rfl, rfl, Nat.le_refl _, fun _ _ _ => rfl⟩
theorem come_bound {mn cents P most : Int} {ts : List (List Int)} (hM : MOk ts) : ∀ k, k ≤ ts.length → (divTo mn cents P most ts k).1 + (mergedTo ts (ts.length - k)).length ≤ (mergedTo ts ts.length).length
  | 0, _ => by show 0 + _ ≤ _; rw [Nat.zero_add]; exact Nat.le_refl _
  | k + 1, hk => by
    have ih := come_bound hM (mn := mn) (cents := cents) (P := P) (most := most) k (by omega)
    have h1 := divP_lt (mn := mn) (cents := cents) (P := P) (most := most) hM (show k < ts.length by omega)
    have e : mergedTo ts (ts.length - k) = joinR (tabAt ts k) (mergedTo ts (ts.length - (k + 1))) := by
      rw [show ts.length - k = (ts.length - (k + 1)) + 1 by omega]
      show joinR (ts.getD (ts.length - 1 - (ts.length - (k + 1))) []) _ = _
      rw [show ts.length - 1 - (ts.length - (k + 1)) = k by omega]; rfl
    have hl : (mergedTo ts (ts.length - k)).length = (tabAt ts k).length + (mergedTo ts (ts.length - (k + 1))).length - 1 := by rw [e]; exact joinTo_len _ _ _
    have h2 := (hM.all (ts.length - (k + 1)) (by omega)).1
    rw [div_succ]
    dsimp only
    omega
set_option maxHeartbeats 16000000 in
theorem divide_any (T BB TB PB base : Nat) (v vg : Value) (Gs : List Grp) (tabs : Nat → List Int) (f : Nat → Int) (g : Nat) (ls : List Lev) (lv : Nat) (w : World)
    (h : TreeW w T BB TB PB base v vg Gs tabs Gs.length (rowF f Gs.length)) (hg : g < Gs.length) (hn : Gs.length ≤ 100000)
    (hr : RdLevs w v ls) (hlv : lv < ls.length) (hle : Gs[g].lvl = (lv : Int)) (hl6 : ls.length ≤ 1000) (hcents : 0 ≤ ls[lv].cents ∧ ls[lv].cents ≤ 1000000)
    (hM : MOk ((belowR (pOfs Gs) g).map tabs)) (hf : 0 ≤ f g ∧ f g < ((tabs g).length : Int)) (ht : (tabs g).length ≤ 5000) :
    Calls Tryz.prog 52 #[.pointer (some ⟨T, 0, none⟩), .int .i64 g] w fun e w' => (∃ r, e = .returned r) ∧ w.grownBy w' (some PB) ∧
      IntsAt w' PB (rowF (subF (belowR (pOfs Gs) g) (divP ls[lv].min ls[lv].cents (f g) ((tabs g).getD (f g).toNat (-1)) ((belowR (pOfs Gs) g).map tabs)) f (belowR (pOfs Gs) g).length) Gs.length) := by
  obtain ⟨l1, l2, l3, l4, l5⟩ := h.lt
  obtain ⟨n1, n2, n3, n4, n5, n6⟩ := h.ne
  obtain ⟨c0, c1, c2, c3, c4⟩ := h.tr.c
  have HTW := Lib.hid h
  have hgr := h.gr
  obtain ⟨ag, cg, rfl, hgr⟩ := hgr
  obtain ⟨gg, og, rfl, hgg, hcg⟩ := hgr (by omega)
  obtain ⟨gsv, hgsv, g0, g1, g2, g3⟩ := hcg g hg
  rw [hle] at g0
  obtain ⟨al, cl, rfl, hlr⟩ := hr
  obtain ⟨gl, ol, rfl, hgl, hcl⟩ := hlr (by omega)
  obtain ⟨lsv, hlsv, hat⟩ := hcl lv hlv
  obtain ⟨al', cl', rfl, _⟩ := hlsv
  obtain ⟨l, hl⟩ : ∃ l, l = ls[lv] := ⟨_, rfl⟩
  rw [← hl] at hat hcents ⊢
  obtain ⟨fB, f1, f2⟩ := h.bl
  have hrow := f2 g hg
  have cb := f1.cell hg
  have hsub : ∀ x ∈ belowR (pOfs Gs) g, x < Gs.length := fun x hx => by have := (mem_below.1 hx).1; rwa [pOfs_len] at this
  have hnd := below_nodup (pOfs Gs) g
  obtain ⟨subs, hS⟩ : ∃ s, s = belowR (pOfs Gs) g := ⟨_, rfl⟩
  have HP := Lib.hid (fun W (hW : Below w.heap.size w W) => parts_any T BB TB PB base _ _ Gs tabs Gs.length (rowF f Gs.length) g W (h.below hW) hg hn hsub (Nat.le_refl _))
  rw [← hS] at hrow hsub hnd hM HP ⊢
  clear hS h
  obtain ⟨aB, capB, hfb⟩ := hrow.len
  rw [hfb] at cb
  rw [List.length_map] at cb hfb
  have hsl := hM.n
  rw [List.length_map] at hsl
  have hmk := fun W => run_make_row' (P := Tryz.prog) 83 30 (.slice none 0 0) 24 Tryz.underlying83 Tryz.infoSl rfl .i64 .i64 (subs.length + 1) (by omega) (by omega) W
  simp only [Int.natCast_add, Int.natCast_one] at hmk
  obtain ⟨p, hp⟩ : ∃ p : Nat, f g = (p : Int) := ⟨_, (Int.toNat_of_nonneg hf.1).symm⟩
  rw [hp, Int.toNat_natCast]
  have HP0 := Lib.hid hp
  clear hp
  have hmc : (madeCells #[Value.slice none 0 0] (subs.length + 1))[subs.length]? = some (Value.slice none 0 0) := by simp [madeCells, Nat.mod_one]
  refine (callsIn_wide (n := 0)).1 ?_
  refine callsIn_of_wp_marks Tryz.func52 rfl trivial ?_ rfl
  simp only [Tryz.ntmps52, List.size_toArray, List.length_cons, List.length_nil, Nat.reduceAdd, Nat.reduceSub, Array.replicate_succ, Array.replicate_zero, List.push_toArray, List.append_toArray, List.nil_append, List.cons_append]
  gi_wp2_with (first
    | (refine ⟨trivial, rfl, ?_⟩; gi_at_call 79; refine (callsIn_wide.2 (HP.out _ (((((Below.refl _ w).alloc (Nat.le_refl _) _).alloc (by simp) _).alloc (by simp; omega) _)))).mono ?_; rintro e w1 ⟨ap, cp, rfl, hb1, hr1, hn1⟩)
    | (refine ⟨trivial, rfl, ?_⟩; gi_at_call 78; refine (callsIn_wide.2 (merged_any _ _ _ _)).mono ?_; rintro e w2 ⟨rfl, rfl⟩))
  rename_i K0 hK0
  clear c0 c1 c2 c3 c4 cb g1 g2 g3 hmk hmc f1 f2 HP hgr hcg hlr hcl
  obtain ⟨Wp, hWp⟩ : ∃ Wp, Wp = ((w.alloc (.cells ((madeCells #[.slice none 0 0] (subs.length + 1)).setIfInBounds subs.length (.slice (some ⟨w.heap.size + 1 + 1, 0, none⟩) 1 1)) 30)).alloc (.cells #[.slice (some ⟨w.heap.size, 0, none⟩) (subs.length + 1) (subs.length + 1)] 83)).alloc (.cells #[.int .i64 0] 3) := ⟨_, rfl⟩
  rw [← hWp] at hb1 hn1
  have hI := div_made (m := (subs.map tabs).length) hWp
  clear hWp
  obtain ⟨hI, hWz⟩ := hI
  have hB1 : Below w.heap.size w w1 := below_c hI.bl hI.bl.size hb1
  have hsz := hb1.size
  have hI1 := hI.keep (grown_none hb1) (fun r e => by cases e)
  obtain ⟨W0, hW0⟩ : ∃ W0 : World, W0 = w1.alloc (.cells #[.slice ap subs.length cp] 83) := ⟨_, rfl⟩
  have hbx : Boxed W0 w1.heap.size 83 (.slice ap subs.length cp) := by rw [hW0]; exact Boxed.new _ _ _
  have hWb : Below w1.heap.size w1 W0 := by rw [hW0]; exact (Below.refl _ w1).alloc (Nat.le_refl _) _
  have hW0z : W0.heap.size = w1.heap.size + 1 := by rw [hW0]; simp
  have hI0 : DivI w subs.length ([] : List (Yld (subs.map tabs).length)) W0 := hI1.keep (grown_none hWb) (fun r e => by cases e)
  have htl : (subs.map tabs).length = subs.length := List.length_map _
  have hR0 : RdRowsX w.heap.size W0 base (.slice ap subs.length cp) (subs.map tabs) := ⟨by have := hr1.below hWb; exact this, fun b off n c h0 e => by
    injection e with e _ _
    have := hn1 b off e
    omega⟩
  rw [← hW0]
  clear hW0 hWb hr1 hn1 hb1 hI hI1 hB1
  generalize w1.heap.size = B at hbx hW0z hsz ⊢
  have hMM := hM
  refine wpIn_rangeFunc_box (gf := 97) (lb := #[.pointer (some ⟨B, 0, none⟩)]) rfl Tryz.call97 (Bs := B) (by omega) (merged_stops B base w.heap.size _ (subs.map tabs) W0 hM hbx hR0 (by omega) (by omega)) (MergS.own _ _ _)
    (fun h k => h.trans k) (fun W l o o' hl hW hc => KC.put hW hc) (fun _ => rfl)
    (DivI w subs.length) (fun _ _ _ => False)
    (fun s A B' row h hg hr => h.keep hg (fun r e => by obtain ⟨h1, _⟩ := hr r e; omega))
    (fun c s A B' row h _ _ => h)
    (fun s A B' row h hg hr => h.keep hg (fun r e => by have := hr r e; omega))
    (fun c s A B' row h _ _ => h)
    hI0
    (fun x a' W => a' = { tmps := #[.pointer (some ⟨T, 0, none⟩), .int .i64 g, undef, undef, .slice aB subs.length capB, .pointer (some ⟨w.heap.size + 1, 0, none⟩), .int .i64 x.i, x.sl, undef, undef, undef, undef, undef, undef, undef, undef, undef, .pointer (some ⟨T, 0, none⟩), .pointer (some ⟨T, 0, none⟩), .pointer (some ⟨T, 2, none⟩), .slice (some ⟨BB, 0, none⟩) Gs.length Gs.length, .int .i64 g, .pointer (some ⟨BB, g, none⟩), .slice aB subs.length capB, .slice aB subs.length capB, .int .i64 subs.length, .int .i64 (subs.length + 1), .slice (some ⟨w.heap.size, 0, none⟩) (subs.length + 1) (subs.length + 1), .slice (some ⟨w.heap.size, 0, none⟩) (subs.length + 1) (subs.length + 1), .slice aB subs.length capB, .int .i64 subs.length, .slice (some ⟨w.heap.size + 1 + 1, 0, none⟩) 1 1, .pointer (some ⟨w.heap.size, subs.length, none⟩), .pointer (some ⟨T, 0, none⟩), .int .i64 g, .slice ap subs.length cp, .func (.func 97) #[] #[.pointer (some ⟨B, 0, none⟩)], .int .i64 x.i, x.sl, undef, undef, undef, undef, undef, undef, undef, undef, undef, undef, undef, undef, undef, undef, undef, undef, undef, undef, undef, undef, undef, undef, undef, undef, undef, undef, undef, undef, undef, undef, undef, undef, undef, undef, undef, undef, undef, undef, undef, undef, undef, undef, undef, undef, undef, undef, undef, undef, undef, undef, undef, undef, undef, undef, undef, undef, undef, undef, undef, undef, undef, undef, undef, undef, undef, undef, undef, undef, undef, undef, undef, undef, undef, undef, undef, undef, undef, undef, undef, undef, undef, undef], defers := [] })
    (fun x a' s A B' row h _ _ => h) ?assign ?body ?done ?stop
  case assign =>
    intro l pre x W K hi hK
    gi_wp2
    exact hK _ _ (KeepsFrom.refl _ _) (KC.refl _ _) hi rfl
  case body =>
    rintro l pre x a' W hI rfl
    have c1 := hI.bx.cell
    have c2 := hI.row.frozen x.i
    have c3 := hI.row.cell (i := x.i) (by have := x.hi; omega)
    have hxi : x.i < subs.length := by have := x.hi; omega
    obtain ⟨cur, hcur, _, _⟩ := hI.row
    have hkc := KC.setAt (a := ⟨w.heap.size, x.i, none⟩) hcur rfl x.sl
    have hput := hI.put x
    obtain ⟨xi, xhi, xa, xl, xc⟩ := x
    dsimp only [Yld.sl] at *
    gi_wp2_with fail
    exact ⟨(KeepsOthers.setCell _ _ _).from _, hkc, hput⟩
  case done =>
    rintro D xs W hD ⟨hS1, hS2⟩ hI hK
    have hTW := HTW.out.below hI.bl
    have hRest : ∀ j, j ≤ subs.length → RowJ W base (restF (rest0 w subs.length) xs j) (mergedTo (subs.map tabs) (subs.length - j)) := fun j hj => by
      by_cases e : j = subs.length
      · rw [e, restF_top _ _ _ (by omega), Nat.sub_self]
        have : rest0 w subs.length subs.length = .slice (some ⟨w.heap.size + 1 + 1, 0, none⟩) 1 1 := by unfold rest0; rw [if_pos rfl]
        rw [this]
        exact RowJ.of_ints hI.one (by omega) 1
      · have h1 := restF_at (rest0 w subs.length) xs (fun k h => (hS2 k h).1) (by omega) (subs.length - 1 - j) (by omega)
        rw [show (subs.map tabs).length - 1 - (subs.length - 1 - j) = j by omega] at h1
        have h2 := (hS2 (subs.length - 1 - j) (by omega)).2
        rw [show subs.length - 1 - j + 1 = subs.length - j by omega] at h2
        rw [h1]
        exact h2
    have HRest := Lib.hid hRest
    clear hRest hS1 hS2
    show K0 _ W
    refine hK0 _ _ (wpIn_wide.2 (wp_mono ?_ noPan_le))
    clear hK0
    have hp := HP0.out
    obtain ⟨l1, l2, l3, l4, l5⟩ := hTW.lt
    obtain ⟨c0, c1, c2, c3, c4⟩ := hTW.tr.c
    obtain ⟨fT, k1, k2⟩ := hTW.tb
    have hpv := hTW.pv
    have c5 := hpv.cell (i := g) (by rw [rowF_len]; exact hg)
    rw [rowF_get hg, hp] at c5
    have hgT := k2 g hg
    have ct := k1.cell hg
    rw [hp] at hf
    obtain ⟨agT, cgT, hgv, hgc⟩ := hgT
    obtain ⟨bgT, ogT, cugT, rfl, hbT, hhT, hccT⟩ := hgc (by omega)
    have hpl : p < (tabs g).length := by omega
    have ct2 : W.cell? ⟨bgT, ogT + p, none⟩ = some (.int .i64 ((tabs g).getD p (-1))) := by
      rw [cell_of_row W bgT (ogT + p) _ _ _ hhT, hccT p hpl, List.getD_eq_getElem?_getD, List.getElem?_eq_getElem hpl]; rfl
    have hbTl : bgT < W.heap.size := (Array.getElem?_eq_some_iff.1 hhT).1
    rw [hgv] at ct
    have g0' : W.cell? ⟨gg, og + g * 4, none⟩ = some (.int .i64 lv) := (hI.bl.cell (p := ⟨gg, og + g * 4, none⟩) hgg).trans g0
    obtain ⟨y0, y1, y2, y3, y4⟩ := hat.below hI.bl hgl
    obtain ⟨most, hmo⟩ : ∃ z, z = (tabs g).getD p (-1) := ⟨_, rfl⟩
    rw [← hmo] at ct2
    have HMO := Lib.hid hmo
    obtain ⟨n2, hn2⟩ : ∃ n, n = l.labs.length := ⟨_, rfl⟩
    rw [← hn2] at y2
    have HSV : Hid (∀ (p : Int) (W : World), Calls Tryz.prog 77 #[.agg #[.string l.name, .int .i64 l.pre, .slice al' n2 cl', .int .i64 l.min, .int .i64 l.cents], .int .i64 p] W fun e w' => e = .returned (.func (.func 96) #[] #[.pointer (some ⟨W.heap.size + 1, 0, none⟩), .pointer (some ⟨W.heap.size, 0, none⟩)]) ∧
        Below W.heap.size W w' ∧ SavAt w' (W.heap.size + 1) W.heap.size p l.min l.cents ∧ w'.heap.size = W.heap.size + 2) := fun p W => by
      refine (saver_any l (.slice al' n2 cl') p W).mono ?_
      rintro e w' ⟨rfl, rfl⟩
      exact ⟨rfl, ((Below.refl _ W).alloc (Nat.le_refl _) _).alloc (by simp) _, SavAt.new _ _ _ _, by simp⟩
    have HPV := Lib.hid hpv
    have HK2 := Lib.hid k2
    have HTT := Lib.hid hTW
    have HROW := Lib.hid hrow
    have HFB := Lib.hid hfb
    have HP := Lib.hid hp
    have HTL := Lib.hid htl
    have HLE := Lib.hid hle
    have HI := Lib.hid hI
    have hlvl : (lv : Int) < ls.length := by omega
    clear hmo hn2 hl hpv k2 hTW hrow hfb hp htl hle hI hgc hgv hccT hat g0
    dsimp only
    go_upto_region 7 with fail
    go_cut [8] from 43 to 64 (fun t wx => ∃ SB X Y, t = .pointer (some ⟨SB, 0, none⟩) ∧ Below W.heap.size W wx ∧ W.heap.size ≤ SB ∧ W.heap.size ≤ X ∧ W.heap.size ≤ Y ∧ SB < wx.heap.size ∧ X < wx.heap.size ∧ Y < wx.heap.size ∧ wx.cell? ⟨SB, 0, none⟩ = some (.func (.func 96) #[] #[.pointer (some ⟨X, 0, none⟩), .pointer (some ⟨Y, 0, none⟩)]) ∧ SavAt wx X Y p l.min l.cents)
    case first =>
      have hba : Below W.heap.size W (W.drew.alloc (.cells #[.nilFunc] 148)) := (Below.refl _ W).drew.alloc (Nat.le_refl _) _
      have hTl : T < W.heap.size := by omega
      have hPl : PB < W.heap.size := by omega
      have hgl3 : gl < W.heap.size := Nat.lt_of_lt_of_le hgl HI.out.bl.size
      have hgg3 : gg < W.heap.size := Nat.lt_of_lt_of_le hgg HI.out.bl.size
      have hk : ∀ w', Below W.heap.size W w' → w'.cell? ⟨T, 0, none⟩ = some (.slice (some ⟨gl, ol, none⟩) ls.length cl) ∧ w'.cell? ⟨T, 1, none⟩ = some (.slice (some ⟨gg, og, none⟩) Gs.length cg) ∧ w'.cell? ⟨T, 4, none⟩ = some (.slice (some ⟨PB, 0, none⟩) Gs.length Gs.length) ∧
          w'.cell? ⟨PB, g, none⟩ = some (.int .i64 p) ∧ w'.cell? ⟨gg, og + g * 4, none⟩ = some (.int .i64 lv) ∧ w'.cell? ⟨gl, ol + lv * 5, none⟩ = some (.string l.name) ∧ w'.cell? ⟨gl, ol + lv * 5 + 1, none⟩ = some (.int .i64 l.pre) ∧ w'.cell? ⟨gl, ol + lv * 5 + 2, none⟩ = some (.slice al' n2 cl') ∧
          w'.cell? ⟨gl, ol + lv * 5 + 3, none⟩ = some (.int .i64 l.min) ∧ w'.cell? ⟨gl, ol + lv * 5 + 4, none⟩ = some (.int .i64 l.cents) := fun w' hw =>
        ⟨(hw.cell (p := ⟨T, 0, none⟩) hTl).trans c0, (hw.cell (p := ⟨T, 1, none⟩) hTl).trans c1, (hw.cell (p := ⟨T, 4, none⟩) hTl).trans c4, (hw.cell (p := ⟨PB, g, none⟩) hPl).trans c5, (hw.cell (p := ⟨gg, og + g * 4, none⟩) hgg3).trans g0',
          (hw.cell (p := ⟨gl, ol + lv * 5, none⟩) hgl3).trans y0, (hw.cell (p := ⟨gl, ol + lv * 5 + 1, none⟩) hgl3).trans y1, (hw.cell (p := ⟨gl, ol + lv * 5 + 2, none⟩) hgl3).trans y2, (hw.cell (p := ⟨gl, ol + lv * 5 + 3, none⟩) hgl3).trans y3, (hw.cell (p := ⟨gl, ol + lv * 5 + 4, none⟩) hgl3).trans y4⟩
      have HK := Lib.hid hk
      clear hk
      go_region_held3 (fun w' => w'.cell? ⟨T, 0, none⟩ = some (.slice (some ⟨gl, ol, none⟩) ls.length cl) ∧ w'.cell? ⟨T, 1, none⟩ = some (.slice (some ⟨gg, og, none⟩) Gs.length cg) ∧ w'.cell? ⟨T, 4, none⟩ = some (.slice (some ⟨PB, 0, none⟩) Gs.length Gs.length) ∧
          w'.cell? ⟨PB, g, none⟩ = some (.int .i64 p) ∧ w'.cell? ⟨gg, og + g * 4, none⟩ = some (.int .i64 lv) ∧ w'.cell? ⟨gl, ol + lv * 5, none⟩ = some (.string l.name) ∧ w'.cell? ⟨gl, ol + lv * 5 + 1, none⟩ = some (.int .i64 l.pre) ∧ w'.cell? ⟨gl, ol + lv * 5 + 2, none⟩ = some (.slice al' n2 cl') ∧
          w'.cell? ⟨gl, ol + lv * 5 + 3, none⟩ = some (.int .i64 l.min) ∧ w'.cell? ⟨gl, ol + lv * 5 + 4, none⟩ = some (.int .i64 l.cents))
        (first
          | exact HK.out _ (Below.refl _ W).drew
          | exact HK.out _ hba
          | exact HK.out _ hB6
          | exact HK.out _ (hB6.alloc hB6.size _)
          | exact HK.out _ (hB6.setCell (p := ⟨W.heap.size, 0, none⟩) (Nat.le_refl _) _)
          | exact HK.out _ ((hB6.alloc hB6.size _).setCell (p := ⟨w6.heap.size, 0, none⟩) hB6.size _))
        (first
          | (go_at_call 77; refine (HSV.out _ _).mono ?_; rintro e w6 ⟨rfl, hb5, hs5, hz5⟩; have HZ5 := Lib.hid hz5; clear hz5; (have hB6 : Below W.heap.size W w6 := by (first | exact (Below.refl _ W).drew.trans (hb5.mono (Nat.le_refl _)) | exact hba.trans (hb5.mono (by simp)))); (try (have e6 := box_after hb5; have c6 := Boxed.cell e6; have f6 := Boxed.frozen e6; have E6 := Lib.hid e6; clear e6))))
      all_goals go_wp2_with fail
      · go_meet
        have hz := HZ5.out
        have hz2 : W.drew.heap.size = W.heap.size := rfl
        have hbz : Below w6.heap.size w6 (w6.alloc (.cells #[.func (.func 96) #[] #[.pointer (some ⟨W.heap.size + 1, 0, none⟩), .pointer (some ⟨W.heap.size, 0, none⟩)]] 148)) := (Below.refl _ w6).alloc (Nat.le_refl _) _
        exact ⟨w6.heap.size, W.heap.size + 1, W.heap.size, rfl, hB6.alloc hB6.size _, hB6.size, Nat.le_succ _, Nat.le_refl _, by simp, by simp; omega, by simp; omega, (Boxed.new w6 _ _).cell, SavAt.below hs5 hbz (by show W.heap.size + 1 < _; omega) (by show W.heap.size < _; omega)⟩
      · go_meet
        have hz := HZ5.out
        have hz2 : (W.alloc (.cells #[.nilFunc] 148)).drew.heap.size = W.heap.size + 1 := World.size_alloc _ _
        rw [hz2] at hz hs5
        exact ⟨W.heap.size, W.heap.size + 1 + 1, W.heap.size + 1, rfl, hB6.setCell (p := ⟨W.heap.size, 0, none⟩) (Nat.le_refl _) _, Nat.le_refl _, by omega, by omega, by simp [World.setCell]; omega, by simp [World.setCell]; omega, by simp [World.setCell]; omega, (Boxed.set _ E6.out).cell, SavAt.set hs5 (by show W.heap.size + 1 + 1 ≠ W.heap.size; omega) (by show W.heap.size + 1 ≠ W.heap.size; omega) _⟩
    case rest =>
      obtain ⟨W1, hW1⟩ : ∃ W1, W1 = wc := ⟨_, rfl⟩
      subst hW1
      obtain ⟨SB, X, Y, rfl, hBc, hs1, hs2, hs3, hs4, hs5, hs6, hsc, hsv⟩ := hcut
      have hTl : T < W.heap.size := by omega
      have hPl : PB < W.heap.size := by omega
      have hTBl : TB < W.heap.size := by omega
      have b3 := (hBc.cell (p := ⟨T, 3, none⟩) hTl).trans c3
      have b4 := (hBc.cell (p := ⟨T, 4, none⟩) hTl).trans c4
      have b5 := (hBc.cell (p := ⟨PB, g, none⟩) hPl).trans c5
      have bt := (hBc.cell (p := ⟨TB, g, none⟩) hTBl).trans ct
      have bt2 := (hBc.cell (p := ⟨bgT, ogT + p, none⟩) hbTl).trans ct2
      have HSCV := Lib.hid (And.intro hsc hsv)
      have HCC := Lib.hid (And.intro c0 (And.intro c1 (And.intro c3 c4)))
      clear hsc hsv c0 c1 c2 c3 c4 c5 ct ct2 g0' y0 y1 y2 y3 y4
      go_upto_region 8 with fail
      go_cut [9] from 65 to 80 (fun t wx => ∃ MB, t = .pointer (some ⟨MB, 0, none⟩) ∧ Below W1.heap.size W1 wx ∧ W1.heap.size ≤ MB ∧ MB < wx.heap.size ∧ wx.cell? ⟨MB, 0, none⟩ = some (.int .i64 most))
      case first =>
        have hk : ∀ w', Below W1.heap.size W1 w' → w'.cell? ⟨T, 3, none⟩ = some (.slice (some ⟨TB, 0, none⟩) Gs.length Gs.length) ∧ w'.cell? ⟨T, 4, none⟩ = some (.slice (some ⟨PB, 0, none⟩) Gs.length Gs.length) ∧
            w'.cell? ⟨PB, g, none⟩ = some (.int .i64 p) ∧ w'.cell? ⟨TB, g, none⟩ = some (.slice (some ⟨bgT, ogT, none⟩) (tabs g).length cgT) ∧ w'.cell? ⟨bgT, ogT + p, none⟩ = some (.int .i64 most) := fun w' hw =>
          ⟨(hw.cell (p := ⟨T, 3, none⟩) (by have := hBc.size; show T < _; omega)).trans b3, (hw.cell (p := ⟨T, 4, none⟩) (by have := hBc.size; show T < _; omega)).trans b4, (hw.cell (p := ⟨PB, g, none⟩) (by have := hBc.size; show PB < _; omega)).trans b5,
            (hw.cell (p := ⟨TB, g, none⟩) (by have := hBc.size; show TB < _; omega)).trans bt, (hw.cell (p := ⟨bgT, ogT + p, none⟩) (by have := hBc.size; show bgT < _; omega)).trans bt2⟩
        have HK := Lib.hid hk
        clear hk
        go_region_held3 (fun w' => w'.cell? ⟨T, 3, none⟩ = some (.slice (some ⟨TB, 0, none⟩) Gs.length Gs.length) ∧ w'.cell? ⟨T, 4, none⟩ = some (.slice (some ⟨PB, 0, none⟩) Gs.length Gs.length) ∧
            w'.cell? ⟨PB, g, none⟩ = some (.int .i64 p) ∧ w'.cell? ⟨TB, g, none⟩ = some (.slice (some ⟨bgT, ogT, none⟩) (tabs g).length cgT) ∧ w'.cell? ⟨bgT, ogT + p, none⟩ = some (.int .i64 most))
          (first
            | exact HK.out _ (Below.refl _ W1).drew
            | exact HK.out _ ((Below.refl _ W1).alloc (Nat.le_refl _) _).drew
            | exact HK.out _ ((Below.refl _ W1).drew.alloc (Nat.le_refl _) _))
          (fail)
        all_goals go_wp2_with fail
        go_meet
        exact ⟨W1.heap.size, rfl, ((Below.refl _ W1).alloc (Nat.le_refl _) _).drew, Nat.le_refl _, by simp, (Boxed.new W1 _ _).cell⟩
      case rest =>
        obtain ⟨MB, rfl, hBd, hm1, hm2, hmc⟩ := hcut
        obtain ⟨W2, hW2⟩ : ∃ W2, W2 = wc := ⟨_, rfl⟩
        subst hW2
        have hB2 : Below W.heap.size W W2 := hBc.trans (hBd.mono hBc.size)
        have hBw : Below w.heap.size w W2 := below_c HI.out.bl HI.out.bl.size hB2
        have hI2 := HI.out.keep (grown_none hB2) (fun r e => by cases e)
        have hIb := HI.out.bl.size
        have hB2s := hB2.size
        have hBcs := hBc.size
        have hBds := hBd.size
        have sc2 := (hBd.cell (p := ⟨SB, 0, none⟩) hs4).trans HSCV.out.1
        have sv2 := HSCV.out.2.below hBd hs5 hs6
        have t3 := (hB2.cell (p := ⟨T, 3, none⟩) hTl).trans HCC.out.2.2.1
        have t4 := (hB2.cell (p := ⟨T, 4, none⟩) hTl).trans HCC.out.2.2.2
        have hpv2 : IntsAt W2 PB (rowF f Gs.length) := HPV.out.below hB2 hPl
        have hD2 : W2.heap[D]? = some (.deferred (some [])) := (hB2.block D (Array.getElem?_eq_some_iff.1 hK).1).trans hK
        have hrow2 := HROW.out.below hBw
        have hk2 : ∀ g, g < Gs.length → RowJ W2 base (fT g) (tabs g) := fun g hg => (HK2.out g hg).below hB2
        have hr2 : ∀ j, j ≤ subs.length → RowJ W2 base (restF (rest0 w subs.length) xs j) (mergedTo (subs.map tabs) (subs.length - j)) := fun j hj => (HRest.out j hj).below hB2
        have kt : ∀ s, s < Gs.length → W2.cell? ⟨TB, s, none⟩ = some (fT s) := fun s hs => (hB2.cell (p := ⟨TB, s, none⟩) hTBl).trans (k1.cell hs)
        have H1 := Lib.hid sc2
        have H2 := Lib.hid sv2
        have H3 := Lib.hid (And.intro t3 t4)
        have H4 := Lib.hid hpv2
        have H5 := Lib.hid hrow2
        have H6 := Lib.hid hk2
        have H7 := Lib.hid hr2
        have H8 := Lib.hid kt
        have H9 := Lib.hid hmc
        have H10 := Lib.hid hI2
        have H11 := Lib.hid hD2
        have hM' := hM
        have HRG := Lib.hid (fun k hk => div_range (mn := l.min) (cents := l.cents) (P := (p : Int)) (most := most) hM' k hk)
        have HCB := Lib.hid (fun k hk => come_bound (mn := l.min) (cents := l.cents) (P := (p : Int)) (most := most) hM' k hk)
        have HDS := Lib.hid (fun k => div_succ l.min l.cents (p : Int) most (subs.map tabs) k)
        have HML := Lib.hid ((hM.all (subs.map tabs).length (Nat.le_refl _)).2.1)
        have HM := Lib.hid hM
        clear sc2 sv2 t3 t4 hpv2 hrow2 hk2 hr2 kt hmc hI2 hD2 b3 b4 b5 bt bt2 hK hM hM' k1
        go_wp2_with fail
        go_loopw [83] (fun i wr => ∃ k : Nat, k ≤ subs.length ∧ i = .int .i64 k ∧ W2.grownBy wr (some PB) ∧ IntsAt wr PB (rowF (subF subs (divP l.min l.cents p most (subs.map tabs)) f k) Gs.length) ∧
          Boxed wr W2.heap.size 3 (.int .i64 ((divTo l.min l.cents p most (subs.map tabs) k).1 : Nat)) ∧ Boxed wr (W2.heap.size + 1) 3 (.int .i64 (divTo l.min l.cents p most (subs.map tabs) k).2.1)) (fun i _ => subs.length - (intOf i).toNat)
        case atStart =>
          have hPl2 : PB < W2.heap.size := by omega
          have hb0 : Below W2.heap.size W2 (W2.alloc (.cells #[.int .i64 0] 3)) := (Below.refl _ W2).alloc (Nat.le_refl _) _
          have hba : Below W2.heap.size W2 ((W2.alloc (.cells #[.int .i64 0] 3)).alloc (.cells #[.int .i64 0] 3)) := hb0.alloc (by simp) _
          refine ⟨0, Nat.zero_le _, rfl, gb_of_below _ hba, ?_, ?_, ?_⟩
          · rw [subF_zero]; exact H4.out.below hba hPl2
          · exact (Boxed.new W2 3 (.int .i64 0)).alloc _
          · have := Boxed.new (W2.alloc (.cells #[.int .i64 0] 3)) 3 (.int .i64 0)
            rw [World.size_alloc] at this
            exact this
        case round =>
          obtain ⟨k, hk, rfl, hG, hPB, hCB, hVB⟩ := hrel
          have hPl2 : PB < W2.heap.size := by omega
          have hWs := hG.size
          by_cases hlt : k < subs.length
          · have hlt' : k < (subs.map tabs).length := by rw [HTL.out]; exact hlt
            have hml : ∀ j, j ≤ subs.length → 1 ≤ (mergedTo (subs.map tabs) (subs.length - j)).length ∧ (mergedTo (subs.map tabs) (subs.length - j)).length ≤ 5000 ∧ ∀ x ∈ mergedTo (subs.map tabs) (subs.length - j), -1 ≤ x ∧ x ≤ 1000000000000 := fun j hj => HM.out.all _ (by rw [HTL.out]; omega)
            have hrest := hml (k + 1) (by omega)
            have htab : tabAt (subs.map tabs) k = tabs subs[k] := by unfold tabAt; rw [List.getD_eq_getElem?_getD, List.getElem?_map, List.getElem?_eq_getElem hlt]; rfl
            have htm := HM.out.one _ (tab_mem hlt')
            have hsn := hsub _ (List.getElem_mem hlt)
            have hds := HDS.out k
            have hrg := HRG.out k (by omega)
            have hcb := HCB.out k (by omega)
            rw [HTL.out] at hcb
            have hcb0 := (hml k (by omega)).1
            have hdp : divP l.min l.cents p most (subs.map tabs) k = fewR (tabAt (subs.map tabs) k) (mergedTo (subs.map tabs) (subs.length - (k + 1))) (fitR l.min l.cents p most (divTo l.min l.cents p most (subs.map tabs) k).1 (divTo l.min l.cents p most (subs.map tabs) k).2.1) := by
              unfold divP
              rw [HTL.out, show subs.length - 1 - k = subs.length - (k + 1) by omega]
            have hqlt := divP_lt (mn := l.min) (cents := l.cents) (P := (p : Int)) (most := most) HM.out hlt'
            have hsf := subF_succ (divP l.min l.cents p most (subs.map tabs)) f hnd hlt
            rw [htab] at htm hdp hqlt hds
            obtain ⟨s, hs⟩ : ∃ s, s = subs[k] := ⟨_, rfl⟩
            have hrw := (H5.out.kept hG (fun g e => .inl (by cases e; exact l4)))
            rw [HFB.out] at hrw
            obtain ⟨aB', capB', hvB, hcB⟩ := hrw
            injection hvB with q1 q2 q3
            subst q1
            clear q2 q3
            obtain ⟨gb, ob, curb, rfl, hbb, hhb, hcb2⟩ := hcB (by rw [List.length_map]; omega)
            have e1 : wr.cell? ⟨gb, ob + k, none⟩ = some (.int .i64 (subs[k] : Int)) := by
              rw [cell_of_row wr gb (ob + k) _ _ _ hhb, hcb2 k (by rw [List.length_map]; exact hlt), List.getElem_map]; rfl
            rw [← hs] at htm hdp hqlt hds hsf hsn e1
            have e2 := hG.cell H3.out.1 (by intro e; cases e; exact n3 rfl)
            have e3 := hG.cell H3.out.2 (by intro e; cases e; exact n3 rfl)
            have e4 := hG.cell (H8.out s hsn) (by intro e; cases e; exact n6 rfl)
            have hTs := (H6.out s hsn).kept hG (fun g e => .inl (by cases e; exact l4))
            obtain ⟨as_, cs_, hfs, hcs⟩ := hTs
            have hTr : RdInts wr (fT s) (tabs s) := RowJ.rd (base := base) ⟨as_, cs_, hfs, hcs⟩
            rw [hfs] at e4 hTr
            obtain ⟨gs, os, curs, rfl, hbs, hhs, hccs⟩ := hcs (by omega)
            have hgs2 : gs < W2.heap.size := by
              obtain ⟨a9, c9, hv9, hc9⟩ := H6.out s hsn
              rw [hfs] at hv9
              injection hv9 with r1 _ _
              obtain ⟨g9, o9, cu9, r2, _, hh9, _⟩ := hc9 (by omega)
              rw [← r1] at r2
              injection r2 with r2
              injection r2 with r2 _
              rw [r2]
              exact (Array.getElem?_eq_some_iff.1 hh9).1
            have hR1 := (H7.out (k + 1) (by omega)).kept hG (fun g e => .inl (by cases e; exact l4))
            obtain ⟨ar, cr, hfr⟩ := hR1.len
            have hRr := hR1.rd
            have e5 := hG.cell (H10.out.row.cell (i := k + 1) (by omega)) (by show some w.heap.size ≠ some PB; intro e; injection e; omega)
            have e6 := hG.cell H10.out.bx.cell (by show some (w.heap.size + 1) ≠ some PB; intro e; injection e; omega)
            rw [hfr] at e5 hRr
            have hfit : FitAt wr SB W2.heap.size (W2.heap.size + 1) MB X Y l.min l.cents p ((divTo l.min l.cents p most (subs.map tabs) k).1 : Nat) (divTo l.min l.cents p most (subs.map tabs) k).2.1 most :=
              ⟨hG.cell H1.out (by show some SB ≠ some PB; intro e; injection e; omega), hCB.cell, hVB.cell, hG.cell H9.out (by show some MB ≠ some PB; intro e; injection e; omega),
                ⟨hG.cell H2.out.1 (by show some X ≠ some PB; intro e; injection e; omega), hG.cell H2.out.2.1 (by show some Y ≠ some PB; intro e; injection e; omega), hG.cell H2.out.2.2 (by show some Y ≠ some PB; intro e; injection e; omega)⟩⟩
            have hfew := few_any (tabs s) (mergedTo (subs.map tabs) (subs.length - (k + 1))) _ _ SB W2.heap.size (W2.heap.size + 1) MB X Y l.min l.cents p ((divTo l.min l.cents p most (subs.map tabs) k).1 : Nat) (divTo l.min l.cents p most (subs.map tabs) k).2.1 most wr hfit hTr hRr ⟨htm.1, htm.2.1⟩ ⟨hrest.1, hrest.2.1⟩ htm.2.2 hrest.2.2
              ⟨by omega, by omega⟩ ⟨by omega, by have := HML.out; rw [HTL.out] at this; omega⟩ hcents ⟨by omega, by omega⟩
            unfold fitV at hfew
            rw [← hdp] at hfew
            obtain ⟨q, hq⟩ : ∃ q, q = divP l.min l.cents p most (subs.map tabs) k := ⟨_, rfl⟩
            obtain ⟨ql, hql⟩ : ∃ z, z = (mergedTo (subs.map tabs) (subs.length - (k + 1))).length := ⟨_, rfl⟩
            obtain ⟨tl, htl2⟩ : ∃ z, z = (tabs s).length := ⟨_, rfl⟩
            obtain ⟨cm, hcm⟩ : ∃ z, z = (divTo l.min l.cents p most (subs.map tabs) k).1 := ⟨_, rfl⟩
            obtain ⟨sv, hsv⟩ : ∃ z, z = (divTo l.min l.cents p most (subs.map tabs) k).2.1 := ⟨_, rfl⟩
            obtain ⟨en, hen⟩ : ∃ z, z = ent (tabs s) q := ⟨_, rfl⟩
            have hen2 := ent_in (i := q) htm.2.2
            rw [← hq] at hfew hqlt hds hsf
            rw [← hen] at hds hen2
            have e7 : wr.cell? ⟨gs, os + q, none⟩ = some (.int .i64 en) := by
              rw [hen, cell_of_row wr gs (os + q) _ _ _ hhs, hccs q hqlt, ent_get hqlt]
            rw [← hcm] at hds hrg hcb
            rw [← hsv] at hds hrg
            rw [← hcm] at hCB
            rw [← hsv] at hVB
            rw [← hql] at e5 hfew
            rw [← htl2] at e4 hfew hqlt
            have hne1 : PB ≠ W2.heap.size := by omega
            have hne2 : PB ≠ W2.heap.size + 1 := by omega
            have d1 := hPB.cell (i := s) (by rw [rowF_len]; exact hsn)
            have d2 := hPB.free s
            have hcA : Boxed (wr.setCell ⟨PB, s, none⟩ (.int .i64 (q : Nat))) W2.heap.size 3 (.int .i64 (cm : Nat)) := (Below.heap_setCell _ _ _ _ (by show W2.heap.size ≠ PB; omega)).trans hCB
            have hvA : Boxed (wr.setCell ⟨PB, s, none⟩ (.int .i64 (q : Nat))) (W2.heap.size + 1) 3 (.int .i64 sv) := (Below.heap_setCell _ _ _ _ (by show W2.heap.size + 1 ≠ PB; omega)).trans hVB
            have hvB : Boxed ((wr.setCell ⟨PB, s, none⟩ (.int .i64 (q : Nat))).setCell ⟨W2.heap.size, 0, none⟩ (.int .i64 ((cm : Int) + (q : Int)))) (W2.heap.size + 1) 3 (.int .i64 sv) := (Below.heap_setCell _ _ _ _ (by show W2.heap.size + 1 ≠ W2.heap.size; omega)).trans hvA
            have hcB' := hcA.set (.int .i64 ((cm : Int) + (q : Int)))
            have hgsPB : gs ≠ PB := by omega
            have f3 : ((wr.setCell ⟨PB, s, none⟩ (.int .i64 (q : Nat))).setCell ⟨W2.heap.size, 0, none⟩ (.int .i64 ((cm : Int) + (q : Int)))).cell? ⟨gs, os + q, none⟩ = some (.int .i64 en) :=
              (World.cell?_of_block (w := wr) ((Below.heap_setCell _ _ _ _ (by show gs ≠ W2.heap.size; omega)).trans (Below.heap_setCell _ _ _ _ hgsPB))).trans e7
            have f1 := hcA.cell
            have f1' := hcA.frozen
            have f2 := hvB.cell
            have f2' := hvB.frozen
            have hPBs : IntsAt (wr.setCell ⟨PB, s, none⟩ (.int .i64 (q : Nat))) PB (rowF (subF subs (divP l.min l.cents p most (subs.map tabs)) f (k + 1)) Gs.length) := by
              have := hPB.set s (q : Int)
              rw [rowF_set _ hsn] at this
              rw [hsf]
              exact this
            have hGA : W2.grownBy (wr.setCell ⟨PB, s, none⟩ (.int .i64 (q : Nat))) (some PB) := gb_then hG (gb_setCell _ _ _) (fun r e => .inl (by cases e; rfl))
            have hGB : W2.grownBy ((wr.setCell ⟨PB, s, none⟩ (.int .i64 (q : Nat))).setCell ⟨W2.heap.size, 0, none⟩ (.int .i64 ((cm : Int) + (q : Int)))) (some PB) := gb_then hGA (gb_setCell _ _ _) (fun r e => .inr (by cases e; exact Nat.le_refl _))
            have HFIN := Lib.hid (And.intro (hPBs.setOther (a := ⟨W2.heap.size, 0, none⟩) hne1 (.int .i64 ((cm : Int) + (q : Int)))) (And.intro hGB (And.intro hcB' hvB)))
            have HFEW := Lib.hid hfew
            have HDSK := Lib.hid hds
            have hsvb : -6000 ≤ sv ∧ sv ≤ 6000000000000000 := by obtain ⟨r1, r2, r3⟩ := hrg; constructor <;> omega
            have hsum : -7000 ≤ sv + en ∧ sv + en ≤ 7000000000000000 := by constructor <;> omega
            have hwr : IntKind.i64.wrap (sv + en) = sv + en := IntWalk.i64_in _ (by omega)
            clear hrg
            have hcmq : cm + q ≤ 5000 + 5000 := by have := HML.out; rw [HTL.out] at this; omega
            clear hfew hds hsf hq hql htl2 hcm hsv hen hs hfs hfr hTr hRr hccs hhs hhb hcb2 hcB hcs hR1 hml htab hdp hfit hcA hvA hvB hcB' hPBs hGA hGB hPB hCB hVB e7 htm hrest hcb hcb0
            go_wp2_with (go_at_call 81; refine HFEW.out.mono ?_; rintro e w7 ⟨rfl, h7⟩; obtain rfl : wr = w7 := h7)
            generalize hXW : (wr.setCell ⟨PB, s, none⟩ (.int .i64 (q : Nat))).setCell ⟨W2.heap.size, 0, none⟩ (.int .i64 ((cm : Int) + (q : Int))) = XW at f2 f2' f3 HFIN ⊢
            clear hXW f1 f1'
            go_still_tail 6, (by kernel_rfl)
            change wpList _ _ _ _ _ XW.drew
            go_wp2_with fail
            all_goals
              go_roundw
              case rel =>
                obtain ⟨h1, h2, h3, h4⟩ := HFIN.out
                refine ⟨k + 1, by omega, by go_num, gb_then (gb_then h2 (gb_drew _) (fun r e => by cases e)) (gb_setCell _ _ _) (fun r e => .inr (by cases e; exact Nat.le_succ _)), IntsAt.setOther (w := World.drew _) h1 (a := ⟨W2.heap.size + 1, 0, none⟩) hne2 _, ?_, ?_⟩
                · rw [HDSK.out, Int.natCast_add]
                  exact (Below.heap_setCell _ _ _ _ (by show W2.heap.size ≠ W2.heap.size + 1; omega)).trans h3
                · rw [HDSK.out]
                  exact Boxed.set (W := World.drew _) _ h4
              case measure => simp [intOf]; omega
          · obtain rfl : k = subs.length := by omega
            have hKr : wr.heap[D]? = some (.deferred (some [])) := (hG.block D (Array.getElem?_eq_some_iff.1 H11.out).1 (by intro e; injection e; omega)).trans H11.out
            have HKR := Lib.hid hKr
            have HPB := Lib.hid hPB
            have HG := Lib.hid hG
            have HBW := Lib.hid hBw
            clear hKr hPB hCB hVB hG
            go_wp2_with fail
            refine ⟨by simp, .inl ⟨_, _, rfl, run_takeDeferred HKR.out, ?_⟩⟩
            refine ⟨_, results_none rfl _ _ _, ⟨_, rfl⟩, gb_then (gb_then (gb_of_below PB HBW.out) HG.out (fun r e => .inl (by cases e; rfl))) (grownBy_putObj' _ _ _) (fun r e => .inr (by cases e; omega)), ?_⟩
            rw [← HMO.out]
            exact ((grownBy_putObj' _ _ _).block PB HPB.out.lt (by intro e; injection e; omega)).trans HPB.out
  case stop =>
    rintro D c pre W hD hS hX hK
    exact hX.elim
end Go.Proofs.YtelklmdlodgdpaaGreat
