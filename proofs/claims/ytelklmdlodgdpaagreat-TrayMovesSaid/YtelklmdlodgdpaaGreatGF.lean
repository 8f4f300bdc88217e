import Derived.RangeFuncNested
import Derived.RangeFuncBound
import Derived.RangeFuncCalls
import Derived.RangeFuncLeaves
import Derived.Shelf.Abstract
import Derived.Shelf.RegionOpen
import Derived.WalkKit
import Derived.OwnWalkIn
import Derived.TacticsInMore
import Derived.LoopNIn
import Derived.LoopIn
import Derived.Test.YtelklmdlodgdpaaGreatW0
import Derived.Test.YtelklmdlodgdpaaGreatGD
/-! RF -/
namespace Go.Proofs.YtelklmdlodgdpaaGreat
open Go.RowKit Go.Shelf

/-- What holds stays while nothing but new blocks and the box Bs is written. -/
def Abide {β : Type} (Bs : Nat) (J : β → World → Prop) : Prop :=
  ∀ s A B row, J s A → World.grownBy A B row → (∀ r, row = some r → r = Bs) → J s B
/-- The contract of an iterator that writes the box Bs alone. -/
def IterB {α : Type} (P : Program) (gf : Nat) (lb : Array Value) (encs : α → Array Value) (Kp : World → World → Prop) (S : List α → World → Prop) (Sp : List α → Prop) (Bs : Nat) (w : World) : Prop :=
  ∀ (l : Nat) (J Jx : List α → World → Prop) (W : World), Below w.heap.size w W → Abide Bs J → Abide Bs Jx →
    (∀ pre x W1, J pre W1 → YieldAt Fence.wide 0 P l (encs x) W1 fun e W' =>
      (e = .returned (.bool true) ∧ J (pre ++ [x]) W' ∧ Kp W1 W') ∨ (e = .returned (.bool false) ∧ Jx (pre ++ [x]) W')) →
    J [] W → CallsIn Fence.wide 0 P gf (#[.func (.yield l) #[] #[]] ++ lb) W fun e W' => (∃ v, e = .returned v) ∧ ((∃ xs, S xs W' ∧ J xs W') ∨ ∃ pre, Sp pre ∧ Jx pre W')

theorem grown_other {A B : World} {row : Option Nat} {Bs k : Nat} {o : Obj} (hg : A.grownBy B row) (hr : ∀ r, row = some r → r = Bs) (hk : A.heap[k]? = some o) (hne : k ≠ Bs) : B.heap[k]? = some o :=
  (hg.block k (Array.getElem?_eq_some_iff.1 hk).1 (fun e => hne (hr k e.symm))).trans hk

/-- The book-keeping of a loop: its record and its deferred calls. -/
def Kept (D : Nat) (lp : Loop) (W : World) : Prop := W.heap[D + 1]? = some (.loop lp) ∧ W.heap[D]? = some (.deferred (some []))

theorem Kept.grown {D Bs : Nat} {lp : Loop} {A B : World} {row : Option Nat} (h : Kept D lp A) (hB : Bs < D) (hg : A.grownBy B row) (hr : ∀ r, row = some r → r = Bs) : Kept D lp B :=
  ⟨grown_other hg hr h.1 (by omega), grown_other hg hr h.2 (by omega)⟩
theorem Kept.put {D : Nat} {lp lp' : Loop} {W : World} (h : Kept D lp W) : Kept D lp' (W.putObj (D + 1) (.loop lp')) :=
  ⟨World.putObj_heap_same (Array.getElem?_eq_some_iff.1 h.1).1, (World.putObj_heap_other (by omega)).trans h.2⟩
theorem Kept.keeps {D : Nat} {lp : Loop} {W W' : World} (h : Kept D lp W) (hk : KeepsFrom D W W') : Kept D lp W' :=
  ⟨hk.same _ _ (by omega) h.1 rfl, hk.same _ _ (Nat.le_refl _) h.2 rfl⟩

theorem wpIn_rangeFunc_box {P : Program} {α : Type} {g : Operand} {ps : Array Tmp} {assign body : Code} {Q : Exit → Act → World → Prop} {a : Act} {w : World}
    {gf : Nat} {lb : Array Value} (hg : a.eval g = .func (.func gf) #[] lb) (eg : ∀ args w, (callFunc gf args).run P w = .ok (.enter gf args) w)
    {encs : α → Array Value} {Kp : World → World → Prop} {S : List α → World → Prop} {Sp : List α → Prop} {Bs : Nat} (hBs : Bs < w.heap.size) (hseq : IterB P gf lb encs Kp S Sp Bs w)
    (hSo : OwnFrom w.heap.size S) (hKt : ∀ {A B C : World}, Kp A B → Kp B C → Kp A C) (hKb : ∀ (W : World) (l : Nat) (o o' : Obj), w.heap.size ≤ l → W.heap[l]? = some o → o.isCells = false → Kp W (W.putObj l o')) (hps : ∀ x, (encs x).size = ps.size)
    (I : List α → World → Prop) (Ix : Code → List α → World → Prop) (hI : OwnFrom w.heap.size I) (hIx : ∀ c, OwnFrom w.heap.size (Ix c)) (hIb : Abide Bs I) (hIxb : ∀ c, Abide Bs (Ix c)) (h0 : I [] w)
    (Ax : α → Act → World → Prop) (hAx : ∀ x a', OwnFrom w.heap.size (fun (_ : Unit) W => Ax x a' W))
    (hassign : ∀ (l : Nat) (pre : List α) (x : α) (W : World) (K : Act → World → Prop), I pre W → (∀ a' W', KeepsFrom w.heap.size W W' → Kp W W' → I pre W' → Ax x a' W' → K a' W') →
      assign.wpIn (Fence.wide.inRound l) 0 P (Exit.then K (fun _ _ _ => False)) { tmps := (ps.zip (encs x)).foldl (fun t (p, v) => t.setIfInBounds p v) a.tmps, defers := [] } W)
    (hbody : ∀ (l : Nat) (pre : List α) (x : α) (a' : Act) (W : World), I pre W → Ax x a' W → body.wpIn (Fence.wide.inRound l) 0 P (ownPostG w.heap.size Kp I Ix (pre ++ [x]) W) a' W)
    (hdone : ∀ (D : Nat) (xs : List α) (W : World), w.heap.size ≤ D → S xs W → I xs W → W.heap[D]? = some (.deferred (some [])) → Q .normal { a with defers := { target := .collected D, args := #[] } :: a.defers } W)
    (hstop : ∀ (D : Nat) (c : Code) (pre : List α) (W : World), w.heap.size ≤ D → Sp pre → Ix c pre W → W.heap[D]? = some (.deferred (some [])) → c.wpIn Fence.wide 0 P Q { a with defers := { target := .collected D, args := #[] } :: a.defers } W) :
    (Code.rangeFunc g ps assign body).wpIn Fence.wide 0 P Q a w := by
  refine wpIn_rangeFunc ?_
  intro fn hfn
  rw [show (Fence.wide).round = none from rfl]
  generalize hD : w.heap.size = D at *
  let rec0 : LoopState → Option Code → Loop := fun st pe => { state := st, pending := pe, fn, tmps := a.tmps, params := ps, assign, body, defers := D }
  have hent := run_enterLoop_outer (P := P) (w := w) fn a.tmps ps assign body
  rw [hD] at hent
  generalize hW1 : (w.alloc (.deferred (some []))).alloc (.loop { state := .ready, pending := none, fn, tmps := a.tmps, params := ps, assign, body, defers := D }) = W1 at hent
  have hK1 : Kept D (rec0 .ready none) W1 := by
    rw [← hW1]
    constructor
    · have := World.alloc_heap_new (w.alloc (.deferred (some []))) (.loop (rec0 .ready none))
      rw [World.size_alloc, hD] at this
      exact this
    · have := (Below.heap_alloc (w.alloc (.deferred (some []))) (.loop (rec0 .ready none)) w.heap.size (by simp)).trans (World.alloc_heap_new w _)
      rw [hD] at this
      exact this
  have hI1 : I [] W1 := by rw [← hW1]; exact hI.alloc _ (hI.alloc _ h0)
  have hb1 : Below w.heap.size w W1 := by rw [← hW1]; exact ((Below.refl _ w).alloc (Nat.le_refl _) _).alloc (by simp) _
  refine ⟨D + 1, _, W1, { target := .fn (.func gf) lb, args := #[.func (.yield (D + 1)) #[] #[]] }, W1, gf, #[.func (.yield (D + 1)) #[] #[]] ++ lb, W1, hent, ?_, ?_, ?_, ?_, ?_⟩
  · simp only [resolve, hg]
    simp [go_sem]
  · intro f' _; trivial
  · simp [invoke, go_sem, eg]
  · intro h; cases h
  refine (hseq (D + 1) (fun pre W => I pre W ∧ Kept D (rec0 .ready none) W) (fun pre W => ∃ c, Ix c pre W ∧ Kept D (rec0 .done (some c)) W) W1 hb1
    (fun s A B row hs hgr hr => ⟨hIb s A B row hs.1 hgr hr, hs.2.grown hBs hgr hr⟩)
    (fun s A B row hs hgr hr => by obtain ⟨c, hc, hk⟩ := hs; exact ⟨c, hIxb c s A B row hc hgr hr, hk.grown hBs hgr hr⟩) ?_ ⟨hI1, hK1⟩).mono ?_
  · rintro pre x W ⟨hi, hk⟩
    have hy := run_yield (P := P) (args := encs x) hk.1 (hps x)
    refine ⟨fn, _, assign, body, hy, roundIn_of_wpIn hfn (hassign _ pre x W _ hi ?_)⟩
    intro a' Wa hkf hkp hia hax
    have hka := hk.keeps hkf
    refine ⟨_, run_beginRound hka.1 rfl, ?_⟩
    have hk2 : Kept D { rec0 .ready none with state := .busy } (Wa.putObj (D + 1) (.loop { rec0 .ready none with state := .busy })) := hka.put
    refine wpIn_mono (hbody _ pre x a' _ (hI.putObj _ hia (by omega) hka.1 rfl) ((hAx x a').putObj (s := ()) _ hax (by omega) hka.1 rfl)) ?_
    have hkb : Kp W (Wa.putObj (D + 1) (.loop { rec0 .ready none with state := .busy })) := hKt hkp (hKb _ _ _ _ (by omega) hka.1 rfl)
    rintro e a3 W3 hp
    cases e with
    | normal =>
      have hk3 := hk2.keeps hp.1
      exact ⟨_, _, run_endRound (P := P) none hk3.1, .inl ⟨rfl, ⟨hI.putObj _ hp.2.2 (by omega) hk3.1 rfl, hk3.put⟩, hKt hkb (hKt hp.2.1 (hKb _ _ _ _ (by omega) hk3.1 rfl))⟩⟩
    | ret => have hk3 := hk2.keeps hp.1; exact ⟨_, _, run_endRound (P := P) (some .ret) hk3.1, .inr ⟨rfl, .ret, (hIx _).putObj _ hp.2 (by omega) hk3.1 rfl, hk3.put⟩⟩
    | exit id => have hk3 := hk2.keeps hp.1; exact ⟨_, _, run_endRound (P := P) (some (.exit id)) hk3.1, .inr ⟨rfl, .exit id, (hIx _).putObj _ hp.2 (by omega) hk3.1 rfl, hk3.put⟩⟩
    | goto t => have hk3 := hk2.keeps hp.1; exact ⟨_, _, run_endRound (P := P) (some (.goto t)) hk3.1, .inr ⟨rfl, .goto t, (hIx _).putObj _ hp.2 (by omega) hk3.1 rfl, hk3.put⟩⟩
    | panic ch => exact hp.elim
    | outgrown => exact hp.elim
  · rintro e W2 ⟨⟨v, rfl⟩, (⟨xs, hS, hi, hk⟩ | ⟨pre, hSp, c, hi, hk⟩)⟩
    · exact ⟨none, _, run_endLoop (P := P) hk.1 (by simp [rec0]), hdone _ xs _ (Nat.le_refl _) (hSo.putObj _ hS (by omega) hk.1 rfl) (hI.putObj _ hi (by omega) hk.1 rfl) hk.put.2⟩
    · exact ⟨some c, _, run_endLoop (P := P) hk.1 (by simp [rec0]), hstop _ c pre _ (Nat.le_refl _) hSp ((hIx c).putObj _ hi (by omega) hk.1 rfl) hk.put.2⟩
end Go.Proofs.YtelklmdlodgdpaaGreat

/-! W2 -/
namespace Go.Proofs.YtelklmdlodgdpaaGreat
open Go.RowKit Go.Sort
set_option linter.unusedVariables false
set_option maxRecDepth 100000
theorem joinIn_len (i : Nat) (x : Int) (b : List Int) (k : Nat) (l : List Int) : (joinIn i x b k l).length = l.length := by
  induction k with
  | zero => rfl
  | succ k ih => rw [joinIn_succ]; dsimp only; split <;> simp [ih]
theorem joinTo_len (a b : List Int) (k : Nat) : (joinTo a b k).length = a.length + b.length - 1 := by
  induction k with
  | zero => simp [joinTo]
  | succ k ih => rw [joinTo_succ]; split <;> simp [ih, joinIn_len]
theorem ent_get {l : List Int} {i : Nat} (h : i < l.length) : ent l i = l[i] := by unfold ent; rw [List.getD_eq_getElem?_getD, List.getElem?_eq_getElem h]; rfl
set_option maxHeartbeats 8000000 in
theorem join_any (xs ys : List Int) (va vb : Value) (w : World) (hx : RdInts w va xs) (hy : RdInts w vb ys) (h1 : 1 ≤ xs.length) (h2 : 1 ≤ ys.length) (h3 : xs.length + ys.length ≤ 100000)
    (bx : ∀ x ∈ xs, -1 ≤ x ∧ x ≤ 1000000000000) (by_ : ∀ y ∈ ys, -1 ≤ y ∧ y ≤ 1000000000000) :
    Calls Tryz.prog 98 #[va, vb] w fun e w' => ∃ g, e = .returned (.slice (some ⟨g, 0, none⟩) (xs.length + ys.length - 1) (xs.length + ys.length - 1)) ∧ w.heap.size ≤ g ∧ IntsAt w' g (joinR xs ys) ∧ Below w.heap.size w w' := by
  obtain ⟨a, ca, rfl, hax⟩ := hx
  obtain ⟨b, cb, rfl, hby⟩ := hy
  obtain ⟨gx, ox, rfl, hgx, hcx⟩ := hax (by omega)
  obtain ⟨gy, oy, rfl, hgy, hcy⟩ := hby (by omega)
  have HX := Lib.hid hcx
  have HY := Lib.hid hcy
  have HBX := Lib.hid bx
  have HBY := Lib.hid by_
  clear hax hby hcx hcy bx by_
  obtain ⟨n, hn⟩ : ∃ n, n = xs.length + ys.length - 1 := ⟨_, rfl⟩
  rw [← hn]
  have hni : ((xs.length : Int) + (ys.length : Int) - 1) = (n : Int) := by omega
  have HNI := Lib.hid hni
  clear hni
  go_enter Tryz.func98, Tryz.ntmps98
  go_wp2_with (go_at_call 76; rw [HNI.out]; refine (repeat_any (-1) n w.heap.size 0 1 _ (by omega) (by simp [go_sem]) (by simp)).mono ?_; rintro e w1 ⟨g, rfl, hg, hI, hb⟩)
  have hB : Below w.heap.size w w1 := below_ac (Below.refl _ w) (Nat.le_refl _) hb
  have hg' : w.heap.size ≤ g := by simp at hg; omega
  clear hg hb
  have hI0 : IntsAt w1 g (joinTo xs ys 0) := by unfold joinTo; rw [← hn]; exact hI
  clear hI
  go_loopw [20] (fun i wr => ∃ k : Nat, k ≤ xs.length ∧ i = .int .i64 k ∧ Below w.heap.size w wr ∧ IntsAt wr g (joinTo xs ys k)) (fun i _ => xs.length - (intOf i).toNat)
  case atStart => exact ⟨0, Nat.zero_le _, rfl, hB, hI0⟩
  case round =>
    clear hB hI0
    obtain ⟨k, hk, rfl, hB, hI⟩ := hrel
    by_cases hlt : k < xs.length
    · have c1 : wr.cell? ⟨gx, ox + k, none⟩ = some (.int .i64 xs[k]) := (hB.cell (p := ⟨gx, ox + k, none⟩) hgx).trans (HX.out k hlt)
      have bxk := HBX.out _ (List.getElem_mem hlt)
      have hs := joinTo_succ xs ys k
      have hlen := joinTo_len xs ys k
      rw [ent_get hlt] at hs
      obtain ⟨x, hx⟩ : ∃ x, x = xs[k] := ⟨_, rfl⟩
      rw [← hx] at c1 bxk hs
      clear hx
      by_cases hx1 : x = -1
      · rw [if_pos hx1] at hs
        have hq : (x == -1) = true := by simp [hx1]
        have HS := Lib.hid hs
        clear hs
        go_wp2_with fail
        go_roundw
        case rel => exact ⟨k + 1, by omega, by go_num, hB, by rw [HS.out]; exact hI⟩
        case measure => simp [intOf]; omega
      · rw [if_neg hx1] at hs
        have hq : (x == -1) = false := by simp [hx1]
        have HS := Lib.hid hs
        clear hs
        go_wp2_with fail
        obtain ⟨L, hL⟩ : ∃ L, L = joinTo xs ys k := ⟨_, rfl⟩
        rw [← hL] at hI hlen HS
        clear hL
        go_loopw [29] (fun j wq => ∃ m : Nat, m ≤ ys.length ∧ j = .int .i64 m ∧ Below w.heap.size w wq ∧ IntsAt wq g (joinIn k x ys m L)) (fun j _ => ys.length - (intOf j).toNat)
        case atStart => exact ⟨0, Nat.zero_le _, rfl, hB, hI⟩
        case round =>
          clear hB hI c1
          obtain ⟨m, hm, rfl, hB, hI⟩ := hrel
          by_cases hltm : m < ys.length
          · have c2 : wr.cell? ⟨gy, oy + m, none⟩ = some (.int .i64 ys[m]) := (hB.cell (p := ⟨gy, oy + m, none⟩) hgy).trans (HY.out m hltm)
            have byk := HBY.out _ (List.getElem_mem hltm)
            have hs := joinIn_succ k x ys m L
            have hlen2 := joinIn_len k x ys m L
            dsimp only at hs
            rw [ent_get hltm] at hs
            obtain ⟨y, hy⟩ : ∃ y, y = ys[m] := ⟨_, rfl⟩
            rw [← hy] at c2 byk hs
            clear hy
            by_cases hy1 : y = -1
            · rw [if_pos hy1] at hs
              have hq2 : (y != -1) = false := by simp [hy1]
              have HS2 := Lib.hid hs
              clear hs
              go_wp2_with fail
              go_roundw
              case rel => exact ⟨m + 1, by omega, by go_num, hB, by rw [HS2.out]; exact hI⟩
              case measure => simp [intOf]; omega
            · rw [if_neg hy1] at hs
              have hq2 : (y != -1) = true := by simp [hy1]
              have HS2 := Lib.hid hs
              clear hs
              obtain ⟨M, hM⟩ : ∃ M, M = joinIn k x ys m L := ⟨_, rfl⟩
              rw [← hM] at hI hlen2 HS2
              clear hM
              have c3 := hI.cell (i := k + m) (by omega)
              have c4 := hI.free (k + m)
              obtain ⟨z, hz⟩ : ∃ z, z = M.getD (k + m) (-1) := ⟨_, rfl⟩
              rw [← hz] at c3
              have HZ := Lib.hid hz
              clear hz
              go_wp2_with fail
              go_roundw
              case rel => exact ⟨m + 1, by omega, by go_num, hB.setCell (p := ⟨g, k + m, none⟩) hg' _, by rw [HS2.out, show ent M (k + m) = z from HZ.out.symm]; exact hI.set _ _⟩
              case measure => simp [intOf]; omega
          · obtain rfl : m = ys.length := by omega
            go_wp2_with fail
            go_roundw
            case rel => exact ⟨k + 1, by omega, by go_num, hB, by rw [HS.out]; exact hI⟩
            case measure => simp [intOf]; omega
    · obtain rfl : k = xs.length := by omega
      go_wp2_with fail
      go_ret
      exact ⟨g, by rw [hn]; rfl, hg', hI, hB⟩
end Go.Proofs.YtelklmdlodgdpaaGreat

/-! W3 -/
namespace Go.Proofs.YtelklmdlodgdpaaGreat
open Go.RowKit Go.Sort Go.Shelf Go.IntWalk
attribute [local go_sem] Oper.semAt_some
set_option linter.unusedVariables false
set_option maxRecDepth 100000
/-- A number in a box. -/
def SavAt (w : World) (X Y : Nat) (passes mn cents : Int) : Prop :=
  w.cell? ⟨X, 0, none⟩ = some (.int .i64 passes) ∧ w.cell? ⟨Y, 3, none⟩ = some (.int .i64 mn) ∧ w.cell? ⟨Y, 4, none⟩ = some (.int .i64 cents)
theorem SavAt.below {w w' : World} {X Y B : Nat} {p m c : Int} (h : SavAt w X Y p m c) (hb : Below B w w') (hX : X < B) (hY : Y < B) : SavAt w' X Y p m c :=
  ⟨(hb.cell (p := ⟨X, 0, none⟩) hX).trans h.1, (hb.cell (p := ⟨Y, 3, none⟩) hY).trans h.2.1, (hb.cell (p := ⟨Y, 4, none⟩) hY).trans h.2.2⟩
theorem saver1_any (come passes mn cents : Int) (X Y : Nat) (w : World) (h : SavAt w X Y passes mn cents) (hp : 0 ≤ passes ∧ passes ≤ 1000000) (hc : 0 ≤ come ∧ come ≤ 1000000) (hcc : 0 ≤ cents ∧ cents ≤ 1000000) :
    Calls Tryz.prog 96 #[.int .i64 come, .pointer (some ⟨X, 0, none⟩), .pointer (some ⟨Y, 0, none⟩)] w fun e w' => e = .returned (.int .i64 (saverR mn cents passes come)) ∧ w = w' := by
  obtain ⟨c1, c2, c3⟩ := h
  unfold saverR
  obtain ⟨t, ht⟩ : ∃ t, t = come - passes := ⟨_, rfl⟩
  rw [← ht]
  have hmul : 0 ≤ t → 0 ≤ t * cents ∧ t * cents ≤ 1000000000000 := fun h0 => by
    refine ⟨Int.mul_nonneg h0 hcc.1, ?_⟩
    have h1 : t * cents ≤ 1000000 * 1000000 := Int.mul_le_mul (by omega) hcc.2 hcc.1 (by omega)
    omega
  have HT := Lib.hid ht
  by_cases h1 : t < 0
  · rw [if_pos (.inl h1)]
    go_enter Tryz.func96, Tryz.ntmps96
    go_wp2_with fail
    rw [← HT.out]
    go_wp2_with fail
    go_ret
    exact ⟨rfl, rfl⟩
  · by_cases h2 : 0 < t ∧ t < mn
    · rw [if_pos (.inr h2)]
      obtain ⟨h2, h3⟩ := h2
      go_enter Tryz.func96, Tryz.ntmps96
      go_wp2_with fail
      rw [← HT.out]
      go_wp2_with fail
      go_ret
      exact ⟨rfl, rfl⟩
    · rw [if_neg (by omega)]
      obtain ⟨hm1, hm2⟩ := hmul (by omega)
      by_cases h4 : 0 < t
      · have h5 : ¬ t < mn := by omega
        go_enter Tryz.func96, Tryz.ntmps96
        go_wp2_with fail
        rw [← HT.out]
        go_wp2_with fail
        go_ret
        exact ⟨ret_int (k := .i64) (wrap64_in _ (by omega)), rfl⟩
      · go_enter Tryz.func96, Tryz.ntmps96
        go_wp2_with fail
        rw [← HT.out]
        go_wp2_with fail
        go_ret
        exact ⟨ret_int (k := .i64) (wrap64_in _ (by omega)), rfl⟩
/-- All cells stay but those of one block of slices. -/
def KC (Lb : Nat) (A B : World) : Prop := A.heap.size ≤ B.heap.size ∧ ∀ k c t fr, (k ≠ Lb ∨ t ≠ 30) → A.heap[k]? = some (.cells c t fr) → B.heap[k]? = some (.cells c t fr)
theorem KC.trans {Lb : Nat} {A B C : World} (h : KC Lb A B) (h' : KC Lb B C) : KC Lb A C :=
  ⟨Nat.le_trans h.1 h'.1, fun k c t fr hk ha => h'.2 k c t fr hk (h.2 k c t fr hk ha)⟩
theorem KC.below {Lb : Nat} {A B : World} (h : Below A.heap.size A B) : KC Lb A B :=
  ⟨h.size, fun k c t fr _ ha => (h.block k (Array.getElem?_eq_some_iff.1 ha).1).trans ha⟩
theorem KC.put {Lb : Nat} {W : World} {l : Nat} {o o' : Obj} (hl : W.heap[l]? = some o) (ho : o.isCells = false) : KC Lb W (W.putObj l o') := by
  have hg := grownBy_putObj' W l o'
  refine ⟨hg.size, fun k c t fr _ ha => (hg.block k (Array.getElem?_eq_some_iff.1 ha).1 (fun e => ?_)).trans ha⟩
  cases e
  rw [hl] at ha; cases ha; cases ho
theorem RowJ.kc {Lb base : Nat} {A B : World} {v : Value} {zs : List Int} (h : RowJ A base v zs) (hk : KC Lb A B) : RowJ B base v zs := by
  obtain ⟨a, cap, hv, hc⟩ := h
  refine ⟨a, cap, hv, fun h0 => ?_⟩
  obtain ⟨g, off, cur, ha, hb, hh, hcc⟩ := hc h0
  exact ⟨g, off, cur, ha, hb, hk.2 g cur _ _ (.inr (by decide)) hh, hcc⟩
/-- A slice of slices whose block is not Lb. -/
def RdRowsX (Lb : Nat) (w : World) (base : Nat) (v : Value) (ts : List (List Int)) : Prop := RdRows w base v ts ∧ ∀ g off n c, 0 < ts.length → v = .slice (some ⟨g, off, none⟩) n c → g ≠ Lb
theorem RdRowsX.kc {Lb base : Nat} {A B : World} {v : Value} {ts : List (List Int)} (h : RdRowsX Lb A base v ts) (hk : KC Lb A B) : RdRowsX Lb B base v ts := by
  obtain ⟨⟨a, cap, hv, hc⟩, hne⟩ := h
  refine ⟨⟨a, cap, hv, fun h0 => ?_⟩, hne⟩
  obtain ⟨g, off, ha, ⟨cur, hg⟩, hcc⟩ := hc h0
  have hg' := hk.2 g cur _ _ (.inl (hne g off _ _ h0 (by rw [hv, ha]))) hg
  refine ⟨g, off, ha, ⟨cur, hg'⟩, fun i hi => ?_⟩
  obtain ⟨u, h1, h2⟩ := hcc i hi
  refine ⟨u, ?_, h2.kc hk⟩
  rw [cell_of_row B g (off + i) _ _ _ hg', ← cell_of_row A g (off + i) _ _ _ hg]
  exact h1
theorem RdRowsX.below {Lb base : Nat} {A B : World} {v : Value} {ts : List (List Int)} (h : RdRowsX Lb A base v ts) (hb : Below A.heap.size A B) : RdRowsX Lb B base v ts := ⟨h.1.below hb, h.2⟩
theorem Boxed.kc {Lb C : Nat} {A B : World} {t : TypeId} {v : Value} (h : Boxed A C t v) (hk : KC Lb A B) (hC : C ≠ Lb) : Boxed B C t v := hk.2 C _ _ _ (.inl hC) h
/-- What the iterator yields. -/
structure Yld (n : Nat) where
  i : Nat
  hi : i < n
  a : Option Addr
  len : Nat
  cap : Nat
def Yld.sl {n : Nat} (x : Yld n) : Value := .slice x.a x.len x.cap
def MergS (base : Nat) (ts : List (List Int)) (xs : List (Yld ts.length)) (W : World) : Prop :=
  xs.length = ts.length ∧ ∀ k (h : k < xs.length), xs[k].i = ts.length - 1 - k ∧ RowJ W base xs[k].sl (mergedTo ts (k + 1))
theorem MergS.own (base B : Nat) (ts : List (List Int)) : OwnFrom B (MergS base ts) := fun s W W' row hs hg hr =>
  ⟨hs.1, fun k h => ⟨(hs.2 k h).1, (hs.2 k h).2.kept hg (fun g e => .inr (fun cur fr hh => by
    obtain ⟨_, o, ho, hc⟩ := hr g e
    rw [hh] at ho; cases ho; cases hc))⟩⟩
/-- Tables, and the merged ones, are not empty, not long, and their numbers not great. -/
structure MOk (ts : List (List Int)) : Prop where
  n : ts.length ≤ 5000
  one : ∀ t ∈ ts, 1 ≤ t.length ∧ t.length ≤ 5000 ∧ ∀ x ∈ t, -1 ≤ x ∧ x ≤ 1000000000000
  all : ∀ k, k ≤ ts.length → 1 ≤ (mergedTo ts k).length ∧ (mergedTo ts k).length ≤ 5000 ∧ ∀ x ∈ mergedTo ts k, -1 ≤ x ∧ x ≤ 1000000000000
set_option maxHeartbeats 8000000 in
theorem merged_stops (B base Lb : Nat) (v : Value) (ts : List (List Int)) (w : World) (hM : MOk ts) (hb : Boxed w B 83 v) (hR : RdRowsX Lb w base v ts) (hL : B ≠ Lb) (hbase : base ≤ w.heap.size) :
    IterB Tryz.prog 97 #[.pointer (some ⟨B, 0, none⟩)] (fun x : Yld ts.length => #[.int .i64 x.i, x.sl]) (KC Lb) (MergS base ts) (fun _ => True) B w := by
  intro l J Jx W hW hJ hJx hY h0
  replace hb : Boxed W B 83 v := (hW.block _ hb.lt).trans hb
  replace hR := hR.below hW
  replace hbase : base ≤ W.heap.size := Nat.le_trans hbase hW.size
  clear hW
  have HY := Lib.hid hY
  have HJ := Lib.hid hJ
  have HM := Lib.hid hM
  have hn := hM.n
  obtain ⟨a, cap, rfl⟩ : ∃ a cap, v = .slice a ts.length cap := by obtain ⟨⟨a, cap, hv, _⟩, _⟩ := hR; exact ⟨a, cap, hv⟩
  refine callsIn_of_wp Tryz.func97 rfl trivial ?_ rfl
  simp only [Tryz.ntmps97, List.size_toArray, List.length_cons, List.length_nil, Nat.reduceAdd, Nat.reduceSub, Array.replicate_succ, Array.replicate_zero, List.push_toArray, List.append_toArray, List.nil_append, List.cons_append]
  have hj0 := hJ _ _ _ none h0 (World.grownBy_alloc W (.cells #[.int .i64 0] 3) none) (fun _ e => by cases e)
  have hI0 : IntsAt (W.alloc (.cells #[.int .i64 0] 3)) W.heap.size (mergedTo ts 0) := alloc_new _ _
  have hr0 : RowJ (W.alloc (.cells #[.int .i64 0] 3)) base (.slice (some ⟨W.heap.size, 0, none⟩) 1 1) (mergedTo ts 0) := RowJ.of_ints hI0 hbase 1
  have hb0 := hb.alloc (.cells #[.int .i64 0] 3)
  have hR0 := hR.below ((Below.refl _ W).alloc (Nat.le_refl _) (.cells #[.int .i64 0] 3))
  have hz0 : base ≤ (W.alloc (.cells #[.int .i64 0] 3)).heap.size := by simp; omega
  have c1 := hb0.cell
  clear hY hJ hJx hM h0 hb hI0 hR
  gi_wp2_with fail
  clear c1
  gi_loopw [3, 4] (fun tb i wr => ∃ r : Nat, r ≤ ts.length ∧ i = .int .i64 ((r : Int) - 1) ∧ base ≤ wr.heap.size ∧ Boxed wr B 83 (.slice a ts.length cap) ∧ RdRowsX Lb wr base (.slice a ts.length cap) ts ∧ RowJ wr base tb (mergedTo ts (ts.length - r)) ∧
    ∃ pre : List (Yld ts.length), J pre wr ∧ pre.length = ts.length - r ∧ ∀ k (h : k < pre.length), pre[k].i = ts.length - 1 - k ∧ RowJ wr base pre[k].sl (mergedTo ts (k + 1))) (fun _ i _ => (intOf i + 1).toNat)
  case atStart => exact ⟨ts.length, Nat.le_refl _, rfl, hz0, hb0, hR0, by rw [Nat.sub_self]; exact hr0, [], hj0, by simp, fun k h => absurd h (by simp)⟩
  case round =>
    clear hz0 hb0 hR0 hr0 hj0
    obtain ⟨r, hr, rfl, hz, hb, hR, hT, pre, hj, hpl, hpre⟩ := hrel
    rcases r with _ | m
    · gi_wp2_with fail
      go_end0
      refine ⟨⟨_, rfl⟩, .inl ⟨pre, ⟨by rw [hpl, Nat.sub_zero], hpre⟩, hj⟩⟩
    · have e1 : (((m + 1 : Nat) : Int) - 1) = (m : Int) := by omega
      rw [e1]
      have c1 := hb.cell
      have hm : m < ts.length := by omega
      have hR' := hR
      obtain ⟨⟨a', cap', hv, hc⟩, _⟩ := hR'
      injection hv with q1 q2 q3
      subst q1; subst q3
      obtain ⟨g, off, rfl, ⟨cur, hg⟩, hcc⟩ := hc (by omega)
      obtain ⟨u, cu, hu⟩ := hcc m hm
      clear hcc hc
      have hnx : mergedTo ts (ts.length - m) = joinR ts[m] (mergedTo ts (ts.length - (m + 1))) := by
        rw [show ts.length - m = (ts.length - (m + 1)) + 1 by omega]
        show joinR (ts.getD (ts.length - 1 - (ts.length - (m + 1))) []) _ = _
        rw [show ts.length - 1 - (ts.length - (m + 1)) = m by omega, List.getD_eq_getElem?_getD, List.getElem?_eq_getElem hm]
        rfl
      have HJN : Hid (Calls Tryz.prog 98 #[u, u3] wr fun e w' => ∃ (g L : Nat) (hi : m < ts.length), e = .returned (.slice (some ⟨g, 0, none⟩) L L) ∧ RowJ w' base (.slice (some ⟨g, 0, none⟩) L L) (mergedTo ts (ts.length - m)) ∧ Below wr.heap.size wr w') := by
        obtain ⟨l1, l2, l3⟩ := HM.out.one _ (List.getElem_mem hm)
        obtain ⟨k1, k2, k3⟩ := HM.out.all (ts.length - (m + 1)) (by omega)
        refine (join_any ts[m] (mergedTo ts (ts.length - (m + 1))) u u3 wr hu.rd hT.rd l1 k1 (by omega) l3 k3).mono ?_
        rintro e w' ⟨g, rfl, hg, hI, hb⟩
        refine ⟨g, _, hm, rfl, ?_, hb⟩
        rw [hnx]
        have hln : (joinR ts[m] (mergedTo ts (ts.length - (m + 1)))).length = ts[m].length + (mergedTo ts (ts.length - (m + 1))).length - 1 := joinTo_len _ _ _
        rw [← hln]
        exact RowJ.of_ints hI (by omega) _
      clear hu hnx e1
      have HT := Lib.hid hT
      have HPRE := Lib.hid hpre
      have HPL := Lib.hid hpl
      have HCU := Lib.hid hg
      clear hT hpre hpl hg
      gi_wp2_with (refine ⟨trivial, rfl, ?_⟩; gi_at_call 98; refine (callsIn_wide.2 HJN.out).mono ?_; rintro e w1 ⟨g1, L, hi, rfl, hT1, hb1⟩; have hj1 := HJ.out _ _ _ none hj (grown_none hb1) (fun _ e => by cases e); obtain ⟨fn, tmps, assign, body, hy, hRR⟩ := HY.out _ ⟨m, hi, some ⟨g1, 0, none⟩, L, L⟩ _ hj1; dsimp only [Yld.sl] at hy; have HRR := Lib.hid hRR; clear hRR)
      refine ⟨rfl, HRR.out.mono ?_⟩
      rintro e W3 (⟨rfl, hJ3, hk3⟩ | ⟨rfl, hJx3⟩)
      · have hkc := (KC.below (Lb := Lb) hb1).trans hk3
        gi_wp2_with fail
        go_roundw
        case rel =>
          refine ⟨m, by omega, by go_num, Nat.le_trans hz hkc.1, Boxed.kc hb hkc hL, hR.kc hkc, hT1.kc hk3, _, hJ3, by rw [List.length_append, HPL.out]; simp; omega, fun k h => ?_⟩
          have hpl := HPL.out
          by_cases hk : k < pre.length
          · rw [List.getElem_append_left hk]
            exact ⟨(HPRE.out k hk).1, (HPRE.out k hk).2.kc hkc⟩
          · have hke : k = pre.length := by rw [List.length_append] at h; simp at h; omega
            subst hke
            rw [List.getElem_append_right (Nat.le_refl _)]
            simp only [Nat.sub_self, List.getElem_cons_zero]
            refine ⟨by omega, ?_⟩
            rw [show pre.length + 1 = ts.length - m by omega]
            exact hT1.kc hk3
        case measure => simp [intOf]
      · gi_wp2_with fail
        refine bodyPost_ret (results_none rfl _ _ _) rfl ?_
        exact ⟨⟨_, rfl⟩, .inr ⟨_, trivial, hJx3⟩⟩
theorem merged_any (a : Option Addr) (n c : Nat) (w : World) : Calls Tryz.prog 78 #[.slice a n c] w fun e w' => e = .returned (.func (.func 97) #[] #[.pointer (some ⟨w.heap.size, 0, none⟩)]) ∧ w.alloc (.cells #[.slice a n c] 83) = w' := by
  go_enter Tryz.func78, Tryz.ntmps78
  go_wp2
  go_ret
  exact ⟨rfl, rfl⟩
theorem saver_any (l : Lev) (sv : Value) (passes : Int) (w : World) : Calls Tryz.prog 77 #[lvA l sv, .int .i64 passes] w fun e w' => e = .returned (.func (.func 96) #[] #[.pointer (some ⟨w.heap.size + 1, 0, none⟩), .pointer (some ⟨w.heap.size, 0, none⟩)]) ∧
    (w.alloc (boxL l sv)).alloc (.cells #[.int .i64 passes] 3) = w' := by
  unfold lvA boxL
  go_enter Tryz.func77, Tryz.ntmps77
  go_wp2
  go_ret
  exact ⟨rfl, rfl⟩
end Go.Proofs.YtelklmdlodgdpaaGreat

/-! W4 -/
namespace Go.Proofs.YtelklmdlodgdpaaGreat
open Go.RowKit Go.Sort Go.Shelf Go.IntWalk
set_option linter.unusedVariables false
set_option maxRecDepth 100000
theorem Tryz.infoSl : (Tryz.prog.info? 30).map (fun i => (i.zero, i.size, i.bytes)) = some (some (.slice none 0 0), 1, 24) := by kernel_rfl
def pOf (x : Grp) : PGrp := ⟨x.lvl, x.up, x.items⟩
def pOfs (Gs : List Grp) : List PGrp := Gs.map pOf
theorem pOfs_len (Gs : List Grp) : (pOfs Gs).length = Gs.length := by unfold pOfs; simp
theorem gsAt_get {Gs : List Grp} {g : Nat} (h : g < Gs.length) : gsAt (pOfs Gs) g = pOf Gs[g] := by
  unfold gsAt pOfs
  rw [List.getD_eq_getElem?_getD, List.getElem?_map, List.getElem?_eq_getElem h]
  rfl
/-- The block of a tree: its levels, groups, and its three rows. -/
def TreeAt (w : World) (T : Nat) (v vg : Value) (n BB TB PB : Nat) : Prop :=
  w.heap[T]? = some (.cells #[v, vg, .slice (some ⟨BB, 0, none⟩) n n, .slice (some ⟨TB, 0, none⟩) n n, .slice (some ⟨PB, 0, none⟩) n n] 116 (0, 0))
/-- What lies in a tree of which the tables of the first m groups are found. -/
structure TreeW (w : World) (T BB TB PB base : Nat) (v vg : Value) (Gs : List Grp) (tabs : Nat → List Int) (m : Nat) (ps : List Int) : Prop where
  tr : TreeAt w T v vg Gs.length BB TB PB
  bl : ∃ f : Nat → Value, w.rowIs BB 30 Gs.length f ∧ ∀ g, g < Gs.length → RowJ w base (f g) ((belowR (pOfs Gs) g).map Int.ofNat)
  tb : ∃ f : Nat → Value, w.rowIs TB 30 Gs.length f ∧ ∀ g, g < m → RowJ w base (f g) (tabs g)
  pv : IntsAt w PB ps
  pl : ps.length = Gs.length
  lt : T < base ∧ BB < base ∧ TB < base ∧ PB < base ∧ base ≤ w.heap.size
  ne : T ≠ BB ∧ T ≠ TB ∧ T ≠ PB ∧ BB ≠ TB ∧ BB ≠ PB ∧ TB ≠ PB
  gr : RdGrps w vg Gs
theorem rowIs_below {w w' : World} {b : Nat} {t : TypeId} {n : Nat} {f : Nat → Value} {B : Nat} (h : w.rowIs b t n f) (hb : Below B w w') (hB : b < B) : w'.rowIs b t n f := h.of_block (hb.block b hB)
theorem TreeW.below {w w' : World} {T BB TB PB base : Nat} {v vg : Value} {Gs : List Grp} {tabs : Nat → List Int} {m : Nat} {ps : List Int} (h : TreeW w T BB TB PB base v vg Gs tabs m ps) (hb : Below w.heap.size w w') : TreeW w' T BB TB PB base v vg Gs tabs m ps := by
  obtain ⟨l1, l2, l3, l4, l5⟩ := h.lt
  obtain ⟨f, f1, f2⟩ := h.bl
  obtain ⟨k, k1, k2⟩ := h.tb
  exact ⟨(hb.block T (by omega)).trans h.tr, ⟨f, rowIs_below f1 hb (by omega), fun g hg => (f2 g hg).below hb⟩, ⟨k, rowIs_below k1 hb (by omega), fun g hg => (k2 g hg).below hb⟩,
    (hb.block PB (by omega)).trans h.pv, h.pl, ⟨l1, l2, l3, l4, Nat.le_trans l5 hb.size⟩, h.ne, h.gr.below hb⟩
theorem TreeAt.c {w : World} {T : Nat} {v vg : Value} {n BB TB PB : Nat} (h : TreeAt w T v vg n BB TB PB) : w.cell? ⟨T, 0, none⟩ = some v ∧ w.cell? ⟨T, 1, none⟩ = some vg ∧ w.cell? ⟨T, 2, none⟩ = some (.slice (some ⟨BB, 0, none⟩) n n) ∧
    w.cell? ⟨T, 3, none⟩ = some (.slice (some ⟨TB, 0, none⟩) n n) ∧ w.cell? ⟨T, 4, none⟩ = some (.slice (some ⟨PB, 0, none⟩) n n) :=
  ⟨cell_of_row w T 0 _ _ _ h, cell_of_row w T 1 _ _ _ h, cell_of_row w T 2 _ _ _ h, cell_of_row w T 3 _ _ _ h, cell_of_row w T 4 _ _ _ h⟩
theorem cell_one_slice (w : World) (u : Value) (T : TypeId) : ∀ j x, ([u])[j]? = some x → (w.alloc (.cells #[u] T)).cell? ((⟨w.heap.size, 0, none⟩ : Addr).add j) = some x := cells_new w [u] T
set_option maxHeartbeats 8000000 in
theorem parts_any (T BB TB PB base : Nat) (v vg : Value) (Gs : List Grp) (tabs : Nat → List Int) (m : Nat) (ps : List Int) (g : Nat) (w : World) (h : TreeW w T BB TB PB base v vg Gs tabs m ps) (hg : g < Gs.length) (hn : Gs.length ≤ 100000)
    (hsub : ∀ x ∈ belowR (pOfs Gs) g, x < m) (hm : m ≤ Gs.length) :
    Calls Tryz.prog 79 #[.pointer (some ⟨T, 0, none⟩), .int .i64 g] w fun e w' => ∃ a cap, e = .returned (.slice a (belowR (pOfs Gs) g).length cap) ∧ Below w.heap.size w w' ∧
      RdRows w' base (.slice a (belowR (pOfs Gs) g).length cap) ((belowR (pOfs Gs) g).map tabs) ∧ ∀ b off, a = some ⟨b, off, none⟩ → w.heap.size ≤ b := by
  obtain ⟨l1, l2, l3, l4, l5⟩ := h.lt
  obtain ⟨fB, f1, f2⟩ := h.bl
  obtain ⟨fT, k1, k2⟩ := h.tb
  obtain ⟨c0, c1, c2, c3, c4⟩ := h.tr.c
  have hrow := f2 g hg
  have cb := f1.cell hg
  have hsl : (belowR (pOfs Gs) g).length ≤ 100000 := by
    unfold belowR
    refine Nat.le_trans (List.length_filter_le _ _) ?_
    rw [List.length_range, pOfs_len]; exact hn
  obtain ⟨subs, hS⟩ : ∃ s, s = belowR (pOfs Gs) g := ⟨_, rfl⟩
  rw [← hS] at hrow hsub hsl ⊢
  clear hS
  obtain ⟨aB, capB, hfb⟩ := hrow.len
  rw [hfb] at cb
  rw [List.length_map] at cb hfb
  have hrd := hrow.rd
  rw [hfb] at hrd
  obtain ⟨a', cap', hv', hcc⟩ := hrd
  have q1 : aB = a' := by injection hv'
  subst q1
  clear hv' hfb hrow f2
  obtain ⟨j0, hj⟩ := info_parts Tryz.infoSl
  have HJ := Lib.hid hj
  have HCC := Lib.hid hcc
  have HK2 := Lib.hid k2
  have HSUB := Lib.hid hsub
  clear hj hcc k2 hsub c0 c1 c4 h f1
  go_enter Tryz.func79, Tryz.ntmps79
  go_wp2_with fail
  go_loopw [5, 16] (fun lv i wr => ∃ k : Nat, k ≤ subs.length ∧ i = .int .i64 k ∧ Below w.heap.size w wr ∧ wr.ownsRow w.heap.size 30 1 lv k ((subs.take k).map fT)) (fun _ i _ => subs.length - (intOf i).toNat)
  case atStart => exact ⟨0, Nat.zero_le _, rfl, Below.refl _ _, World.ownsRow_nil _ _ _ _⟩
  case round =>
    clear c2 cb
    obtain ⟨k, hk, rfl, hB, hO⟩ := hrel
    by_cases hlt : k < subs.length
    · obtain ⟨gb, ob, rfl, hgb, hcb⟩ := HCC.out (by rw [List.length_map]; omega)
      have cs : wr.cell? ⟨gb, ob + k, none⟩ = some (.int .i64 (subs[k] : Int)) := (hB.cell (p := ⟨gb, ob + k, none⟩) hgb).trans (by rw [hcb k (by rw [List.length_map]; exact hlt), List.getElem_map]; rfl)
      have hsk := HSUB.out _ (List.getElem_mem hlt)
      have htk : (subs.take (k + 1)).map fT = (subs.take k).map fT ++ [fT subs[k]] := by rw [List.take_succ_eq_append_getElem hlt, List.map_append]; rfl
      have HTK := Lib.hid htk
      have c3' : wr.cell? ⟨T, 3, none⟩ = some (.slice (some ⟨TB, 0, none⟩) Gs.length Gs.length) := (hB.cell (p := ⟨T, 3, none⟩) (by show T < _; omega)).trans c3
      have ct : wr.cell? ⟨TB, subs[k], none⟩ = some (fT subs[k]) := (hB.cell (p := ⟨TB, subs[k], none⟩) (by show TB < _; omega)).trans (k1.cell (by omega))
      obtain ⟨at_, capt, hft⟩ := (HK2.out _ hsk).len
      rw [hft] at ct
      have HFT := Lib.hid hft
      clear hcb htk hft
      obtain ⟨s, hs⟩ : ∃ s, s = subs[k] := ⟨_, rfl⟩
      rw [← hs] at cs ct hsk HFT HTK
      clear hs
      have hsn : s < Gs.length := by omega
      obtain ⟨tl, htl⟩ : ∃ t, t = (tabs s).length := ⟨_, rfl⟩
      rw [← htl] at ct HFT
      clear htl
      have hO' := hO
      rcases Joins.ownsRow_forms hO' with ⟨rfl, hp⟩ | ⟨g2, cap2, rfl⟩
      · have HP := Lib.hid hp
        clear hp
        go_wp2_with (at_builtin; refine wpList_append_own _ rfl _ _ 83 rfl w.heap.size 30 j0 (.slice none 0 0) 1 24 Tryz.underlying83 HJ.out.1 HJ.out.2.1 HJ.out.2.2.1 HJ.out.2.2.2 rfl (by decide) _ _ _ rfl (hO.alloc _) ⟨wr.heap.size, 0, none⟩ 1 1 [.slice at_ tl capt] rfl rfl (cell_one_slice _ _ _) (by simp [Value.oneCell']) (by unfold maxLen; omega) (by omega) (by have := hB.size; simp; omega) ?_; intro v' w5 hown' hgrow _)
        go_roundw
        case rel =>
          refine ⟨k + 1, by omega, by go_num, ?_, ?_⟩
          · exact (hB.alloc hB.size _).grown hgrow (by have := hB.size; simp; omega) (fun r e => by have := (hO.lt r e).1; omega)
          · rw [HTK.out, HFT.out]
            exact hown'
        case measure => simp [intOf]; omega
      · go_wp2_with (at_builtin; refine wpList_append_own _ rfl _ _ 83 rfl w.heap.size 30 j0 (.slice none 0 0) 1 24 Tryz.underlying83 HJ.out.1 HJ.out.2.1 HJ.out.2.2.1 HJ.out.2.2.2 rfl (by decide) _ _ _ rfl (hO.alloc _) ⟨wr.heap.size, 0, none⟩ 1 1 [.slice at_ tl capt] rfl rfl (cell_one_slice _ _ _) (by simp [Value.oneCell']) (by unfold maxLen; omega) (by omega) (by have := hB.size; simp; omega) ?_; intro v' w5 hown' hgrow _)
        go_roundw
        case rel =>
          refine ⟨k + 1, by omega, by go_num, ?_, ?_⟩
          · exact (hB.alloc hB.size _).grown hgrow (by have := hB.size; simp; omega) (fun r e => by have := (hO.lt r e).1; omega)
          · rw [HTK.out, HFT.out]
            exact hown'
        case measure => simp [intOf]; omega
    · obtain rfl : k = subs.length := by omega
      rw [List.take_length] at hO
      have HO := Lib.hid hO
      rcases Joins.ownsRow_forms hO with ⟨rfl, hp⟩ | ⟨g2, cap2, rfl⟩
      · go_wp2_with fail
        go_ret
        refine ⟨none, 0, by rw [hp]; rfl, hB, ⟨none, 0, by rw [List.length_map], fun h0 => by rw [List.length_map] at h0; omega⟩, fun b off e => by cases e⟩
      · go_wp2_with fail
        go_ret
        refine ⟨_, cap2, rfl, hB, ⟨_, cap2, by rw [List.length_map], fun h0 => ?_⟩, fun b off e => by cases e; exact (HO.out.lt g2 rfl).1⟩
        refine ⟨g2, 0, rfl, ?_, fun i hi => ?_⟩
        · obtain ⟨_, hv | ⟨g3, cap3, cur, e3, hb3, hh3, _⟩⟩ := HO.out
          · exact absurd hv.1 (by simp)
          · injection e3 with e3 _ _
            injection e3 with e3
            injection e3 with e3 _
            subst e3
            exact ⟨cur, hh3⟩
        · rw [List.length_map] at hi
          refine ⟨fT subs[i], ?_, ?_⟩
          · rw [Nat.zero_add, HO.out.cellAt i (by omega), List.getElem?_map, List.getElem?_eq_getElem hi]; rfl
          · rw [List.getElem_map]
            exact (HK2.out _ (HSUB.out _ (List.getElem_mem hi))).below hB
end Go.Proofs.YtelklmdlodgdpaaGreat

/-! W5 -/
namespace Go.Proofs.YtelklmdlodgdpaaGreat
open Go.RowKit Go.Sort Go.Shelf Go.IntWalk
attribute [local go_sem] Oper.semAt_some
set_option linter.unusedVariables false
set_option maxRecDepth 100000
theorem KC.refl (Lb : Nat) (A : World) : KC Lb A A := ⟨Nat.le_refl _, fun _ _ _ _ _ h => h⟩
theorem KC.set {Lb : Nat} {A : World} {v : Value} (u : Value) (h : Boxed A Lb 30 v) : KC Lb A (A.setCell ⟨Lb, 0, none⟩ u) := by
  have hg := grownBy_setCell' A Lb u
  refine ⟨hg.size, fun k c t fr hk ha => ?_⟩
  by_cases e : k = Lb
  · subst e
    rw [show A.heap[k]? = _ from h] at ha
    injection ha with ha
    injection ha with _ ha _
    subst ha
    simp at hk
  · exact (hg.block k (Array.getElem?_eq_some_iff.1 ha).1 (fun e' => e (by injection e'))).trans ha
def lastV {n : Nat} (xs : List (Yld n)) : Value := match xs.getLast? with | none => .slice none 0 0 | some x => x.sl
theorem lastV_snoc {n : Nat} (xs : List (Yld n)) (x : Yld n) : lastV (xs ++ [x]) = x.sl := by unfold lastV; simp
/-- What the loop of come keeps. -/
def ComeI (w : World) {n : Nat} (xs : List (Yld n)) (W : World) : Prop := Boxed W w.heap.size 30 (lastV xs) ∧ Below w.heap.size w W
theorem ComeI.keep {w A B : World} {n : Nat} {xs : List (Yld n)} {row : Option Nat} (h : ComeI w xs A) (hg : A.grownBy B row) (hr : ∀ r, row = some r → w.heap.size < r) : ComeI w xs B :=
  ⟨h.1.kept hg (fun e => by have := hr _ e.symm; omega), h.2.trans ((Below.refl _ A).grown hg h.2.size (fun r e => by have := hr r e; omega))⟩
theorem set_last (n : Nat) : (List.replicate (n + 1) (-1 : Int)).set n 0 = List.replicate n (-1) ++ [0] := by
  rw [List.replicate_succ', List.set_append_right _ _ (by simp)]
  simp
set_option maxHeartbeats 8000000 in
theorem come_zero (T BB TB PB base : Nat) (v vg : Value) (Gs : List Grp) (tabs : Nat → List Int) (m : Nat) (ps : List Int) (g : Nat) (w : World) (h : TreeW w T BB TB PB base v vg Gs tabs m ps) (hg : g < Gs.length) (hn : Gs.length ≤ 100000)
    (hl : Gs[g].lvl = 0) (hi : Gs[g].items.length ≤ 4000) (ts : List (List Int)) :
    Calls Tryz.prog 75 #[.pointer (some ⟨T, 0, none⟩), .int .i64 g] w fun e w' => ∃ a cap, e = .returned (.slice a (comeR Gs[g].lvl Gs[g].items.length ts).length cap) ∧ Below w.heap.size w w' ∧
      RowJ w' base (.slice a (comeR Gs[g].lvl Gs[g].items.length ts).length cap) (comeR Gs[g].lvl Gs[g].items.length ts) := by
  obtain ⟨l1, l2, l3, l4, l5⟩ := h.lt
  obtain ⟨c0, c1, c2, c3, c4⟩ := h.tr.c
  obtain ⟨ag, cg, rfl, hgr⟩ := h.gr
  obtain ⟨gg, og, rfl, hgg, hcg⟩ := hgr (by omega)
  obtain ⟨sv, hsv, g0, g1, g2, g3⟩ := hcg g hg
  have hcr : comeR Gs[g].lvl Gs[g].items.length ts = List.replicate Gs[g].items.length (-1) ++ [0] := by unfold comeR; rw [if_pos hl]
  rw [hcr]
  rw [hl] at g0
  obtain ⟨x, hx⟩ : ∃ x, x = Gs[g] := ⟨_, rfl⟩
  rw [← hx] at hsv hi ⊢
  obtain ⟨ai, ci, rfl, _⟩ := hsv
  obtain ⟨n, hni⟩ : ∃ n, n = x.items.length := ⟨_, rfl⟩
  rw [← hni] at g3 hi ⊢
  have hlen : (List.replicate n (-1 : Int) ++ [0]).length = n + 1 := by simp
  rw [hlen]
  clear hgr hcg c0 c2 c3 c4 h g1 g2 hx hcr hni hl
  have hb0 : Below w.heap.size w (w.alloc (.cells #[.int .i64 (-1)] 3)) := (Below.refl _ w).alloc (Nat.le_refl _) _
  have c1' := (hb0.cell (p := ⟨T, 1, none⟩) (by show T < _; omega)).trans c1
  have g3' := (hb0.cell (p := ⟨gg, og + g * 4 + 3, none⟩) hgg).trans g3
  go_enter Tryz.func75, Tryz.ntmps75
  go_wp2_with (go_at_call 76; refine (repeat_any (-1) (n + 1) w.heap.size 0 1 _ (by omega) (by simp [go_sem]) (by simp)).mono ?_; rintro e w1 ⟨b, rfl, hb, hI, hb1⟩; have d1 := hI.cell (i := n) (by simp); have d2 := hI.free n)
  go_ret
  refine ⟨_, n + 1, rfl, ?_, ?_⟩
  · exact (below_ac (Below.refl _ w) (Nat.le_refl _) hb1).setCell (p := ⟨b, n, none⟩) (by show w.heap.size ≤ b; simp at hb; omega) _
  · have := hI.set n 0
    rw [set_last] at this
    have h2 := RowJ.of_ints this (base := base) (by simp at hb; omega) (n + 1)
    rw [hlen] at h2
    exact h2
set_option maxHeartbeats 8000000 in
theorem come_more (T BB TB PB base : Nat) (v vg : Value) (Gs : List Grp) (tabs : Nat → List Int) (m : Nat) (ps : List Int) (g : Nat) (w : World) (h : TreeW w T BB TB PB base v vg Gs tabs m ps) (hg : g < Gs.length) (hn : Gs.length ≤ 100000)
    (hl : Gs[g].lvl ≠ 0) (hsub : ∀ x ∈ belowR (pOfs Gs) g, x < m) (hm : m ≤ Gs.length) (hM : MOk ((belowR (pOfs Gs) g).map tabs)) :
    Calls Tryz.prog 75 #[.pointer (some ⟨T, 0, none⟩), .int .i64 g] w fun e w' => ∃ a cap, e = .returned (.slice a (comeR Gs[g].lvl Gs[g].items.length ((belowR (pOfs Gs) g).map tabs)).length cap) ∧ Below w.heap.size w w' ∧
      RowJ w' base (.slice a (comeR Gs[g].lvl Gs[g].items.length ((belowR (pOfs Gs) g).map tabs)).length cap) (comeR Gs[g].lvl Gs[g].items.length ((belowR (pOfs Gs) g).map tabs)) := by
  have hcr : comeR Gs[g].lvl Gs[g].items.length ((belowR (pOfs Gs) g).map tabs) = if ((belowR (pOfs Gs) g).map tabs).length = 0 then [] else mergedTo ((belowR (pOfs Gs) g).map tabs) ((belowR (pOfs Gs) g).map tabs).length := by unfold comeR; rw [if_neg hl]
  obtain ⟨R, hR⟩ : ∃ R, R = comeR Gs[g].lvl Gs[g].items.length ((belowR (pOfs Gs) g).map tabs) := ⟨_, rfl⟩
  rw [← hR] at hcr ⊢
  clear hR
  obtain ⟨l1, l2, l3, l4, l5⟩ := h.lt
  obtain ⟨c0, c1, c2, c3, c4⟩ := h.tr.c
  have hgr := h.gr
  obtain ⟨ag, cg, rfl, hgr⟩ := hgr
  obtain ⟨gg, og, rfl, hgg, hcg⟩ := hgr (by omega)
  obtain ⟨sv, hsv, g0, g1, g2, g3⟩ := hcg g hg
  obtain ⟨xx, hx⟩ : ∃ x, x = Gs[g].lvl := ⟨_, rfl⟩
  rw [← hx] at g0 hl
  have hx0 : (xx == 0) = false := by simp [hl]
  have hb0 : Below w.heap.size w (w.alloc (.cells #[.slice none 0 0] 30)) := (Below.refl _ w).alloc (Nat.le_refl _) _
  have HP := Lib.hid (parts_any T BB TB PB base v _ Gs tabs m ps g (w.alloc (.cells #[.slice none 0 0] 30)) (h.below hb0) hg hn hsub hm)
  have htl : ((belowR (pOfs Gs) g).map tabs).length = (belowR (pOfs Gs) g).length := List.length_map _
  obtain ⟨ts, hts⟩ : ∃ ts, ts = (belowR (pOfs Gs) g).map tabs := ⟨_, rfl⟩
  rw [← hts] at htl hM HP hcr
  have HCR := Lib.hid hcr
  clear hcr
  obtain ⟨sn, hsn⟩ : ∃ n, n = (belowR (pOfs Gs) g).length := ⟨_, rfl⟩
  rw [← hsn] at htl HP
  clear hgr hcg c0 c2 c3 c4 h g1 g2 g3 hsv hx hsub hts hsn
  subst htl
  refine (callsIn_wide (n := 0)).1 ?_
  refine callsIn_of_wp_marks Tryz.func75 rfl trivial ?_ rfl
  simp only [Tryz.ntmps75, List.size_toArray, List.length_cons, List.length_nil, Nat.reduceAdd, Nat.reduceSub, Array.replicate_succ, Array.replicate_zero, List.push_toArray, List.append_toArray, List.nil_append, List.cons_append]
  gi_wp2_with (first
    | (refine ⟨trivial, rfl, ?_⟩; gi_at_call 79; refine (callsIn_wide.2 HP.out).mono ?_; rintro e w1 ⟨ap, cp, rfl, hb1, hr1, hn1⟩)
    | (refine ⟨trivial, rfl, ?_⟩; gi_at_call 78; refine (callsIn_wide.2 (merged_any _ _ _ _)).mono ?_; rintro e w2 ⟨rfl, rfl⟩))
  have hlb : (w.alloc (.cells #[.slice none 0 0] 30)).heap.size = w.heap.size + 1 := by simp
  rw [hlb] at hn1
  have hB1 : Below w.heap.size w w1 := below_c hb0 (by omega) hb1
  have hsz := hb1.size
  rw [hlb] at hsz
  obtain ⟨W0, hW0⟩ : ∃ W0 : World, W0 = w1.alloc (.cells #[.slice ap ts.length cp] 83) := ⟨_, rfl⟩
  have hbx : Boxed W0 w1.heap.size 83 (.slice ap ts.length cp) := by rw [hW0]; exact Boxed.new _ _ _
  have hWb : Below w1.heap.size w1 W0 := by rw [hW0]; exact (Below.refl _ w1).alloc (Nat.le_refl _) _
  have hWz : W0.heap.size = w1.heap.size + 1 := by rw [hW0]; simp
  have hI0 : ComeI w ([] : List (Yld ts.length)) W0 := by
    refine ⟨?_, below_c hB1 hB1.size hWb⟩
    have b0 : Boxed (w.alloc (.cells #[.slice none 0 0] 30)) w.heap.size 30 (.slice none 0 0) := Boxed.new _ _ _
    exact ((below_c (Below.refl _ _) (Nat.le_refl _) hb1).mono (Nat.le_refl _) |> fun h => (hWb.block w.heap.size (by omega)).trans ((h.block w.heap.size (by omega)).trans b0))
  have hR0 : RdRowsX w.heap.size W0 base (.slice ap ts.length cp) ts := ⟨hr1.below hWb, fun b off n c _ e => by
    injection e with e _ _
    have := hn1 b off e
    omega⟩
  rw [← hW0]
  clear hW0 hWb hr1 hn1 hb1 hb0 hB1 HP hlb c1 g0
  generalize w1.heap.size = B at hbx hWz hsz ⊢
  have hMM := hM
  refine wpIn_rangeFunc_box (gf := 97) (lb := #[.pointer (some ⟨B, 0, none⟩)]) rfl Tryz.call97 (Bs := B) (by omega) (merged_stops B base w.heap.size _ ts W0 hM hbx hR0 (by omega) (by omega)) (MergS.own _ _ _)
    (fun h k => h.trans k) (fun W l o o' hl hW hc => KC.put hW hc) (fun _ => rfl)
    (ComeI w) (fun _ _ _ => False)
    (fun s A B' row h hg hr => h.keep hg (fun r e => by obtain ⟨h1, _⟩ := hr r e; omega))
    (fun c s A B' row h _ _ => h)
    (fun s A B' row h hg hr => h.keep hg (fun r e => by have := hr r e; omega))
    (fun c s A B' row h _ _ => h)
    hI0
    (fun x a' W => a' = { tmps := #[.pointer (some ⟨T, 0, none⟩), .int .i64 g, undef, undef, .slice none 0 0, undef, .pointer (some ⟨w.heap.size, 0, none⟩), undef, x.sl,
      .pointer (some ⟨T, 0, none⟩), .pointer (some ⟨T, 0, none⟩), .pointer (some ⟨T, 1, none⟩), .slice (some ⟨gg, og, none⟩) Gs.length cg, .int .i64 g, .pointer (some ⟨gg, og + g * 4, none⟩), .pointer (some ⟨gg, og + g * 4, none⟩), .int .i64 xx, .bool false,
      undef, undef, undef, undef, undef, undef, undef, undef, undef, undef, undef, undef, undef, undef, undef, undef, undef, undef, .pointer (some ⟨T, 0, none⟩), .int .i64 g, .slice ap ts.length cp,
      .func (.func 97) #[] #[.pointer (some ⟨B, 0, none⟩)], .int .i64 x.i, x.sl, undef, undef], defers := [] })
    (fun x a' s A B' row h _ _ => h) ?assign ?body ?done ?stop
  case assign =>
    intro l pre x W K hi hK
    gi_wp2
    exact hK _ _ (KeepsFrom.refl _ _) (KC.refl _ _) hi rfl
  case body =>
    rintro l pre x a' W hI rfl
    have c1 := hI.1.cell
    have c2 := hI.1.frozen
    obtain ⟨xi, xhi, xa, xl, xc⟩ := x
    dsimp only [Yld.sl]
    gi_wp2_with fail
    exact ⟨(KeepsOthers.setCell _ _ _).from _, KC.set _ hI.1, by rw [lastV_snoc]; exact hI.1.set _, hI.2.setCell (p := ⟨w.heap.size, 0, none⟩) (Nat.le_refl _) _⟩
  case done =>
    rintro D xs W hD ⟨hS1, hS2⟩ hI hK
    have c1 := hI.1.cell
    have hfin : ∃ a cap, lastV xs = .slice a R.length cap ∧ RowJ W base (lastV xs) R := by
      rw [HCR.out]
      by_cases h0 : ts.length = 0
      · rw [if_pos h0]
        obtain rfl : xs = [] := List.length_eq_zero_iff.1 (by omega)
        exact ⟨none, 0, rfl, RowJ.nil _ _ _ _⟩
      · rw [if_neg h0]
        obtain ⟨_, h2⟩ := hS2 (xs.length - 1) (by omega)
        have e : lastV xs = (xs[xs.length - 1]'(by omega)).sl := by
          unfold lastV
          rw [List.getLast?_eq_getElem?, List.getElem?_eq_getElem (by omega)]
        rw [show xs.length - 1 + 1 = ts.length by omega] at h2
        rw [e]
        obtain ⟨a, cap, hv⟩ := h2.len
        exact ⟨a, cap, hv, h2⟩
    obtain ⟨a, cap, hv, hrow⟩ := hfin
    rw [hv] at c1 hrow
    have HROW := Lib.hid hrow
    have hBB := hI.2
    clear hS2 hrow hv hM hMM
    gi_wp2_with fail
    refine ⟨by simp, .inl ⟨_, _, rfl, run_takeDeferred hK, ?_⟩⟩
    refine ⟨_, results_tmp rfl _ _ _, a, cap, rfl, hBB.grown (grownBy_putObj' _ _ _) hBB.size (fun k e => by cases e; omega), HROW.out.kept (grownBy_putObj' _ _ _) (fun g e => .inr (fun cur fr hh => ?_))⟩
    cases e
    rw [hK] at hh
    cases hh
  case stop =>
    rintro D c pre W hD hS hX hK
    exact hX.elim
theorem come_any (T BB TB PB base : Nat) (v vg : Value) (Gs : List Grp) (tabs : Nat → List Int) (m : Nat) (ps : List Int) (g : Nat) (w : World) (h : TreeW w T BB TB PB base v vg Gs tabs m ps) (hg : g < Gs.length) (hn : Gs.length ≤ 100000)
    (hi : Gs[g].items.length ≤ 4000) (hsub : ∀ x ∈ belowR (pOfs Gs) g, x < m) (hm : m ≤ Gs.length) (hM : Gs[g].lvl ≠ 0 → MOk ((belowR (pOfs Gs) g).map tabs)) :
    Calls Tryz.prog 75 #[.pointer (some ⟨T, 0, none⟩), .int .i64 g] w fun e w' => ∃ a cap, e = .returned (.slice a (comeR Gs[g].lvl Gs[g].items.length ((belowR (pOfs Gs) g).map tabs)).length cap) ∧ Below w.heap.size w w' ∧
      RowJ w' base (.slice a (comeR Gs[g].lvl Gs[g].items.length ((belowR (pOfs Gs) g).map tabs)).length cap) (comeR Gs[g].lvl Gs[g].items.length ((belowR (pOfs Gs) g).map tabs)) := by
  by_cases hl : Gs[g].lvl = 0
  · exact come_zero T BB TB PB base v vg Gs tabs m ps g w h hg hn hl hi _
  · exact come_more T BB TB PB base v vg Gs tabs m ps g w h hg hn hl hsub hm (hM hl)
end Go.Proofs.YtelklmdlodgdpaaGreat
