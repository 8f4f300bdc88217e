/-
  A law for a range over a function whose iterator writes one box of its own (a captured variable), at the wide fence; after the library's laws for iterators that do not.
-/
import Derived.RangeFuncNested
import Derived.RangeFuncBound
import Derived.RangeFuncCalls
import Derived.RangeFuncLeaves
import Derived.Shelf.Abstract
import Derived.Shelf.RegionOpen
import Derived.WalkKit
import Derived.OwnWalkIn
import Derived.TacticsInMore
import Derived.LoopNIn
import Derived.LoopIn
namespace Go.Proofs.YtdcpmnkebhilpaaGreatDoor
open Go.RowKit Go.Shelf
def Abide {β : Type} (Bs : Nat) (J : β → World → Prop) : Prop :=
  ∀ s A B row, J s A → World.grownBy A B row → (∀ r, row = some r → r = Bs) → J s B
def IterB {α : Type} (P : Program) (gf : Nat) (lb : Array Value) (encs : α → Array Value) (Kp : World → World → Prop) (S Sp : List α → Prop) (Bs : Nat) (w : World) : Prop :=
  ∀ (l : Nat) (J Jx : List α → World → Prop) (W : World), Below w.heap.size w W → Abide Bs J → Abide Bs Jx →
    (∀ pre x W1, J pre W1 → YieldAt Fence.wide 0 P l (encs x) W1 fun e W' =>
      (e = .returned (.bool true) ∧ J (pre ++ [x]) W' ∧ Kp W1 W') ∨ (e = .returned (.bool false) ∧ Jx (pre ++ [x]) W')) →
    J [] W → CallsIn Fence.wide 0 P gf (#[.func (.yield l) #[] #[]] ++ lb) W fun e W' => (∃ v, e = .returned v) ∧ ((∃ xs, S xs ∧ J xs W') ∨ ∃ pre, Sp pre ∧ Jx pre W')
theorem grown_other {A B : World} {row : Option Nat} {Bs k : Nat} {o : Obj} (hg : A.grownBy B row) (hr : ∀ r, row = some r → r = Bs) (hk : A.heap[k]? = some o) (hne : k ≠ Bs) : B.heap[k]? = some o :=
  (hg.block k (Array.getElem?_eq_some_iff.1 hk).1 (fun e => hne (hr k e.symm))).trans hk
def Kept (D : Nat) (lp : Loop) (W : World) : Prop := W.heap[D + 1]? = some (.loop lp) ∧ W.heap[D]? = some (.deferred (some []))
theorem Kept.grown {D Bs : Nat} {lp : Loop} {A B : World} {row : Option Nat} (h : Kept D lp A) (hB : Bs < D) (hg : A.grownBy B row) (hr : ∀ r, row = some r → r = Bs) : Kept D lp B :=
  ⟨grown_other hg hr h.1 (by omega), grown_other hg hr h.2 (by omega)⟩
theorem Kept.put {D : Nat} {lp lp' : Loop} {W : World} (h : Kept D lp W) : Kept D lp' (W.putObj (D + 1) (.loop lp')) :=
  ⟨World.putObj_heap_same (Array.getElem?_eq_some_iff.1 h.1).1, (World.putObj_heap_other (by omega)).trans h.2⟩
theorem Kept.keeps {D : Nat} {lp : Loop} {W W' : World} (h : Kept D lp W) (hk : KeepsFrom D W W') : Kept D lp W' :=
  ⟨hk.same _ _ (by omega) h.1 rfl, hk.same _ _ (Nat.le_refl _) h.2 rfl⟩
theorem wpIn_rangeFunc_box {P : Program} {α : Type} {g : Operand} {ps : Array Tmp} {assign body : Code} {Q : Exit → Act → World → Prop} {a : Act} {w : World}
    {gf : Nat} {lb : Array Value} (hg : a.eval g = .func (.func gf) #[] lb) (eg : ∀ args w, (callFunc gf args).run P w = .ok (.enter gf args) w)
    {encs : α → Array Value} {Kp : World → World → Prop} {S Sp : List α → Prop} {Bs : Nat} (hBs : Bs < w.heap.size) (hseq : IterB P gf lb encs Kp S Sp Bs w)
    (hKt : ∀ {A B C : World}, Kp A B → Kp B C → Kp A C) (hKb : ∀ (W : World) (l : Nat) (o o' : Obj), w.heap.size ≤ l → W.heap[l]? = some o → o.isCells = false → Kp W (W.putObj l o')) (hps : ∀ x, (encs x).size = ps.size)
    (I : List α → World → Prop) (Ix : Code → List α → World → Prop) (hI : OwnFrom w.heap.size I) (hIx : ∀ c, OwnFrom w.heap.size (Ix c)) (hIb : Abide Bs I) (hIxb : ∀ c, Abide Bs (Ix c)) (h0 : I [] w)
    (Ax : α → Act → World → Prop) (hAx : ∀ x a', OwnFrom w.heap.size (fun (_ : Unit) W => Ax x a' W))
    (hassign : ∀ (l : Nat) (pre : List α) (x : α) (W : World) (K : Act → World → Prop), I pre W → (∀ a' W', KeepsFrom w.heap.size W W' → Kp W W' → I pre W' → Ax x a' W' → K a' W') →
      assign.wpIn (Fence.wide.inRound l) 0 P (Exit.then K (fun _ _ _ => False)) { tmps := (ps.zip (encs x)).foldl (fun t (p, v) => t.setIfInBounds p v) a.tmps, defers := [] } W)
    (hbody : ∀ (l : Nat) (pre : List α) (x : α) (a' : Act) (W : World), I pre W → Ax x a' W → body.wpIn (Fence.wide.inRound l) 0 P (ownPostG w.heap.size Kp I Ix (pre ++ [x]) W) a' W)
    (hdone : ∀ (D : Nat) (xs : List α) (W : World), w.heap.size ≤ D → S xs → I xs W → W.heap[D]? = some (.deferred (some [])) → Q .normal { a with defers := { target := .collected D, args := #[] } :: a.defers } W)
    (hstop : ∀ (D : Nat) (c : Code) (pre : List α) (W : World), w.heap.size ≤ D → Sp pre → Ix c pre W → W.heap[D]? = some (.deferred (some [])) → c.wpIn Fence.wide 0 P Q { a with defers := { target := .collected D, args := #[] } :: a.defers } W) :
    (Code.rangeFunc g ps assign body).wpIn Fence.wide 0 P Q a w := by
  refine wpIn_rangeFunc ?_
  intro fn hfn
  rw [show (Fence.wide).round = none from rfl]
  generalize hD : w.heap.size = D at *
  let rec0 : LoopState → Option Code → Loop := fun st pe => { state := st, pending := pe, fn, tmps := a.tmps, params := ps, assign, body, defers := D }
  have hent := run_enterLoop_outer (P := P) (w := w) fn a.tmps ps assign body
  rw [hD] at hent
  generalize hW1 : (w.alloc (.deferred (some []))).alloc (.loop { state := .ready, pending := none, fn, tmps := a.tmps, params := ps, assign, body, defers := D }) = W1 at hent
  have hK1 : Kept D (rec0 .ready none) W1 := by
    rw [← hW1]
    constructor
    · have := World.alloc_heap_new (w.alloc (.deferred (some []))) (.loop (rec0 .ready none))
      rw [World.size_alloc, hD] at this
      exact this
    · have := (Below.heap_alloc (w.alloc (.deferred (some []))) (.loop (rec0 .ready none)) w.heap.size (by simp)).trans (World.alloc_heap_new w _)
      rw [hD] at this
      exact this
  have hI1 : I [] W1 := by rw [← hW1]; exact hI.alloc _ (hI.alloc _ h0)
  have hb1 : Below w.heap.size w W1 := by rw [← hW1]; exact ((Below.refl _ w).alloc (Nat.le_refl _) _).alloc (by simp) _
  refine ⟨D + 1, _, W1, { target := .fn (.func gf) lb, args := #[.func (.yield (D + 1)) #[] #[]] }, W1, gf, #[.func (.yield (D + 1)) #[] #[]] ++ lb, W1, hent, ?_, ?_, ?_, ?_, ?_⟩
  · simp only [resolve, hg]
    simp [go_sem]
  · intro f' _; trivial
  · simp [invoke, go_sem, eg]
  · intro h; cases h
  refine (hseq (D + 1) (fun pre W => I pre W ∧ Kept D (rec0 .ready none) W) (fun pre W => ∃ c, Ix c pre W ∧ Kept D (rec0 .done (some c)) W) W1 hb1
    (fun s A B row hs hgr hr => ⟨hIb s A B row hs.1 hgr hr, hs.2.grown hBs hgr hr⟩)
    (fun s A B row hs hgr hr => by obtain ⟨c, hc, hk⟩ := hs; exact ⟨c, hIxb c s A B row hc hgr hr, hk.grown hBs hgr hr⟩) ?_ ⟨hI1, hK1⟩).mono ?_
  · rintro pre x W ⟨hi, hk⟩
    have hy := run_yield (P := P) (args := encs x) hk.1 (hps x)
    refine ⟨fn, _, assign, body, hy, roundIn_of_wpIn hfn (hassign _ pre x W _ hi ?_)⟩
    intro a' Wa hkf hkp hia hax
    have hka := hk.keeps hkf
    refine ⟨_, run_beginRound hka.1 rfl, ?_⟩
    have hk2 : Kept D { rec0 .ready none with state := .busy } (Wa.putObj (D + 1) (.loop { rec0 .ready none with state := .busy })) := hka.put
    refine wpIn_mono (hbody _ pre x a' _ (hI.putObj _ hia (by omega) hka.1 rfl) ((hAx x a').putObj (s := ()) _ hax (by omega) hka.1 rfl)) ?_
    have hkb : Kp W (Wa.putObj (D + 1) (.loop { rec0 .ready none with state := .busy })) := hKt hkp (hKb _ _ _ _ (by omega) hka.1 rfl)
    rintro e a3 W3 hp
    cases e with
    | normal =>
      have hk3 := hk2.keeps hp.1
      exact ⟨_, _, run_endRound (P := P) none hk3.1, .inl ⟨rfl, ⟨hI.putObj _ hp.2.2 (by omega) hk3.1 rfl, hk3.put⟩, hKt hkb (hKt hp.2.1 (hKb _ _ _ _ (by omega) hk3.1 rfl))⟩⟩
    | ret => have hk3 := hk2.keeps hp.1; exact ⟨_, _, run_endRound (P := P) (some .ret) hk3.1, .inr ⟨rfl, .ret, (hIx _).putObj _ hp.2 (by omega) hk3.1 rfl, hk3.put⟩⟩
    | exit id => have hk3 := hk2.keeps hp.1; exact ⟨_, _, run_endRound (P := P) (some (.exit id)) hk3.1, .inr ⟨rfl, .exit id, (hIx _).putObj _ hp.2 (by omega) hk3.1 rfl, hk3.put⟩⟩
    | goto t => have hk3 := hk2.keeps hp.1; exact ⟨_, _, run_endRound (P := P) (some (.goto t)) hk3.1, .inr ⟨rfl, .goto t, (hIx _).putObj _ hp.2 (by omega) hk3.1 rfl, hk3.put⟩⟩
    | panic ch => exact hp.elim
    | outgrown => exact hp.elim
  · rintro e W2 ⟨⟨v, rfl⟩, (⟨xs, hS, hi, hk⟩ | ⟨pre, hSp, c, hi, hk⟩)⟩
    · exact ⟨none, _, run_endLoop (P := P) hk.1 (by simp [rec0]), hdone _ xs _ (Nat.le_refl _) hS (hI.putObj _ hi (by omega) hk.1 rfl) hk.put.2⟩
    · exact ⟨some c, _, run_endLoop (P := P) hk.1 (by simp [rec0]), hstop _ c pre _ (Nat.le_refl _) hSp ((hIx c).putObj _ hi (by omega) hk.1 rfl) hk.put.2⟩
end Go.Proofs.YtdcpmnkebhilpaaGreatDoor
