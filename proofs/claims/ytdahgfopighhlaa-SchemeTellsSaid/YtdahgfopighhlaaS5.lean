/-
  A map of the call's own, keyed by texts, told as a function: how it is made, read, written and kept.
-/
import Derived.Test.YtdahgfopighhlaaS4
import Derived.Carry
import Derived.StringKeys
namespace Go.Proofs.Ytdahgfopighhlaa
open Go.RowKit Go.Maps Go.WideMaps
set_option linter.unusedVariables false
/-- How elements of one type are laid and read. -/
structure ElemLaw (E : TypeId) (α : Type) (enc : α → Lit) (val : α → Value) (ok : α → Prop) (z0 : α) : Prop where
  lay : ∀ x, ok x → plainElem (H := Unit) Try.prog E (val x) = some (.lit (enc x), [])
  inv : ∀ v x ps, plainElem (H := Unit) Try.prog E v = some (.lit (enc x), ps) → v = val x
  zero : ∀ w, (zeroValue E).run Try.prog w = .ok (val z0) w
  okz : ok z0
theorem strLaw : ElemLaw 9 ByteArray (fun s => .string s.data.toList) Value.string (fun s => s.size ≤ maxLen) ⟨#[]⟩ where
  lay := fun x h => plainElem_string Try.underlying9 h
  inv := fun v x ps h => by
    obtain ⟨s, rfl, hz, _⟩ := plainElem_string_inv Try.underlying9 h
    simp only [Prod.mk.injEq, DataW.lit.injEq, Lit.string.injEq] at hz
    rw [ba_inj hz.1]
  zero := fun w => by kernel_rfl
  okz := by decide
theorem plainElem_bool_inv {e : TypeId} (he : Try.prog.underlying e = some .bool) {v : Value} {z : DataW Unit × List MemPlace} (h : plainElem Try.prog e v = some z) : ∃ s : Bool, v = .bool s ∧ z = (.lit (.bool s), []) := by
  unfold plainElem at h
  rw [he] at h
  cases v <;> simp at h
  exact ⟨_, rfl, h.symm⟩
theorem boolLaw : ElemLaw 4 Bool Lit.bool Value.bool (fun _ => True) false where
  lay := fun x h => plainElem_bool Try.underlying4 x
  inv := fun v x ps h => by
    obtain ⟨s, rfl, hz⟩ := plainElem_bool_inv Try.underlying4 h
    simp only [Prod.mk.injEq, DataW.lit.injEq, Lit.bool.injEq] at hz
    rw [hz.1]
  zero := fun w => by kernel_rfl
  okz := trivial
theorem intLaw : ElemLaw 3 Int (Lit.int .i64) (Value.int .i64) (fun n => (Lit.int .i64 n).wf = true) 0 where
  lay := fun x h => plainElem_int Try.underlying3 h
  inv := fun v x ps h => by
    obtain ⟨s, rfl, hz, _⟩ := plainElem_int_inv Try.underlying3 h
    simp only [Prod.mk.injEq, DataW.lit.injEq, Lit.int.injEq, true_and] at hz
    rw [hz.1]
  zero := fun w => by kernel_rfl
  okz := by decide
def litK (s : ByteArray) : Lit := .string s.data.toList
/-- Block B is a map that holds what f says. -/
def OwnsF {α : Type} (E : TypeId) (enc : α → Lit) (w : World) (B n : Nat) (f : ByteArray → Option α) : Prop :=
  ∃ D : DataW Unit, w.ownsMap Try.prog 9 (plainElem Try.prog E) B n D ∧ ∀ s, (f s = none → Maps.has D (litK s) = false) ∧ ∀ x, f s = some x → Maps.has D (litK s) = true ∧ ∀ zd, D.atKey (litK s) zd = .lit (enc x)
section
variable {α : Type} {E : TypeId} {enc : α → Lit} {val : α → Value} {ok : α → Prop} {z0 : α} {w w' : World} {B n : Nat} {f : ByteArray → Option α}
theorem OwnsF.made (w : World) : OwnsF E enc (w.alloc (.map #[] 0)) w.heap.size 0 (fun _ => none) :=
  ⟨.map [], World.ownsMap_made _ _ _ _, fun s => ⟨fun _ => rfl, fun x h => by cases h⟩⟩
theorem OwnsF.kept {row : Option Nat} (h : OwnsF E enc w B n f) (hg : w.grownBy w' row) (hne : some B ≠ row) : OwnsF E enc w' B n f := by
  obtain ⟨D, hD, hf⟩ := h
  exact ⟨D, hD.kept hg hne, hf⟩
theorem OwnsF.below (h : OwnsF E enc w B n f) (hb : Below w.heap.size w w') : OwnsF E enc w' B n f := h.kept (grown_none hb) (by simp)
theorem OwnsF.alloc (h : OwnsF E enc w B n f) (o : Obj) : OwnsF E enc (w.alloc o) B n f := h.below ((Below.refl _ w).alloc (Nat.le_refl _) o)
theorem OwnsF.lt (h : OwnsF E enc w B n f) : B < w.heap.size := by obtain ⟨D, hD, _⟩ := h; exact hD.lt
theorem keyed_str : Keyed Try.prog 9 := string_keyed Try.underlying9
theorem OwnsF.look (L : ElemLaw E α enc val ok z0) (h : OwnsF E enc w B n f) {t : TypeId} (ht : Try.prog.underlying t = some (.map 9 E)) {s : ByteArray} (hs : s.size ≤ maxLen) :
    (Instr.lookup t (.map (some B)) (.string s) false).run Try.prog w = .ok (val ((f s).getD z0)) w := by
  obtain ⟨D, hD, hf⟩ := h
  obtain ⟨v, ps, hrun, hv⟩ := hD.lookup keyed_str ht (L.zero w) (L.lay z0 L.okz) (keyOf_string_mk Try.underlying9 hs)
  rw [hrun]
  obtain ⟨h1, h2⟩ := hf s
  cases hfs : f s with
  | none =>
    have := h1 hfs
    rw [show (Lit.string s.data.toList) = litK s from rfl, atKey_of_not_has this] at hv
    rw [L.inv _ _ _ hv]
    rfl
  | some x =>
    rw [show (Lit.string s.data.toList) = litK s from rfl, (h2 x hfs).2] at hv
    rw [L.inv _ _ _ hv]
    rfl
theorem OwnsF.lookOk (L : ElemLaw E α enc val ok z0) (h : OwnsF E enc w B n f) {t : TypeId} (ht : Try.prog.underlying t = some (.map 9 E)) {s : ByteArray} (hs : s.size ≤ maxLen) :
    (Instr.lookup t (.map (some B)) (.string s) true).run Try.prog w = .ok (.tuple #[val ((f s).getD z0), .bool (f s).isSome]) w := by
  obtain ⟨D, hD, hf⟩ := h
  obtain ⟨v, ps, hrun, hv⟩ := hD.look_ok keyed_str ht (L.zero w) (L.lay z0 L.okz) (keyOf_string_mk Try.underlying9 hs)
  rw [hrun]
  obtain ⟨h1, h2⟩ := hf s
  cases hfs : f s with
  | none =>
    have := h1 hfs
    rw [show (Lit.string s.data.toList) = litK s from rfl] at hv ⊢
    rw [atKey_of_not_has this] at hv
    rw [L.inv _ _ _ hv, this]
    rfl
  | some x =>
    rw [show (Lit.string s.data.toList) = litK s from rfl] at hv ⊢
    rw [(h2 x hfs).2] at hv
    rw [L.inv _ _ _ hv, (h2 x hfs).1]
    rfl
theorem litK_inj {a b : ByteArray} (h : litK a = litK b) : a = b := by unfold litK at h; injection h with h; exact ba_inj h
theorem OwnsF.update (L : ElemLaw E α enc val ok z0) (h : OwnsF E enc w B n f) {t : TypeId} (ht : Try.prog.underlying t = some (.map 9 E)) (hn : n < maxLen) {s : ByteArray} (hs : s.size ≤ maxLen) {x : α} (hx : ok x) :
    ∃ w', (Instr.mapUpdate t (.map (some B)) (.string s) (val x)).run Try.prog w = .ok () w' ∧ OwnsF E enc w' B (n + 1) (fun u => if u = s then some x else f u) ∧ w.grownBy w' (some B) := by
  obtain ⟨D, hD, hf⟩ := h
  obtain ⟨w', hrun, h1, h2⟩ := hD.update keyed_str ht hn (keyOf_string_mk Try.underlying9 hs) (L.lay x hx)
  refine ⟨w', hrun, ⟨_, h1, fun u => ?_⟩, h2⟩
  have hm := hD.isMap
  have hk : WideAt.IsKeyLit (litK s) := trivial
  dsimp only
  by_cases e : u = s
  · subst e
    rw [if_pos rfl]
    exact ⟨fun h => (by cases h), fun y hy => by
      injection hy with hy
      subst hy
      exact ⟨has_put_same hm hk _, fun zd => atKey_put_same hm hk _ zd⟩⟩
  · rw [if_neg e]
    have hne : litK u ≠ litK s := fun h => e (litK_inj h)
    exact ⟨fun h => by rw [← (hf u).1 h]; exact has_put_other hne _, fun y hy => ⟨by rw [← ((hf u).2 y hy).1]; exact has_put_other hne _, fun zd => by rw [← ((hf u).2 y hy).2 zd]; exact atKey_put_other hne _ _⟩⟩
end
end Go.Proofs.Ytdahgfopighhlaa
