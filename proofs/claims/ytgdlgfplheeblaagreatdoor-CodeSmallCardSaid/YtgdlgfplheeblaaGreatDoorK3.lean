/-
  Contracts of package digit at the system Perm: passes.
-/
import Derived.Test.YtgdlgfplheeblaaGreatDoorK2
namespace Go.Proofs.YtgdlgfplheeblaaGreatDoor
open Go.RowKit
set_option linter.unusedVariables false
set_option maxRecDepth 100000
theorem alloc_set (w : World) (o o' : Obj) : ({ w.alloc o with heap := (w.alloc o).heap.setIfInBounds w.heap.size o' } : World) = w.alloc o' := by
  have e : (w.heap.push o).setIfInBounds w.heap.size o' = w.heap.push o' := by
    apply Array.ext
    · simp
    · intro i h1 h2
      simp only [Array.size_setIfInBounds, Array.size_push] at h1
      rw [Array.getElem_setIfInBounds (by simp; omega)]
      split
      · rename_i h; subst h; simp
      · rw [Array.getElem_push_lt (by omega), Array.getElem_push_lt (by omega)]
  show ({ w with heap := (w.heap.push o).setIfInBounds w.heap.size o' } : World) = _
  rw [e]
  rfl
theorem ins_new (w : World) (es : Array MapEntry) (clock : Nat) (k : Int) (val : Value) (h : Instr.findNow (.int .u8) (.int .u8 k) es.toList 0 = some none) :
    (Instr.mapUpdate 140 (.map (some w.heap.size)) (.int .u8 k) val).run Tryz.prog (w.alloc (.map es clock)) = .ok () (w.alloc (.map (es.push { key := .int .u8 k, val := val, born := clock }) (clock + 1))) := by
  have hb : (w.alloc (.map es clock)).heap[w.heap.size]? = some (.map es clock) := (MapKept.heap_alloc w _).1
  have hk : Tryz.prog.underlying 5 = some (.int .u8) := Tryz.underlying5
  have hc : (Instr.checkKey false 10000 5 (.int .u8 k)).run Tryz.prog (w.alloc (.map es clock)) = .ok () (w.alloc (.map es clock)) := MapKept.run_checkKey (k := .int .u8 k) hk (by simp [MapKept.IsKey]) false 9999
  simp only [Instr.mapUpdate, Sem.run_bind, run_underlying Tryz.underlying140, MapKept.run_getObj_map hb, hc, MapKept.run_findKey hk h, MapKept.run_setObj_map _ hb, Result.andThen, alloc_set]
theorem look_known {W : World} {r : Nat} {es : Array MapEntry} {clock : Nat} (hb : W.heap[r]? = some (.map es clock)) (k : Int) (i : Nat) (val : Value) (h : Instr.findNow (.int .u8) (.int .u8 k) es.toList 0 = some (some (i, val))) :
    (Instr.lookup 140 (.map (some r)) (.int .u8 k) true).run Tryz.prog W = .ok (.tuple #[val, .bool true]) W := by
  have hk : Tryz.prog.underlying 5 = some (.int .u8) := Tryz.underlying5
  have hc : ∀ e, (Instr.checkKey e 10000 5 (.int .u8 k)).run Tryz.prog W = .ok () W := fun e => MapKept.run_checkKey (k := .int .u8 k) hk (by simp [MapKept.IsKey]) e 9999
  simp [Instr.lookup, Sem.run_bind, run_underlying Tryz.underlying140, MapKept.run_getObj_map hb, hc, MapKept.run_findKey hk h, Result.andThen]
def fnV (n : Nat) : Value := .func (.func n) #[] #[]
abbrev kinds4 : Array MapEntry := #[{ key := .int .u8 1, val := .func (.func 101) #[] #[], born := 0 }, { key := .int .u8 2, val := .func (.func 102) #[] #[], born := 1 }, { key := .int .u8 3, val := .func (.func 103) #[] #[], born := 2 }, { key := .int .u8 4, val := .func (.func 104) #[] #[], born := 3 }]
set_option maxHeartbeats 4000000 in
theorem passes_any (vs : List Nat) (v : Value) (w : World) (hr : RdNats w v vs) (hv : ∀ x ∈ vs, x < 10) (hl : vs.length ≤ 1000) :
    Calls Tryz.prog 53 #[sysA, v] w fun e w' => e = .returned (.bool (permB vs)) ∧ Below w.heap.size w w' := by
  obtain ⟨W1, hW1⟩ : ∃ W1, w.alloc (.cells #[.int .u8 4, .slice none 0 0] 62) = W1 := ⟨_, rfl⟩
  have hb1 : Below w.heap.size w W1 := by rw [← hW1]; exact (Below.refl _ _).alloc (Nat.le_refl _) _
  have HP := Lib.hid (fun W (h : Below w.heap.size w W) => perm_any vs v W (hr.below h) hv hl)
  obtain ⟨va, vcap, rfl, _⟩ := hr
  have hmm := @run_makeMap Tryz.prog
  have hsz : (w.alloc (.cells #[.int .u8 4, .slice none 0 0] 62)).heap.size = w.heap.size + 1 := by simp
  have i1 := ins_new (w.alloc (.cells #[.int .u8 4, .slice none 0 0] 62)) #[] 0 1 (.func (.func 101) #[] #[]) rfl
  have i2 := ins_new (w.alloc (.cells #[.int .u8 4, .slice none 0 0] 62)) #[{ key := .int .u8 1, val := .func (.func 101) #[] #[], born := 0 }] 1 2 (.func (.func 102) #[] #[]) rfl
  have i3 := ins_new (w.alloc (.cells #[.int .u8 4, .slice none 0 0] 62)) #[{ key := .int .u8 1, val := .func (.func 101) #[] #[], born := 0 }, { key := .int .u8 2, val := .func (.func 102) #[] #[], born := 1 }] 2 3 (.func (.func 103) #[] #[]) rfl
  have i4 := ins_new (w.alloc (.cells #[.int .u8 4, .slice none 0 0] 62)) #[{ key := .int .u8 1, val := .func (.func 101) #[] #[], born := 0 }, { key := .int .u8 2, val := .func (.func 102) #[] #[], born := 1 }, { key := .int .u8 3, val := .func (.func 103) #[] #[], born := 2 }] 3 4 (.func (.func 104) #[] #[]) rfl
  have hlk := look_known (W := (w.alloc (.cells #[.int .u8 4, .slice none 0 0] 62)).alloc (.map kinds4 4)) (MapKept.heap_alloc _ _).1 4 3 (.func (.func 104) #[] #[]) rfl
  rw [hsz] at i1 i2 i3 i4 hlk
  clear hsz
  simp only [List.push_toArray, List.nil_append, List.cons_append, Nat.reduceAdd] at i1 i2 i3 i4
  unfold sysA at HP ⊢
  clear hv hl hW1 hb1
  go_enter Tryz.func53, Tryz.ntmps53
  go_wp2_with fail
  refine (HP.out _ (((Below.refl _ w).alloc (Nat.le_refl _) _).alloc (by simp) _)).mono ?_
  rintro e w2 ⟨rfl, hb2⟩
  have hb3 : Below w.heap.size w w2 := (((Below.refl _ w).alloc (Nat.le_refl _) _).alloc (by simp) _).trans (hb2.mono (by simp; omega))
  clear hb2
  go_wp2_with fail
  go_ret
  exact ⟨rfl, hb3⟩
end Go.Proofs.YtgdlgfplheeblaaGreatDoor
