/-
  Contracts of letterbagkit.SameTexts and letterbaglaw08.Same.
-/
import Derived.Test.YtdcpmnkebhilpaaGreatDoorTo4
import Derived.RegionTactic
import Derived.ChangeAlike
import Derived.Deep.QuietTactic
import Derived.BigQuiet
namespace Go.Proofs.YtdcpmnkebhilpaaGreatDoor
open Go.RowKit
set_option linter.unusedVariables false
theorem ba_eq (a b : ByteArray) : (a.toList == b.toList) = decide (a = b) := by
  rw [ByteArray.toList_eq, ByteArray.toList_eq, Bool.eq_iff_iff]
  simp only [beq_iff_eq, decide_eq_true_eq]
  exact ⟨fun h => WideShapes.bytes_inj h, fun h => by rw [h]⟩
def ReadsT (w : World) (v : Value) (ls : List ByteArray) : Prop :=
  ∃ a cap, v = .slice a ls.length cap ∧ (0 < ls.length → ∃ g off, a = some ⟨g, off, none⟩ ∧ g < w.heap.size ∧ ∀ i (h : i < ls.length), w.cell? ⟨g, off + i, none⟩ = some (.string ls[i]))
theorem ReadsT.of_row {w : World} {v : Value} {base : Nat} {ls : List ByteArray} (ho : w.ownsRow base 9 1 v ls.length (ls.map Value.string)) : ReadsT w v ls := by
  rcases Joins.ownsRow_forms ho with ⟨rfl, hp⟩ | ⟨g, cap, rfl⟩
  · obtain rfl : ls = [] := List.length_eq_zero_iff.1 hp
    exact ⟨none, 0, rfl, fun h => absurd h (by simp)⟩
  · exact ⟨_, cap, rfl, fun _ => ⟨g, 0, rfl, (ho.lt g rfl).2, fun i h => by rw [Nat.zero_add]; exact row_cell ho h⟩⟩
theorem ext_getElem? {xs ys : List ByteArray} (hl : xs.length = ys.length) (h : ∀ j, j < xs.length → xs[j]? = ys[j]?) : xs = ys := by
  apply List.ext_getElem?
  intro j
  by_cases hj : j < xs.length
  · exact h j hj
  · rw [List.getElem?_eq_none (by omega), List.getElem?_eq_none (by omega)]
set_option maxHeartbeats 1000000 in
theorem sameTexts_any (xs ys : List ByteArray) (va vb : Value) (w : World) (hx : ReadsT w va xs) (hy : ReadsT w vb ys) (hlx : xs.length ≤ 60000) (hly : ys.length ≤ 60000) :
    Calls Tryz.prog 27 #[va, vb] w fun e w' => e = .returned (.bool (decide (xs = ys))) ∧ Below w.heap.size w w' := by
  obtain ⟨a, ca, rfl, hax⟩ := hx
  obtain ⟨b, cb, rfl, hby⟩ := hy
  have HX := Lib.hid hax
  have HY := Lib.hid hby
  clear hax hby
  by_cases hl : xs.length = ys.length
  · have hne : ((xs.length : Int) != (ys.length : Int)) = false := by simp [hl]
    have hle1 : xs.length ≤ ys.length := by omega
    have hle2 : ys.length ≤ xs.length := by omega
    have HL := Lib.hid hl
    clear hl
    go_enter Tryz.func27, Tryz.ntmps27
    go_wp2_with fail
    go_loopw [5] (fun i wr => ∃ k : Nat, k ≤ xs.length ∧ i = .int .i64 k ∧ Hid (∀ j, j < k → xs[j]? = ys[j]?) ∧ Below w.heap.size w wr) (fun i _ => xs.length - (intOf i).toNat)
    case atStart => exact ⟨0, Nat.zero_le _, rfl, fun j h => by omega, Below.refl _ _⟩
    case round =>
      obtain ⟨k, hk, rfl, ha, hb⟩ := hrel
      by_cases hlt : k < xs.length
      · obtain ⟨gx, ox, rfl, hgx, hcx⟩ := HX.out (by omega)
        obtain ⟨gy, oy, rfl, hgy, hcy⟩ := HY.out (by omega)
        have hlt' : k < ys.length := by omega
        have c1 : wr.cell? ⟨gx, ox + k, none⟩ = some (.string xs[k]) := (hb.cell (p := ⟨gx, ox + k, none⟩) hgx).trans (hcx k hlt)
        have c2 : wr.cell? ⟨gy, oy + k, none⟩ = some (.string ys[k]) := (hb.cell (p := ⟨gy, oy + k, none⟩) hgy).trans (hcy k hlt')
        have he := ba_eq xs[k] ys[k]
        clear hcx hcy HX HY
        by_cases hkk : xs[k] = ys[k]
        · rw [decide_eq_true hkk] at he
          have hnx := upto_succ (P := fun j => xs[j]? = ys[j]?) ha.out (by show xs[k]? = ys[k]?; rw [List.getElem?_eq_getElem hlt, List.getElem?_eq_getElem hlt', hkk])
          have HN := Lib.hid hnx
          clear hnx hkk
          go_wp2_with fail
          go_region
          go_wp2_with fail
          go_roundw
          case rel => exact ⟨k + 1, by omega, by go_num, HN.out, hb.drew⟩
          case measure => simp [intOf]; omega
        · rw [decide_eq_false hkk] at he
          have hf : decide (xs = ys) = false := decide_eq_false (fun e => hkk (by subst e; rfl))
          have HF := Lib.hid hf
          clear hf hkk
          go_wp2_with fail
          go_region
          go_wp2_with fail
          go_ret
          exact ⟨ret_bool HF.out.symm, hb.drew⟩
      · have hf : decide (xs = ys) = true := decide_eq_true (ext_getElem? HL.out (fun j hj => ha j (by omega)))
        have HF := Lib.hid hf
        clear hf
        go_wp2_with fail
        go_ret
        exact ⟨ret_bool HF.out.symm, hb⟩
  · have hne : ((xs.length : Int) != (ys.length : Int)) = true := by simp; omega
    have hf : decide (xs = ys) = false := decide_eq_false (fun e => hl (by rw [e]))
    have HF := Lib.hid hf
    clear hf
    go_enter Tryz.func27, Tryz.ntmps27
    go_wp2_with fail
    go_ret
    exact ⟨ret_bool HF.out.symm, Below.refl _ _⟩
end Go.Proofs.YtdcpmnkebhilpaaGreatDoor
