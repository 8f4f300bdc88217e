import Derived.Test.YtlgajongmkhcnaaGreatDoorQUZ
import Derived.Below
import Derived.OneCell
import Derived.Maps.AppendAt
import Derived.OwnWalk
import Derived.ArgAppend
set_option linter.unusedVariables false
set_option maxHeartbeats 32000000
namespace Go.Proofs.YtlgajongmkhcnaaGreatDoor
open Go.RowKit
section
variable {w w' : World} {base : Nat} {e : TypeId} {size : Nat} {v : Value} {n : Nat} {xs : List Value}
theorem Zbs {g cap : Nat} (ho : w.ownsRow base e size (.slice (some ⟨g, 0, none⟩) n cap) n xs) {j : Nat} (hj : j < xs.length) (u : Value) : (w.setCell ⟨g, j, none⟩ u).ownsRow base e size (.slice (some ⟨g, 0, none⟩) n cap) n (xs.set j u) := by
 obtain ⟨h1, ⟨h2, _⟩ | ⟨g', cap', cur, hv, hb, hg, pA, pB, pC, pD⟩⟩ := ho
 ·cases h2
 injection hv with e1 e2 e3
 injection e1 with e1
 injection e1 with e1
 subst e1
 subst e3
 have pE : j < cur.size := by
  have := Kcm size pA
  omega
 refine ⟨by rw [Kb8]; exact h1, .inr ⟨g, cap, cur.setIfInBounds j u, rfl, hb, ?_, pA, pB, by rw [Array.size_setIfInBounds]; exact pC, ?_⟩⟩
 ·show (w.1.modify g _)[g]? = _
  rw [Kap, if_pos rfl, hg]
  rfl
 ·rw [Array.toList_setIfInBounds, <- pD, List.take_set]
theorem Z6h (ho : w.ownsRow base e size v n xs) {base' : Nat} (hb : base' <= base) : w.ownsRow base' e size v n xs := by
 obtain ⟨h1, h2 | ⟨g, cap, cur, rfl, hb', hr⟩⟩ := ho
 ·exact ⟨h1, .inl h2⟩
 ·exact ⟨h1, .inr ⟨g, cap, cur, rfl, Kaw hb hb', hr⟩⟩
end
end Go.Proofs.YtlgajongmkhcnaaGreatDoor
