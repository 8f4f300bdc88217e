/-
  Contracts of letterbaglaw08.digits and letterbagkit.Pick.
-/
import Derived.Test.YtdcpmnkebhilpaaGreatDoorLp
import Derived.Laws.IdiomStrings
import Derived.Deep.RegionWith
import Derived.IntWalk
import Derived.Outline
namespace Go.Proofs.YtdcpmnkebhilpaaGreatDoor
open Go.RowKit
set_option linter.unusedVariables false
theorem conv1 (x : Int) (c : UInt8) (hx : (c.toNat : Int) = x) (W : World) (b : Nat) (hc : W.cell? ⟨b, 0, none⟩ = some (.int .u8 x)) :
    Sem.run Tryz.prog (convert 23 9 (.slice (some ⟨b, 0, none⟩) 1 1)) W = .ok (.string ⟨#[c]⟩) W :=
  run_convert_bytes_back (P := Tryz.prog) W 23 9 5 ⟨b, 0, none⟩ 1 [c] Tryz.underlying23 Tryz.underlying5 Tryz.underlying9 (fun j hj => by
    obtain rfl : j = 0 := by simp at hj; omega
    subst hx; exact hc)
end Go.Proofs.YtdcpmnkebhilpaaGreatDoor
