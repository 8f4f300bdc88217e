import Derived.Test.YtlgajongmkhcnaaGreatDoorQU1
import Derived.Lib.QuietBelow
import Derived.BigQuiet
set_option linter.unusedVariables false
set_option maxHeartbeats 32000000
namespace Go.Proofs.YtlgajongmkhcnaaGreatDoor
open Go.RowKit Go.Sort
theorem Z8a {P : Program} {f : FuncId} {args : Array Value} {w : World} {v : Value} (h : ∀ W, Below w.1.size w W -> Calls P f args W fun e w' => e = .returned v /\ Below W.1.size W w') (p : Regrown) :
 Calls P f args (grow (redrawn w p.d) p.os) fun e w'' => e = .returned v /\ ∃ p : Regrown, w'' = grow (redrawn w p.d) p.os :=
 Calls.regrown_of (h _ (below_regrown w p.d p.os))
theorem Z2p {w : World} {a : Addr} {v : Value} (h : w.cell? a = some v) : ∀ p : Regrown, (grow (redrawn w p.d) p.os).cell? a = some v := fun p => cell_regrown h p.d p.os
theorem ZgD (w : World) (p : Regrown) : Below w.1.size w (grow (redrawn w p.d) p.os) := below_regrown w p.d p.os
end Go.Proofs.YtlgajongmkhcnaaGreatDoor
