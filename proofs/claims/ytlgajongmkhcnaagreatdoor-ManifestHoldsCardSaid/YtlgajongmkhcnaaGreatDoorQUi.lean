import Derived.Test.YtlgajongmkhcnaaGreatDoorQUK
import Derived.Deep.RegionHeld3
import Derived.Deep.DrawnRows
set_option maxRecDepth 100000
set_option linter.unusedVariables false
set_option linter.unusedSimpArgs false
set_option maxHeartbeats 32000000
namespace Go.Proofs.YtlgajongmkhcnaaGreatDoor
open Go.RowKit
def ZmP (g o : Nat) : Obj := .cells #[.pointer (some ⟨g, o, none⟩), .pointer (some ⟨g, o + 1, none⟩), .pointer (some ⟨g, o + 2, none⟩), .pointer (some ⟨g, o + 3, none⟩), .pointer (some ⟨g, o + 4, none⟩), .pointer (some ⟨g, o + 5, none⟩), .pointer (some ⟨g, o + 6, none⟩), .pointer (some ⟨g, o + 7, none⟩)] 72
theorem ZlE (g o : Nat) (w : World) : Calls Tryz.prog 15 #[.pointer (some ⟨g, o, none⟩)] w fun e w' => e = .returned (.slice (some ⟨w.1.size, 0, none⟩) 8 8) /\ Below w.1.size w w' /\ w'.1[w.1.size]? = some (ZmP g o) := by
 have hb := (Z9 w.1.size w).alloc (Z1 _) (ZmP g o)
 have hn := Z02 w (ZmP g o)
 have HB := Z0 hb
 have HN := Z0 hn
 clear hb hn
 unfold ZmP at HB HN
 go_enter Tryz.func15, Tryz.ntmps15
 go_wp2_with fail
 go_region_held3 (fun w' => True) (exact True.intro) (fail)
 go_wp2_with fail
 go_ret
 exact ⟨rfl, HB.out.drew, HN.out⟩
end Go.Proofs.YtlgajongmkhcnaaGreatDoor
