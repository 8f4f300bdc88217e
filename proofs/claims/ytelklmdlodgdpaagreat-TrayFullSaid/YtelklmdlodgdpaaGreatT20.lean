/-
  TrayFull at what Made brings.
-/
import Derived.Test.YtelklmdlodgdpaaGreatRU
import Derived.Test.YtelklmdlodgdpaaGreatT18
namespace Go.Proofs.YtelklmdlodgdpaaGreat
open Go.RowKit
set_option linter.unusedVariables false
set_option maxRecDepth 100000
theorem trayFull_walk {n b : Int} {least cents : List UInt8} {l : List UInt16} {vl vc vs : Value} {w : World} (hn0 : 0 ≤ n) (hn1 : n < 4294967296) (hb0 : 0 ≤ b) (hb1 : b < 4294967296) (hrl : RdBytes w vl least) (hrc : RdBytes w vc cents) (hrs : RdU16C w vs l)
    (hll : least.length ≤ maxLen) (hcl : cents.length ≤ maxLen) (hsl : l.length ≤ maxLen) :
    Calls Tryz.prog 3 #[.int .u32 n, vl, vc, vs, .int .u32 b] w fun e w' => e = .returned (.bool true) ∧ Below w.heap.size w w' := by
  obtain ⟨bN, rfl⟩ : ∃ bN : Nat, b = (bN : Int) := ⟨b.toNat, (Int.toNat_of_nonneg hb0).symm⟩
  have hp := made_hp n least cents l 300 (by decide)
  refine full_walk n bN vl vc vs w (made_b hn0 hn1 (by omega) hrl hrc hrs hll hcl hsl (by decide)) (pack_b hp (pckBy_ok bN) (pckBy_grams bN _)) ?_ (pkd_b hp (pckBy_ok bN) (pckBy_grams bN _)) (by rw [List.length_take]; exact Nat.min_le_left _ _) hp.mail (pckBy_ok bN)
  rw [planM_len]
  exact ps24_len _ _
end Go.Proofs.YtelklmdlodgdpaaGreat
