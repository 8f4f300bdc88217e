import Derived.Test.YtlgajongmkhcnaaGreatDoorRows
import Derived.Test.YtlgajongmkhcnaaGreatDoorQW7
import Derived.ProofKit
import Derived.OpenShut
import Derived.ShutString
import Derived.SliceStrings
import Derived.Carry
set_option linter.unusedVariables false
set_option linter.unusedSimpArgs false
set_option maxHeartbeats 32000000
namespace Go.Proofs.YtlgajongmkhcnaaGreatDoor
open Go.ChangeShapes Go.WideShapes Go.ChangeAt Go.RowKit
theorem own : ownKnob Tryz.prog.godebug = none := by kernel_rfl
theorem laidOut : laidOutB Tryz.prog = true := by kernel_rfl
theorem Z9c {n : Int} (h : (Lit.int .u32 n).wf = true) : 0 <= n /\ n < 4294967296 := by
 simp only [Lit.wf, ZF, Kab] at h
 have h0 : (0 : Int) <= n := h.1
 have h1 : n <= 4294967295 := h.2
 omega
theorem ZdI {n : Int} (h : (Lit.int .u16 n).wf = true) : 0 <= n /\ n < 65536 := by
 simp only [Lit.wf, ZF, Kab] at h
 have h0 : (0 : Int) <= n := h.1
 have h1 : n <= 65535 := h.2
 omega
theorem ZfQ {n : Int} (h : (Lit.int .u8 n).wf = true) : ∃ c : UInt8, n = (c.toNat : Int) := by
 simp only [Lit.wf, ZF, Kab] at h
 have h0 : (0 : Int) <= n := h.1
 have h1 : n <= 255 := h.2
 exact ⟨UInt8.ofNat n.toNat, by rw [UInt8.toNat_ofNat']; omega⟩
end Go.Proofs.YtlgajongmkhcnaaGreatDoor
