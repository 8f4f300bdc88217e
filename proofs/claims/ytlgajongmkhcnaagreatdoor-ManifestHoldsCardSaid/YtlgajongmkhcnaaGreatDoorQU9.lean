import Derived.Test.YtlgajongmkhcnaaGreatDoorRows
import Derived.Test.YtlgajongmkhcnaaGreatDoorQU7
import Derived.ProofKit
import Derived.OpenShut
import Derived.ShutString
import Derived.SliceStrings
import Derived.Carry
set_option linter.unusedVariables false
set_option linter.unusedSimpArgs false
set_option maxHeartbeats 32000000
namespace Go.Proofs.YtlgajongmkhcnaaGreatDoor
open Go.ChangeShapes Go.WideShapes Go.ChangeAt Go.RowKit
theorem own : ownKnob Tryz.prog.godebug = none := by kernel_rfl
theorem laidOut : laidOutB Tryz.prog = true := by kernel_rfl
theorem Z2P {n : Int} (h : (Lit.int .u32 n).wf = true) : 0 <= n /\ n < 4294967296 := by
 simp only [Lit.wf, ZF, Kab] at h
 have h0 : (0 : Int) <= n := h.1
 have h1 : n <= 4294967295 := h.2
 omega
theorem Zeq {n : Int} (h : (Lit.int .u16 n).wf = true) : 0 <= n /\ n < 65536 := by
 simp only [Lit.wf, ZF, Kab] at h
 have h0 : (0 : Int) <= n := h.1
 have h1 : n <= 65535 := h.2
 omega
theorem ZgS {n : Int} (h : (Lit.int .u8 n).wf = true) : ∃ c : UInt8, n = (c.toNat : Int) := by
 simp only [Lit.wf, ZF, Kab] at h
 have h0 : (0 : Int) <= n := h.1
 have h1 : n <= 255 := h.2
 exact ⟨UInt8.ofNat n.toNat, by rw [UInt8.toNat_ofNat']; omega⟩
theorem Zia : Tryz.prog.cellsOf 5 = 1 := by kernel_rfl
set_option maxRecDepth 100000 in
theorem Z19 {H : Type} {enc : TypeId × Value -> H} {W : World} {base : Nat} {v : Value} {d : DataW H} {ps : List MemPlace} (pD : Value.okWide Tryz.prog W .any base 23 v)
 (h : DataW.Trod enc Tryz.prog W 0 (fun _ => true) true 23 v d ps) : ∃ bs : List UInt8, RdBytes W v bs /\ bs.length <= maxLen /\ True := by
 obtain ⟨a0, len, cap, rfl⟩ := okWide_slice Tryz.underlying23 pD
 obtain ⟨fuel, hf⟩ := h
 rcases open_ints Tryz.underlying23 Tryz.underlying5 Zia hf with ⟨pA, hx⟩ | ⟨a, len', cap', zs, pA, _, hl, hm, hz, hx, pB, pE⟩
 ·simp [Value.cells] at pA
  obtain ⟨rfl, rfl, rfl⟩ := pA
  exact ⟨[], ⟨none, 0, rfl, fun h => absurd h (by simp)⟩, ZE _, trivial⟩
 ·simp [Value.cells] at pA
  obtain ⟨rfl, rfl, rfl⟩ := pA
  simp only [if_true] at hz
  obtain ⟨b, off, spot⟩ := a
  have pF : ∀ i, i < len -> ∃ c : UInt8, zs.getD i 0 = (c.toNat : Int) := fun i hi => by
   have hi' : i < zs.length := by omega
   have := pE (zs.getD i 0) (by rw [Z2, Z3 hi']; exact Z4 hi')
   exact ZgS this
  refine ⟨(List.range len).map (fun i => UInt8.ofNat (zs.getD i 0).toNat), ⟨some ⟨b, off, spot⟩, cap, by simp, fun h0 => ?_⟩, by simp; omega, trivial⟩
  have pG : 0 < len := by simpa using h0
  have pH : spot = none := by simpa [Addr.add] using World.cell?_spot (pB 0 (by omega))
  subst pH
  have pC : ∀ i, i < len -> W.cell? ⟨b, off + i, none⟩ = some (.int .u8 (zs.getD i 0)) := fun i hi => by
   have := pB i (by omega)
   have ea : (⟨b, off, none⟩ : Addr).add i = ⟨b, off + i, none⟩ := by unfold Addr.add; split <;> simp_all
   rw [ea] at this
   exact this
  refine ⟨b, off, rfl, Z5J (pC 0 pG), fun i hi => ?_⟩
  have hi' : i < len := by simpa using hi
  obtain ⟨c, hc⟩ := pF i hi'
  rw [pC i hi', Kba, Kbv, hc]
  simp
end Go.Proofs.YtlgajongmkhcnaaGreatDoor
