import Derived.Test.YtlgajongmkhcnaaGreatDoorQZ
import Derived.Test.YtlgajongmkhcnaaGreatDoorRows
import Derived.Test.YtlgajongmkhcnaaGreatDoorQ7
import Derived.ProofKit
import Derived.OpenShut
import Derived.ShutString
import Derived.SliceStrings
import Derived.Carry
set_option linter.unusedVariables false
set_option linter.unusedSimpArgs false
set_option maxHeartbeats 32000000
namespace Go.Proofs.YtlgajongmkhcnaaGreatDoor
open Go.ChangeShapes Go.WideShapes Go.ChangeAt Go.RowKit
theorem own : ownKnob Tryz.prog.godebug = none := by kernel_rfl
theorem laidOut : laidOutB Tryz.prog = true := by kernel_rfl
theorem Z5Z {n : Int} (h : (Lit.int .u32 n).wf = true) : 0 <= n /\ n < 4294967296 := by
 simp only [Lit.wf, ZF, decide_eq_true_eq] at h
 have h0 : (0 : Int) <= n := h.1
 have h1 : n <= 4294967295 := h.2
 omega
theorem Zdy {n : Int} (h : (Lit.int .u16 n).wf = true) : 0 <= n /\ n < 65536 := by
 simp only [Lit.wf, ZF, decide_eq_true_eq] at h
 have h0 : (0 : Int) <= n := h.1
 have h1 : n <= 65535 := h.2
 omega
theorem Zbr {n : Int} (h : (Lit.int .u8 n).wf = true) : ∃ c : UInt8, n = (c.toNat : Int) := by
 simp only [Lit.wf, ZF, decide_eq_true_eq] at h
 have h0 : (0 : Int) <= n := h.1
 have h1 : n <= 255 := h.2
 exact ⟨UInt8.ofNat n.toNat, by rw [UInt8.toNat_ofNat']; omega⟩
theorem ZgW : Tryz.prog.cellsOf 5 = 1 := by kernel_rfl
set_option maxRecDepth 100000 in
theorem Z2t {H : Type} {enc : TypeId × Value -> H} {W : World} {base : Nat} {v : Value} {d : DataW H} {ps : List MemPlace} (hval : Value.okWide Tryz.prog W .any base 23 v)
 (h : DataW.Trod enc Tryz.prog W 0 (fun _ => true) true 23 v d ps) : ∃ bs : List UInt8, RdBytes W v bs /\ bs.length <= maxLen /\ True := by
 obtain ⟨a0, len, cap, rfl⟩ := okWide_slice Tryz.underlying23 hval
 obtain ⟨fuel, hf⟩ := h
 rcases open_ints Tryz.underlying23 Tryz.underlying5 ZgW hf with ⟨hcs, hx⟩ | ⟨a, len', cap', zs, hcs, _, hl, hm, hz, hx, hcell, hwz⟩
 ·simp [Value.cells] at hcs
  obtain ⟨rfl, rfl, rfl⟩ := hcs
  exact ⟨[], ⟨none, 0, rfl, fun h => absurd h (by simp)⟩, ZE _, trivial⟩
 ·simp [Value.cells] at hcs
  obtain ⟨rfl, rfl, rfl⟩ := hcs
  simp only [if_true] at hz
  obtain ⟨b, off, spot⟩ := a
  have hmap : ∀ i, i < len -> ∃ c : UInt8, zs.getD i 0 = (c.toNat : Int) := fun i hi => by
   have hi' : i < zs.length := by omega
   have := hwz (zs.getD i 0) (by rw [Z2, Z3 hi']; exact Z4 hi')
   exact Zbr this
  refine ⟨(List.range len).map (fun i => UInt8.ofNat (zs.getD i 0).toNat), ⟨some ⟨b, off, spot⟩, cap, by simp, fun h0 => ?_⟩, by simp; omega, trivial⟩
  have hl0 : 0 < len := by simpa using h0
  have hspot : spot = none := by simpa [Addr.add] using World.cell?_spot (hcell 0 (by omega))
  subst hspot
  have hcc : ∀ i, i < len -> W.cell? ⟨b, off + i, none⟩ = some (.int .u8 (zs.getD i 0)) := fun i hi => by
   have := hcell i (by omega)
   have ea : (⟨b, off, none⟩ : Addr).add i = ⟨b, off + i, none⟩ := by unfold Addr.add; split <;> simp_all
   rw [ea] at this
   exact this
  refine ⟨b, off, rfl, Z5e (hcc 0 hl0), fun i hi => ?_⟩
  have hi' : i < len := by simpa using hi
  obtain ⟨c, hc⟩ := hmap i hi'
  rw [hcc i hi', List.getElem_map, List.getElem_range, hc]
  simp
end Go.Proofs.YtlgajongmkhcnaaGreatDoor
