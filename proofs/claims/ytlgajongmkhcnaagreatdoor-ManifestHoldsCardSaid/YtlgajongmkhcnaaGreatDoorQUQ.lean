import Derived.Test.YtlgajongmkhcnaaGreatDoorQU9
import Derived.Test.YtlgajongmkhcnaaGreatDoorQUI
import Derived.Test.YtlgajongmkhcnaaGreatDoorQUJ
import Derived.Test.YtlgajongmkhcnaaGreatDoorQUN
import Derived.Test.YtlgajongmkhcnaaGreatDoorTie
import Derived.Test.YtlgajongmkhcnaaGreatDoorCards
import Derived.Test.YtlgajongmkhcnaaGreatDoorQU6
import Derived.HandedShaped
import Derived.Handed
import Derived.ProofKit
import Derived.OpenShut
import Derived.ShutString
import Derived.LaidMore
import Derived.LaidSub
import Derived.Lay
import Derived.SevenTiedAt
import Derived.Stop.Joined
import Derived.Carry
import Derived.Lib.LaidTab
import Derived.SizedLaws
set_option maxRecDepth 100000
set_option linter.unusedVariables false
set_option linter.unusedSimpArgs false
set_option maxHeartbeats 32000000
namespace Go.Proofs.YtlgajongmkhcnaaGreatDoor
open Go.ChangeShapes Go.WideShapes Go.ChangeAt Go.RowKit
theorem Zgo : Tryz.prog.cellsOf 79 = 1 := by kernel_rfl
theorem Zdi {n : Int} (h : (Lit.int .u16 n).wf = true) : ∃ c : UInt16, n = (c.toNat : Int) := by
 have := Zeq h
 exact ⟨UInt16.ofNat n.toNat, by rw [UInt16.toNat_ofNat']; omega⟩
set_option maxRecDepth 100000 in
theorem Z41 {H : Type} {enc : TypeId × Value -> H} {W : World} {base : Nat} {v : Value} {d : DataW H} {ps : List MemPlace} (pB : Value.okWide Tryz.prog W .any base 24 v)
 (h : DataW.Trod enc Tryz.prog W 0 (fun _ => true) true 24 v d ps) : ∃ bs : List UInt16, RdU16 W v bs /\ bs.length <= maxLen /\ Z7H W v bs := by
 obtain ⟨a0, len, cap, rfl⟩ := okWide_slice Tryz.underlying24 pB
 obtain ⟨fuel, hf⟩ := h
 rcases open_ints Tryz.underlying24 Tryz.underlying79 Zgo hf with ⟨pA, hx⟩ | ⟨a, len', cap', zs, pA, _, hl, hm, hz, hx, pC, pQ⟩
 ·simp [Value.cells] at pA
  obtain ⟨rfl, rfl, rfl⟩ := pA
  have h0 : RdU16 W (.slice none 0 0) [] := ⟨none, 0, rfl, fun h => absurd h (by simp)⟩
  exact ⟨[], h0, ZE _, h0, .inl rfl⟩
 ·simp [Value.cells] at pA
  obtain ⟨rfl, rfl, rfl⟩ := pA
  simp only [if_true] at hz
  obtain ⟨b, off, spot⟩ := a
  have pR : ∀ i, i < len -> ∃ c : UInt16, zs.getD i 0 = (c.toNat : Int) := fun i hi => by
   have hi' : i < zs.length := by omega
   have := pQ (zs.getD i 0) (by rw [Z2, Z3 hi']; exact Z4 hi')
   exact Zdi this
  have hr : RdU16 W (.slice (some ⟨b, off, spot⟩) len cap) ((List.range len).map (fun i => UInt16.ofNat (zs.getD i 0).toNat)) := by
   refine ⟨some ⟨b, off, spot⟩, cap, by simp, fun h0 => ?_⟩
   have pS : 0 < len := by simpa using h0
   have pT : spot = none := by simpa [Addr.add] using World.cell?_spot (pC 0 (by omega))
   subst pT
   have pD : ∀ i, i < len -> W.cell? ⟨b, off + i, none⟩ = some (.int .u16 (zs.getD i 0)) := fun i hi => by
    have := pC i (by omega)
    have ea : (⟨b, off, none⟩ : Addr).add i = ⟨b, off + i, none⟩ := by unfold Addr.add; split <;> simp_all
    rw [ea] at this
    exact this
   refine ⟨b, off, rfl, Z5J (pD 0 pS), fun i hi => ?_⟩
   have hi' : i < len := by simpa using hi
   obtain ⟨c, hc⟩ := pR i hi'
   rw [pD i hi', Kba, Kbv, hc]
   simp
  refine ⟨(List.range len).map (fun i => UInt16.ofNat (zs.getD i 0).toNat), hr, by simp; omega, hr, .inr ⟨b, off, spot, cap, by simp, by simp; omega⟩⟩
theorem ZiC {n : Int} {b : Nat} {vl vc vs : Value} {least cents : List UInt8} {l : List UInt16} {most : Nat} {w : World} (pE : 0 <= n) (pF : n < 4294967296) (pG : b < 4294967296) (pH : RdBytes w vl least) (pI : RdBytes w vc cents) (pJ : Z7H w vs l)
 (pK : least.length <= maxLen) (pL : cents.length <= maxLen) (pM : l.length <= maxLen) (hm : most <= 2000) :
 ZjV #[.int .u32 n, vl, vc, vs, .int .i64 most, .int .u32 b] (Z1O (bitsOf n) (Z2s least 3) cents) (l.take most) (Z3W (Z1O (bitsOf n) (Z2s least 3) cents) (Z04 (l.take most))) (Z6X b) w := by
 intro W hW
 have pN : Z7H W vs l := ⟨pJ.1.below hW, pJ.2⟩
 by_cases hx : vs = .slice none 0 0
 ·exact ZdS n b vl vc vs least cents l most W pE pF pG (pH.below hW) (pI.below hW) pN pK pL pM hm hx
 ·exact ZbA n b vl vc vs least cents l most W pE pF pG (pH.below hW) (pI.below hW) pN pK pL pM hm hx
theorem ZfI (n : Int) (least cents : List UInt8) (l : List UInt16) (most : Nat) (hm : most <= 2000) : HasPlan (Z1O (bitsOf n) (Z2s least 3) cents) (Z04 (l.take most)) := Z5z _ _ _ _ (by rw [Kax]; omega)
section
variable {H : Type} {enc : TypeId × Value -> H} {P : Program} {w : World} {base : Nat} {spare : Nat -> Bool} {held : Bool}
end
section
variable {H : Type} {enc : TypeId × Value -> H}
theorem Z3w {a : Assume} {C : Checked} {os : Os} {f : FuncId} {fn : Func} {s : ChangeSpec} {conds : List PathCond} {apart fresh pO again : Bool} {l : List (String × DataW Unit)}
 (own : ownKnob C.prog.godebug = none) (started : os.Started) (noInit : C.prog.inits.idxOf? f = none) (pU : C.prog.funcs[f]? = some fn)
 (witness : ∃ (w : World) (tape : Tape) (i : Input), w.os = os /\ (w.forCall tape i).Shaped C.prog /\ i.vars = [] /\ Input.okWide C.prog (w.forCall tape i) .any w.1.size f i /\
  ((s.pre enc C.prog fn conds apart (w.forCall tape i).memory i.args /\ laidMetH C.prog l (w.forCall tape i).memory) /\ sizedMet enc C.prog fn (OpenSpec.ofChange s) apart (w.forCall tape i).memory i.args) /\ a.holds C.prog (lone (Frame.enter C.prog f i.args .normal) [] (w.forCall tape i)))
 (contract : ∀ (W : World) (base : Nat) (args : Array Value) (ds gs : List (DataW H)) (before : List MemPlace),
  (∀ (j : Nat) t v, fn.params[j]? = some t -> args[j]? = some v -> Value.okWide C.prog W .any base t v) ->
  DataW.Whole enc C.prog fn.params.toList s.vars apart W args.toList ds gs before ->
  (DataW.weightsEach C.prog (fn.params.toList ++ s.plain.varTypes C.prog) (ds ++ gs)).all (· <= reachBytes) = true ->
  W.ShapedOpen C.prog -> laidMetH C.prog l W ->
  Calls C.prog f args W fun e W' => ∃ v, e = .returned v /\ s.post enc C.prog fn apart fresh pO again W args v W') :
 ReturnsInHanded a C os f .any (fun w args => (s.pre enc C.prog fn conds apart w args /\ laidMetH C.prog l w) /\ sizedMet enc C.prog fn (OpenSpec.ofChange s) apart w args) (s.post enc C.prog fn apart fresh pO again) := by
 refine returnsInHanded_of_calls own started noInit witness ?_
 intro w tape i _ pV _ pW pX pZ
 obtain ⟨_, _, _, fn', pY, _, _, _, _, pB⟩ := pW
 have e : fn' = fn := Kav (pY.symm.trans pU)
 subst e
 obtain ⟨⟨⟨ds, gs, before, hw, hc⟩, hx⟩, hz⟩ := pX
 have hw' := DataW.Whole.of_heap (w' := w.forCall tape i) (by rfl) hw
 have hx' : laidMetH C.prog l (w.forCall tape i) := laidMetH.of_heap (by rfl) hx
 refine (contract (w.forCall tape i) w.1.size i.args ds gs before pB hw' (hz.weights hw) pV hx').mono fun e W' ⟨v, he, hp⟩ => ?_
 subst he
 exact ChangeSpec.post_blind hp
theorem Z7F {P : Program} (hl : laidOutB P = true) {W W' : World} (hb : Below W.1.size W W') :
 ∀ {ts : List TypeId} {vs : List Value} {ds : List (DataW H)} {ps : List MemPlace}, (ts.all fun t => P.readableRec t && decide (t < P.types.size)) = true -> DataW.TrodAll enc P W 0 (fun _ => true) true ts vs ds ps -> (∀ x ∈ ps, x.block < W.1.size) ->
  DataW.TrodAll enc P W' 0 (fun b => decide (b < W.1.size)) true ts vs ds ps
 | [], [], [], _, _, h, _ => h
 | [], _ :: _, _, _, _, h, _ => h.elim
 | [], [], _ :: _, _, _, h, _ => h.elim
 | _ :: _, [], _, _, _, h, _ => h.elim
 | _ :: _, _ :: _, [], _, _, h, _ => h.elim
 | t :: ts, v :: vs, d :: ds, ps, hr, h, pP => by
  obtain ⟨p, q, h1, h2, rfl⟩ := h
  rw [List.all_cons, ZF, ZF] at hr
  exact ⟨p, q, Below.trod hl hr.1.1 (of_decide_eq_true hr.1.2) h1 hb (fun x hx => pP x (by simp [hx])), Z7F hl hb hr.2 h2 (fun x hx => pP x (by simp [hx])), rfl⟩
end
theorem Zgq {W : World} {b o : Nat} {v : Value} (h : W.cell? ⟨b, o, none⟩ = some v) : b < W.1.size := by
 rcases Nat.lt_or_ge b W.1.size with h' | h'
 ·exact h'
 ·have : W.1[b]? = none := Kdi h'
  simp [World.cell?, this] at h
theorem Z6B {W : World} {l : List (String × DataW Unit)} (h : laidMetH Tryz.prog l W) (hp : (l.all fun x => x.2.handleName?.isNone) = true)
 (hf : l.filter (fun x => x.1 == "internal/strconv.uint64pow10") = [("internal/strconv.uint64pow10", Rows.laid_internal_strconv_uint64pow10)]) : TabW W := by
 rw [MakeChecks.laidMetH_plain _ _ _ hp] at h
 have h2 := h.filter (fun x => x.1 == "internal/strconv.uint64pow10")
 rw [hf] at h2
 have e : (Rows.laid_internal_strconv_uint64pow10 : DataW Unit) = Lib.tabData .u64 Lib.pow10Tab := by kernel_rfl
 rw [e] at h2
 have hg : Tryz.prog.globalNamed "internal/strconv.uint64pow10" = some 3 := by kernel_rfl
 have ht : Lib.TabIs Tryz.prog W "internal/strconv.uint64pow10" .u64 Lib.pow10Tab := Lib.tabIs_of_head (n := 20) (t := 267) (e := 238) hg (by kernel_rfl) (by kernel_rfl) (by kernel_rfl) (by kernel_rfl) (by kernel_rfl) h2
 exact ⟨ht, Zgq (ht.cell hg 0 (by decide))⟩
end Go.Proofs.YtlgajongmkhcnaaGreatDoor
