import Derived.Test.YtlgajongmkhcnaaGreatDoorQU6
import Derived.Test.YtlgajongmkhcnaaGreatDoorQUK
import Derived.Deep.RegionHeld3
import Derived.Deep.DeepCutAuto
import Derived.Deep.DrawnRows
import Derived.Test.YtlgajongmkhcnaaGreatDoorQUC
import Derived.Test.YtlgajongmkhcnaaGreatDoorQUH
set_option maxRecDepth 100000
set_option linter.unusedVariables false
set_option linter.unusedSimpArgs false
set_option maxHeartbeats 32000000
namespace Go.Proofs.YtlgajongmkhcnaaGreatDoor
open Go.RowKit
def ZjJ (l : Ln) : Bool := Zb2 l.base && Zb2 l.bar && Zb2 l.saved && Zb2 l.cents
theorem Z7D (l : Ln) (w : World) : Calls Tryz.prog 43 #[lnA l] w fun e w' => e = .returned (.bool (ZjJ l)) /\ Below w.1.size w w' := by
 have h1 := Z2l l.base
 have h2 := Z2l l.bar
 have h3 := Z2l l.saved
 have h4 := Z2l l.cents
 have hb : Below w.1.size w (w.alloc (lnO l)) := (Z9 _ w).alloc (Z1 _) _
 have HB := Z0 hb
 clear hb
 unfold ZjJ lnA
 unfold lnO at HB
 generalize Zb2 l.base = b1 at h1
 generalize Zb2 l.bar = b2 at h2
 generalize Zb2 l.saved = b3 at h3
 generalize Zb2 l.cents = b4 at h4
 have H1 := Z0 h1
 have H2 := Z0 h2
 have H3 := Z0 h3
 have H4 := Z0 h4
 clear h1 h2 h3 h4
 cases b1
 case' true => cases b2
 case' true.true => cases b3
 all_goals
  go_enter Tryz.func43, Tryz.ntmps43
  go_wp2_with (first
   | (go_at_call 88; with_reducible refine (H1.out _).mono ?_; rintro e w1 ⟨rfl, rfl⟩)
   | (go_at_call 88; with_reducible refine (H2.out _).mono ?_; rintro e w1 ⟨rfl, rfl⟩)
   | (go_at_call 88; with_reducible refine (H3.out _).mono ?_; rintro e w1 ⟨rfl, rfl⟩)
   | (go_at_call 88; with_reducible refine (H4.out _).mono ?_; rintro e w1 ⟨rfl, rfl⟩))
  go_ret
  exact ⟨by simp, HB.out⟩
def Z0U (l : Ln) : List ByteArray := [Z1d l.pieces, Z1d l.barred, Z1d l.grams, Z2B l.base, Z2B l.bar, Z2B l.saved, Z2B l.cents]
structure I64 (n : Int) : Prop where
 lo : -9223372036854775808 <= n
 hi : n <= 9223372036854775807
theorem Zjl : (Tryz.prog.info? 9).map (fun i => (i.zero, i.size, i.bytes)) = some (some (.string ⟨#[]⟩), 1, 16) := by kernel_rfl
theorem Z8t (l : Ln) (w : World) (hc : ZjJ l = true) (hp : I64 l.pieces) (hb : I64 l.barred) (hg : I64 l.grams) (ht : TabW w) :
 Calls Tryz.prog 47 #[lnA l] w fun e w' => ∃ v, e = .returned v /\ Below w.1.size w w' /\ w'.ownsRow w.1.size 9 1 v 7 ((Z0U l).map Value.string) := by
 have i1 := fun (W : World) (h : TabW W) => Z2E l.pieces W hp.lo hp.hi h
 have i2 := fun (W : World) (h : TabW W) => Z2E l.barred W hb.lo hb.hi h
 have i3 := fun (W : World) (h : TabW W) => Z2E l.grams W hg.lo hg.hi h
 unfold ZjJ at hc
 rw [ZF, ZF, ZF] at hc
 obtain ⟨⟨⟨a1, a2⟩, a3⟩, a4⟩ := hc
 obtain ⟨cs, pO⟩ : ∃ cs : List Int, cs = [l.base, l.bar, l.saved, l.cents] := ⟨_, rfl⟩
 have qV : cs.length = 4 := by rw [pO]; rfl
 have hm : ∀ x ∈ cs, ∀ W : World, TabW W -> Calls Tryz.prog 90 #[.int .i64 x] W fun e w' => e = .returned (.tuple #[.string (Z2B x), .int .i64 0]) /\ Below W.1.size W w' := by
  intro x hx W hW
  rw [pO] at hx
  refine ZdN x W ?_ hW
  simp only [Kbf, Kda, or_false] at hx
  rcases hx with rfl | rfl | rfl | rfl <;> assumption
 have rN : ∀ k (hk : k < cs.length), (Z0U l).take (3 + (k + 1)) = (Z0U l).take (3 + k) ++ [Z2B cs[k]] := by
  subst pO
  intro k hk
  match k, hk with
  | 0, _ => rfl
  | 1, _ => rfl
  | 2, _ => rfl
  | 3, _ => rfl
 have h3 : (Z0U l).take (3 + 0) = [Z1d l.pieces, Z1d l.barred, Z1d l.grams] := rfl
 have h7 : (Z0U l).take (3 + 4) = Z0U l := rfl
 have rO : (Z0U l).length = 7 := rfl
 have pA : (w.alloc (lnO l)).1[w.1.size]? = some (lnO l) := Z02 w _
 have qW : Below w.1.size w (w.alloc (lnO l)) := (Z9 _ w).alloc (Z1 _) _
 have qI : (w.alloc (lnO l)).1.size = w.1.size + 1 := by simp
 obtain ⟨W0, pK⟩ : ∃ W0, W0 = w.alloc (lnO l) := ⟨_, rfl⟩
 rw [<- pK] at pA qW qI
 unfold lnO at pA pK
 have sS : ∀ W, Below W0.1.size W0 W -> TabW W := fun W h => (ht.below qW).below h
 unfold lnA
 generalize Z1d l.pieces = p1 at i1 h3
 generalize Z1d l.barred = p2 at i2 h3
 generalize Z1d l.grams = p3 at i3 h3
 generalize Z0U l = WL at rN h3 h7 rO ⊢
 have sT : Obj.cells #[.int .i64 l.base, .int .i64 l.bar, .int .i64 l.saved, .int .i64 l.cents] 3 (0, 0) = Obj.cells (cs.map (Value.int .i64)).toArray 3 (0, 0) := by rw [pO]; rfl
 have sU := Z0 sT
 have uI := Z0 qV
 have HM := Z0 hm
 have uJ := Z0 rN
 have H3 := Z0 h3
 have H7 := Z0 h7
 have vY := Z0 rO
 have I1 := Z0 i1
 have I2 := Z0 i2
 have I3 := Z0 i3
 have pD := Z0 sS
 have pU := Z0 qW
 have rP := Z0 pA
 have rQ := Z0 pK
 have qX := Z0 qI
 have q1 := Kaa _ _ 1 _ _ _ pA
 have q2 := Kaa _ _ 2 _ _ _ pA
 have q3 := Kaa _ _ 3 _ _ _ pA
 have hk : ∀ w', Below W0.1.size W0 w' -> w'.cell? ⟨w.1.size, 1, none⟩ = some (.int .i64 l.pieces) /\ w'.cell? ⟨w.1.size, 2, none⟩ = some (.int .i64 l.barred) /\ w'.cell? ⟨w.1.size, 3, none⟩ = some (.int .i64 l.grams) := fun w' hw =>
  ⟨(hw.cell (p := ⟨w.1.size, 1, none⟩) (by show w.1.size < _; omega)).trans q1, (hw.cell (p := ⟨w.1.size, 2, none⟩) (by show w.1.size < _; omega)).trans q2, (hw.cell (p := ⟨w.1.size, 3, none⟩) (by show w.1.size < _; omega)).trans q3⟩
 have HK := Z0 hk
 clear i1 i2 i3 pO hm rN h3 h7 rO pA qW qI sS qV sT pK ht hp hb hg a1 a2 a3 a4 q1 q2 q3 hk
 go_enter Tryz.func47, Tryz.ntmps47
 go_wp2_with fail
 rw [<- rQ.out]
 go_cut [3] (fun v wx => ∃ g, v = .slice (some ⟨g, 0, none⟩) 3 3 /\ Below W0.1.size W0 wx /\ wx.ownsRow (w.1.size + 1) 9 1 v 3 [.string p1, .string p2, .string p3])
 case first =>
  go_region_held3 (fun w' => w'.cell? ⟨w.1.size, 1, none⟩ = some (.int .i64 l.pieces) /\ w'.cell? ⟨w.1.size, 2, none⟩ = some (.int .i64 l.barred) /\ w'.cell? ⟨w.1.size, 3, none⟩ = some (.int .i64 l.grams))
   (first | exact HK.out _ (Z9 _ W0).drew | exact HK.out _ (pL.alloc pL.size _) | exact HK.out _ pL | exact HK.out _ pM | exact HK.out _ pN)
   (first
    | (go_at_call 48; (first | with_reducible refine (I1.out _ (pD.out _ pM)).mono ?_ | with_reducible refine (I2.out _ (pD.out _ pM)).mono ?_ | with_reducible refine (I3.out _ (pD.out _ pM)).mono ?_); rintro e wC ⟨rfl, sV⟩; have pL := Z01 pM pM.size sV; clear sV)
    | (go_at_call 48; (first | with_reducible refine (I1.out _ (pD.out _ pN)).mono ?_ | with_reducible refine (I2.out _ (pD.out _ pN)).mono ?_ | with_reducible refine (I3.out _ (pD.out _ pN)).mono ?_); rintro e wB ⟨rfl, sW⟩; have pM := Z01 pN pN.size sW; clear sW)
    | (go_at_call 48; (first | with_reducible refine (I1.out _ (pD.out _ (Z9 _ W0).drew)).mono ?_ | with_reducible refine (I2.out _ (pD.out _ (Z9 _ W0).drew)).mono ?_ | with_reducible refine (I3.out _ (pD.out _ (Z9 _ W0).drew)).mono ?_); rintro e wA ⟨rfl, sX⟩; have pN : Below W0.1.size W0 wA := (Z9 _ W0).drew.trans sX; clear sX))
  go_wp2_with fail
  go_meet
  exact ⟨_, rfl, pL.alloc pL.size _, World.ownsRow_lit wC _ 3 (by have := pL.size; have := qX.out; omega) (by decide) rfl⟩
 case rest =>
  obtain ⟨g3, rfl, qD, rR⟩ := hcut
  obtain ⟨W1, uK⟩ : ∃ W1, W1 = wc := ⟨_, rfl⟩
  subst uK
  have qI := qX.out
  have uL := qD.size
  have pP := (qD.block w.1.size (by omega)).trans rP.out
  have r4 := Kaa _ _ 4 _ _ _ pP
  have r5 := Kaa _ _ 5 _ _ _ pP
  have r6 := Kaa _ _ 6 _ _ _ pP
  have r7 := Kaa _ _ 7 _ _ _ pP
  have pQ := Z0 qD
  have sY : (W1.alloc (.cells #[.int .i64 l.base, .int .i64 l.bar, .int .i64 l.saved, .int .i64 l.cents] 3)).ownsRow (w.1.size + 1) 9 1 (.slice (some ⟨g3, 0, none⟩) 3 3) (3 + 0) ((WL.take (3 + 0)).map Value.string) := by rw [H3.out]; exact rR.alloc _
  have uM := Z0 sY
  have vZ := (rR.lt g3 rfl).2
  have sZ := Z02 W1 (.cells #[.int .i64 l.base, .int .i64 l.bar, .int .i64 l.saved, .int .i64 l.cents] 3)
  have uN := Z0 (sZ.trans (Kah some sU.out))
  have qE := Z0 (qD.alloc qD.size (.cells #[.int .i64 l.base, .int .i64 l.bar, .int .i64 l.saved, .int .i64 l.cents] 3))
  obtain ⟨i0, hi⟩ := info_parts Zjl
  have HI := Z0 hi
  clear pP qD rR sY sZ hi sU HK
  go_wp2_with fail
  go_loopw [3, 28] (fun v i wr => ∃ k : Nat, k <= 4 /\ i = .int .i64 k /\ Below W0.1.size W0 wr /\ W1.1.size + 1 <= wr.1.size /\ wr.1[W1.1.size]? = some (.cells (cs.map (Value.int .i64)).toArray 3 (0, 0)) /\ wr.ownsRow (w.1.size + 1) 9 1 v (3 + k) ((WL.take (3 + k)).map Value.string)) (fun _ i _ => 4 - (intOf i).toNat)
  case atStart => exact ⟨0, by omega, rfl, qE.out, by simp, uN.out, uM.out⟩
  case round =>
   obtain ⟨k, hk, rfl, hb, tA, rS, ho⟩ := hrel
   have HB := Z0 hb
   have tB := Z0 rS
   have HO := Z0 ho
   have qV := uI.out
   by_cases pE : k < 4
   ·have qY : k < cs.length := by omega
    have hx := HM.out _ (Z4 qY)
    have pV : wr.cell? ⟨W1.1.size, k, none⟩ = some (.int .i64 cs[k]) := by
     have := Kaa _ _ k _ _ _ rS
     rw [this]
     simp [qY]
    have qZ := uJ.out k qY
    generalize cs[k] = x at hx pV qZ
    generalize Z2B x = mb at hx qZ
    have HX := Z0 hx
    have uO := Z0 qZ
    have pR := Z0 (Z0t ho (T := 3) (by decide))
    clear hx qZ rS ho hb qY qV
    go_wp2_with (first
     | (go_at_call 90; refine (HX.out _ (pD.out _ HB.out)).mono ?_; rintro e w2 ⟨rfl, pF⟩; have pS := Z01 HB.out HB.out.size pF; have tC := HO.out.kept (Z0a pF) (Kbm _); have tD := Z0 tC; have pW := Z0 pS; have pH := Z0 pF; have tE := pF.size; clear pF pS tC)
     | (at_builtin; refine wpList_append_own _ rfl _ _ 84 rfl (w.1.size + 1) 9 i0 (.string ⟨#[]⟩) 1 16 Tryz.underlying84 HI.out.1 HI.out.2.1 HI.out.2.2.1 HI.out.2.2.2 rfl (by decide) _ _ _ rfl (tD.out.alloc _) ⟨w2.1.size, 0, none⟩ 1 1 [.string mb] rfl rfl (cell_one_new _ _ _) (by simp [Value.oneCell']) (by unfold maxLen; omega) (by omega) (by have := qX.out; simp; omega) ?_; intro v' w5 uP rT _))
    go_roundw
    case rel =>
     refine ⟨k + 1, by omega, by go_num, ?_, ?_, ?_, ?_⟩
     ·exact (pW.out.alloc pW.out.size _).grown rT (by have := pW.out.size; simp; omega) (fun r e => by have := (tD.out.lt r e).1; have := qX.out; omega)
     ·have := rT.size
      simp at this
      omega
     ·refine (rT.block _ (by simp; omega) (fun e => pR.out _ e.symm _ _ tB.out)).trans ((ZB _ _ _ (by omega)).trans ((pH.out.block _ (by omega)).trans tB.out))
     ·rw [uO.out, ZD]
      exact uP
    case measure => simp [intOf]; omega
   ·obtain rfl : k = 4 := by omega
    rw [H7.out] at HO
    go_wp2_with fail
    go_ret
    exact ⟨_, rfl, Z01 pU.out pU.out.size HB.out, Z6h HO.out (Kbd _)⟩
def RowS (w : World) (v : Value) (rest : List ByteArray) : Prop := ∃ g cap cur fz, v = .slice (some ⟨g, 0, none⟩) rest.length cap /\ w.1[g]? = some (.cells cur 9 fz) /\ ∀ i (hi : i < rest.length), cur[i]? = some (.string rest[i])
theorem RowS.of_own {w : World} {base : Nat} {v : Value} {rest : List ByteArray} (h : w.ownsRow base 9 1 v rest.length (rest.map Value.string)) (h0 : 0 < rest.length) : RowS w v rest := by
 obtain ⟨_, ⟨_, e⟩ | ⟨g, cap, cur, rfl, _, hg, hn, _, hs, ht⟩⟩ := h
 ·omega
 ·refine ⟨g, cap, cur, _, rfl, hg, fun i hi => ?_⟩
  have h1 : (cur.toList.take (rest.length * 1))[i]? = (rest.map Value.string)[i]? := by rw [ht]
  rw [Kdj, List.getElem?_take, if_pos hi] at h1
  rw [<- Kb9, h1, Kal, Z3 hi]; rfl
theorem RowS.othK {w w' : World} {v : Value} {rest : List ByteArray} {b : Nat} {cs : Array Value} {fr : Nat × Nat} (h : RowS w v rest) (hb : w.1[b]? = some (.cells cs 129 fr)) (hk : Ziq b w w') : RowS w' v rest := by
 obtain ⟨g, cap, cur, fz, rfl, hg, hc⟩ := h
 refine ⟨g, cap, cur, fz, rfl, hk g _ hg (fun e => ?_) (fun c f e => ?_), hc⟩
 ·injection e with e
  subst e
  rw [hb] at hg
  injection hg with hg
  injection hg with _ hg _
  exact absurd hg (by decide)
 ·injection e with _ e _
  exact absurd e (by decide)
theorem RowS.below {w w' : World} {v : Value} {rest : List ByteArray} (h : RowS w v rest) (hb : Below w.1.size w w') : RowS w' v rest := by
 obtain ⟨g, cap, cur, fz, rfl, hg, hc⟩ := h
 exact ⟨g, cap, cur, fz, rfl, (hb.block g (Z5.1 hg).1).trans hg, hc⟩
theorem BldF.block {B b : Nat} {l : List UInt8} {w : World} (h : BldF B b l w) : ∃ cs, w.1[b]? = some (.cells cs 129 (0, 0)) := by
 rcases h with ⟨_, v, hb, _⟩ | ⟨_, v, hb, _⟩ <;> exact ⟨_, hb⟩
def Z37 (rest : List ByteArray) : List UInt8 := rest.flatMap (fun r => 32 :: r.data.toList)
def Z1y (first : ByteArray) (rest : List ByteArray) : List UInt8 := first.data.toList ++ Z37 rest ++ [10]
theorem Zdx (rest : List ByteArray) {k : Nat} (h : k < rest.length) : Z37 (rest.take (k + 1)) = Z37 (rest.take k) ++ (32 :: rest[k].data.toList) := by
 unfold Z37
 rw [Z8 h, Kai]; simp
theorem Zcq {rest : List ByteArray} (h : ∀ r ∈ rest, r.size <= 100) : (Z37 rest).length <= rest.length * 101 := by
 induction rest with
 | nil => simp [Z37]
 | cons a r ih =>
  have h1 := ih (fun x hx => h x (Kaj _ hx))
  have h2 := h a Kaf
  have h3 : a.data.toList.length = a.size := Array.length_toList
  unfold Z37 at h1 ⊢
  rw [Kao, ZC, Ka9, Ka9, h3]
  omega
theorem Z6A (B b : Nat) (l : List UInt8) (first : ByteArray) (rest : List ByteArray) (v : Value) (w : World) (hb : BldF B b l w) (hB : B <= w.1.size) (hl : l.length <= 1000000000) (hf : first.size <= 1000) (hr : ∀ r ∈ rest, r.size <= 100) (hn : rest.length <= 100) (hv : RowS w v rest) :
 Calls Tryz.prog 44 #[.string first, v, .pointer (some ⟨b, 0, none⟩)] w fun e w' => e = .returned (.tuple #[]) /\ BldF B b (l ++ Z1y first rest) w' /\ Below B w w' /\ Ziq b w w' := by
 have rU : first.data.toList.length = first.size := Array.length_toList
 obtain ⟨vg, vcap, _, _, uQ, _⟩ := id hv
 subst uQ
 have HV := Z0 hv
 have HR := Z0 hr
 have uR : Hid (∀ W, BldF B b l W -> B <= W.1.size -> Calls Tryz.prog 45 #[.pointer (some ⟨b, 0, none⟩), .string first] W fun e w' => e = .returned (.tuple #[.int .i64 first.size, .nilIface]) /\ BldF B b (l ++ first.data.toList) w' /\ Below B W w' /\ Ziq b W w') := fun W h h2 => Z3q B b l first W h (by omega) h2
 have uS : Hid (∀ (x : List UInt8) W, BldF B b x W -> x.length <= 2000000000 -> B <= W.1.size -> Calls Tryz.prog 46 #[.pointer (some ⟨b, 0, none⟩), .int .u8 32] W fun e w' => e = .returned .nilIface /\ BldF B b (x ++ [32]) w' /\ Below B W w' /\ Ziq b W w') := fun x W h hx h2 => Z4o B b x 32 W h (by omega) h2
 have uT : Hid (∀ (x : List UInt8) W, BldF B b x W -> x.length <= 2000000000 -> B <= W.1.size -> Calls Tryz.prog 46 #[.pointer (some ⟨b, 0, none⟩), .int .u8 10] W fun e w' => e = .returned .nilIface /\ BldF B b (x ++ [10]) w' /\ Below B W w' /\ Ziq b W w') := fun x W h hx h2 => Z4o B b x 10 W h (by omega) h2
 have pX := Z0 hb
 have qJ := Z0 (fun k => Zcq (rest := rest.take k) (fun r h => hr r (Kcg h)))
 clear hv hr hb
 go_enter Tryz.func44, Tryz.ntmps44
 go_wp2_with (go_at_call 45; refine (uR.out _ pX.out hB).mono ?_; rintro e w1 ⟨rfl, pY, rV, pG⟩; have tA := rV.size; have qK := Z0 pY; have uU := Z0 rV; have uV := Z0 pG; clear pY rV pG)
 go_loopw [11] (fun i wr => ∃ k : Nat, k <= rest.length /\ i = .int .i64 k /\ BldF B b (l ++ first.data.toList ++ Z37 (rest.take k)) wr /\ Below B w wr /\ Ziq b w wr) (fun i _ => rest.length - (intOf i).toNat)
 case atStart => exact ⟨0, ZE _, rfl, by rw [Kb5]; unfold Z37; rw [Kct, Ka1]; exact qK.out, uU.out, uV.out⟩
 case round =>
  obtain ⟨k, hk, rfl, rW, rA, rB⟩ := hrel
  have pZ := Z0 rW
  have tF := Z0 rA
  have tG := Z0 rB
  have qA := qJ.out k
  rw [Kax, Kcp hk] at qA
  have tH : (l ++ first.data.toList ++ Z37 (rest.take k)).length <= 1000020000 := by rw [ZC, ZC, rU]; omega
  have wD := rA.size
  by_cases pE : k < rest.length
  ·obtain ⟨cs, pO⟩ := BldF.block pX.out
   obtain ⟨g, cap, cur, fz, uW, hg, hc⟩ := HV.out.othK pO rB
   cases uW
   have c1 : wr.cell? ⟨vg, k, none⟩ = some (.string rest[k]) := by rw [Kaa _ _ k _ _ _ hg]; exact hc k pE
   have rX := (Z5.1 hg).1
   have uX := HR.out _ (Z4 pE)
   have tI := Z0 (Zdx rest pE)
   have rC : ∀ (x : List UInt8) W, BldF B b x W -> x.length <= 2000000000 -> B <= W.1.size -> Calls Tryz.prog 45 #[.pointer (some ⟨b, 0, none⟩), .string rest[k]] W fun e w' => e = .returned (.tuple #[.int .i64 rest[k].size, .nilIface]) /\ BldF B b (x ++ rest[k].data.toList) w' /\ Below B W w' /\ Ziq b W w' := fun x W h hx h2 => Z3q B b x rest[k] W h (by omega) h2
   generalize rest[k] = r at c1 rC uX tI
   have uY := Z0 rC
   obtain ⟨x, hx⟩ : ∃ x, x = l ++ first.data.toList ++ Z37 (rest.take k) := ⟨_, rfl⟩
   rw [<- hx] at pZ tH
   have HX := Z0 hx
   have tJ : (x ++ [32]).length <= 2000000000 := by rw [ZC]; simp; omega
   have uZ := Z0 tJ
   clear rC rW rA rB hg hc pO qA hx tJ
   go_wp2_with (first
    | (go_at_call 46; refine (uS.out _ _ pZ.out (by omega) (by omega)).mono ?_; rintro e w2 ⟨rfl, pF, qF, qL⟩; have tE := qF.size; have pH := Z0 pF; have rY := Z0 qF; have rZ := Z0 qL; clear pF qF qL)
    | (go_at_call 45; refine (uY.out _ _ pH.out uZ.out (by omega)).mono ?_; rintro e w3 ⟨rfl, pS, sA, tK⟩; have wE := sA.size; have pW := Z0 pS; have vA := Z0 sA; have vB := Z0 tK; clear pS sA tK))
   go_roundw
   case rel =>
    refine ⟨k + 1, by omega, by go_num, ?_, (tF.out.trans rY.out).trans vA.out, (tG.out.trans rZ.out).trans vB.out⟩
    rw [tI.out, <- Kbc, <- HX.out, <- List.singleton_append, <- Kbc]
    exact pW.out
   case measure => simp [intOf]; omega
  ·obtain rfl : k = rest.length := by omega
   obtain ⟨x, hx⟩ : ∃ x, x = l ++ first.data.toList ++ Z37 (rest.take rest.length) := ⟨_, rfl⟩
   rw [<- hx] at pZ tH
   rw [Kat] at hx
   have HX := Z0 hx
   clear rW rA rB qA hx
   go_wp2_with (go_at_call 46; refine (uT.out _ _ pZ.out (by omega) (by omega)).mono ?_; rintro e w2 ⟨rfl, pF, qF, qL⟩; have pH := Z0 pF; have rY := Z0 qF; have rZ := Z0 qL; clear pF qF qL)
   go_end0
   refine ⟨rfl, ?_, tF.out.trans rY.out, tG.out.trans rZ.out⟩
   unfold Z1y
   rw [<- Kbc, <- Kbc, <- HX.out]
   exact pH.out
structure LnT (l : Ln) : Prop where
 amt : ZjJ l = true
 p : I64 l.pieces
 b : I64 l.barred
 g : I64 l.grams
def Zj0 (ls : List Lev) (X : Man) (i : Nat) : List UInt8 := Z1y (ls.getD i ⟨⟨#[]⟩, 0, [], 0, 0⟩).name (Z0U (X.lines.getD i (Z1m 0)))
def Z49 (ls : List Lev) (X : Man) (k : Nat) : List UInt8 := (List.range k).flatMap (Zj0 ls X)
def totalS : ByteArray := ⟨#[116, 111, 116, 97, 108]⟩
def packedS : ByteArray := ⟨#[112, 97, 99, 107, 101, 100]⟩
def Z5s (X : Man) : List ByteArray := [Z1d X.buns, Z1d X.tras, Z1d X.cons]
def Z3s (ls : List Lev) (X : Man) : List UInt8 := Z49 ls X ls.length ++ Z1y totalS (Z0U X.total) ++ Z1y packedS (Z5s X)
theorem Z87 (ls : List Lev) (X : Man) (k : Nat) : Z49 ls X (k + 1) = Z49 ls X k ++ Zj0 ls X k := by
 unfold Z49
 rw [Kaq, Kai]; simp
theorem Z3a {c : Int} (h : Zb2 c = true) : (Z2B c).size <= 100 := by
 have hb : -1000000000000000 <= c /\ c <= 1000000000000000 := by
  unfold Zb2 Z4T at h
  rw [ZF, Kab, Kab] at h
  exact h
 have z1 : (Z1d ((c.natAbs : Int) % 100)).size <= 20 := Z0v _ (by omega) (by omega)
 have z2 : (Z1d ((c.natAbs : Int) / 100)).size <= 20 := Z0v _ (by omega) (by omega)
 unfold Z2B ZiQ
 generalize Z1d ((c.natAbs : Int) % 100) = a at z1
 generalize Z1d ((c.natAbs : Int) / 100) = b at z2
 have e1 : (⟨#[46]⟩ : ByteArray).size = 1 := rfl
 have e2 : (⟨#[48]⟩ : ByteArray).size = 1 := rfl
 have e3 : (if c < 0 then (⟨#[45]⟩ : ByteArray) else ⟨#[]⟩).size <= 1 := by split <;> decide
 generalize (if c < 0 then (⟨#[45]⟩ : ByteArray) else ⟨#[]⟩) = sg at e3
 rw [Kdn, Kdn, Kdn]
 split
 ·rw [Kdn]; omega
 ·omega
theorem Z1q {l : Ln} (h : LnT l) : ∀ r ∈ Z0U l, r.size <= 100 := by
 have ha := h.amt
 unfold ZjJ at ha
 rw [ZF, ZF, ZF] at ha
 obtain ⟨⟨⟨a1, a2⟩, a3⟩, a4⟩ := ha
 intro r hr
 unfold Z0U at hr
 simp only [Kbf, Kda, or_false] at hr
 rcases hr with rfl | rfl | rfl | rfl | rfl | rfl | rfl
 ·have := Z0v _ h.p.lo h.p.hi; omega
 ·have := Z0v _ h.b.lo h.b.hi; omega
 ·have := Z0v _ h.g.lo h.g.hi; omega
 ·exact Z3a a1
 ·exact Z3a a2
 ·exact Z3a a3
 ·exact Z3a a4
theorem Z4q {f : ByteArray} {rest : List ByteArray} (hf : f.size <= 1000) (hr : ∀ r ∈ rest, r.size <= 100) (hn : rest.length <= 7) : (Z1y f rest).length <= 2000 := by
 have := Zcq hr
 have rU : f.data.toList.length = f.size := Array.length_toList
 unfold Z1y
 rw [ZC, ZC, rU]
 simp
 omega
theorem Z90 {ls : List Lev} {X : Man} (hl : X.lines.length = ls.length) (hn : ∀ l ∈ ls, l.name.size <= 1000) (hx : ∀ l ∈ X.lines, LnT l) : ∀ k, k <= ls.length -> (Z49 ls X k).length <= k * 2000
 | 0, _ => by simp [Z49]
 | k + 1, h => by
  have ih := Z90 hl hn hx k (by omega)
  rw [Z87, ZC]
  have : (Zj0 ls X k).length <= 2000 := by
   unfold Zj0
   rw [Z2, Z3 (by omega), Z2, Z3 (show k < X.lines.length by omega)]
   exact Z4q (hn _ (Z4 _)) (Z1q (hx _ (Z4 _))) (Z1 _)
  omega
theorem Z89 {ls : List Lev} (h : Z0g ls = true) : ∀ l ∈ ls, l.name.size <= 1000 := by
 intro l hl
 obtain ⟨i, hi, rfl⟩ := Kau.1 hl
 obtain ⟨_, _, ⟨hs, vC, _, _⟩, _⟩ := Z0I.1 h
 obtain ⟨hh, hr⟩ := Z1a.1 (vC i hi hi)
 obtain ⟨hn, _⟩ := Z1S hh
 unfold Z2k at hn
 simp at hn
 omega
theorem ZgC {B b : Nat} {l : List UInt8} {w w' : World} {o : Obj} (h : BldF B b l w) (hb : Below w.1.size w w') : BldF B b l (w'.alloc o) := h.below (hb.alloc hb.size _)
theorem Zhz (w : World) (X : Man) : RowS (w.alloc (.cells #[.string (Z1d X.buns), .string (Z1d X.tras), .string (Z1d X.cons)] 9)) (.slice (some ⟨w.1.size, 0, none⟩) 3 3) (Z5s X) :=
 ⟨w.1.size, 3, _, (0, 0), rfl, Z02 w _, fun i hi => by
  match i, hi with
  | 0, _ => rfl
  | 1, _ => rfl
  | 2, _ => rfl⟩
theorem Zcb {ls : List Lev} {X : Man} {vl v : Value} (w : World) (hr : RdLevs w vl ls) (qM : Z0g ls = true) (hx : RdLns w v X.lines) (hl : X.lines.length = ls.length) (ht : LnT X.total) (pE : ∀ l ∈ X.lines, LnT l)
 (hb : I64 X.buns) (tL : I64 X.tras) (hc : I64 X.cons) (tM : TabW w) :
 Calls Tryz.prog 17 #[vl, Z6p X v] w fun e w' => e = .returned (.tuple #[.string ⟨(Z3s ls X).toArray⟩, .int .i64 0]) /\ Below w.1.size w w' := by
 have wF := Z0y qM
 have sB := Z89 qM
 have tN := Z90 hl sB pE
 obtain ⟨W0, pK⟩ : ∃ W0, W0 = w.alloc (.cells #[v, .int .i64 X.total.level, .int .i64 X.total.pieces, .int .i64 X.total.barred, .int .i64 X.total.grams, .int .i64 X.total.base, .int .i64 X.total.bar, .int .i64 X.total.saved, .int .i64 X.total.cents, .int .i64 X.buns, .int .i64 X.tras, .int .i64 X.cons] 44) := ⟨_, rfl⟩
 have pA : W0.1[w.1.size]? = some (.cells #[v, .int .i64 X.total.level, .int .i64 X.total.pieces, .int .i64 X.total.barred, .int .i64 X.total.grams, .int .i64 X.total.base, .int .i64 X.total.bar, .int .i64 X.total.saved, .int .i64 X.total.cents, .int .i64 X.buns, .int .i64 X.tras, .int .i64 X.cons] 44) := by rw [pK]; exact Z02 w _
 have tO : Below w.1.size w W0 := by rw [pK]; exact (Z9 _ w).alloc (Z1 _) _
 have qI : W0.1.size = w.1.size + 1 := by rw [pK]; simp
 have qN := Z0 (fun W (hW : Below w.1.size w W) => Z1X ls vl W (hr.below hW) (Z1A qM) (by unfold maxLen; omega))
 rw [qM] at qN
 have qO := Z0 (fun W => Z7D X.total W)
 rw [ht.amt] at qO
 unfold lnA at qO
 obtain ⟨al, cl, rfl, qP⟩ := hr
 obtain ⟨ax, cx, rfl, tP⟩ := hx
 have rD := Z0 qP
 have qQ := Z0 tP
 have rE := Z0 pE
 have HT := Z0 ht
 have pD := Z0 tM
 have rQ := Z0 pK
 have rF := Z0 tO
 have rP := Z0 pA
 have rG := Z0 hl
 have qJ := Z0 tN
 have sC := Z0 sB
 have sD := Z0 (And.intro hb (And.intro tL hc))
 have x0 := Kaa _ _ 0 _ _ _ pA
 have x1 := Kaa _ _ 1 _ _ _ pA
 have x2 := Kaa _ _ 2 _ _ _ pA
 have x3 := Kaa _ _ 3 _ _ _ pA
 have x4 := Kaa _ _ 4 _ _ _ pA
 have x5 := Kaa _ _ 5 _ _ _ pA
 have x6 := Kaa _ _ 6 _ _ _ pA
 have x7 := Kaa _ _ 7 _ _ _ pA
 have x8 := Kaa _ _ 8 _ _ _ pA
 have wG : X.lines.length <= 6 := by omega
 have wH : ((X.lines.length : Int) != (ls.length : Int)) = false := by rw [hl]; simp
 clear qP tP pE ht tM pK tO pA tN sB hb tL hc qM hl x0 x1 x2 x3 x4 x5 x6 x7 x8
 unfold Z6p
 go_enter Tryz.func17, Tryz.ntmps17
 go_wp2_with fail
 rw [<- rQ.out]
 refine (qN.out _ rF.out).mono ?_
 rintro e w1 ⟨rfl, pY⟩
 have tA := pY.size
 have k1 := (pY.block w.1.size (by omega)).trans rP.out
 have x0 := Kaa _ _ 0 _ _ _ k1
 have x1 := Kaa _ _ 1 _ _ _ k1
 have x2 := Kaa _ _ 2 _ _ _ k1
 have x3 := Kaa _ _ 3 _ _ _ k1
 have x4 := Kaa _ _ 4 _ _ _ k1
 have x5 := Kaa _ _ 5 _ _ _ k1
 have x6 := Kaa _ _ 6 _ _ _ k1
 have x7 := Kaa _ _ 7 _ _ _ k1
 have x8 := Kaa _ _ 8 _ _ _ k1
 have qK := Z0 (Z01 rF.out rF.out.size pY)
 have K1 := Z0 k1
 clear k1 pY
 go_wp2_with (go_at_call 43; refine (qO.out _).mono ?_; rintro e w2 ⟨rfl, pF⟩; have k2 := (pF.block w.1.size (by omega)).trans K1.out; have y0 := Kaa _ _ 0 _ _ _ k2; have K2 := Z0 k2; have tE := pF.size; have pH := Z0 (Z01 qK.out qK.out.size pF); clear k2 pF x0 x1 x2 x3 x4 x5 x6 x7 x8 K1)
 go_loopw [32] (fun i wr => ∃ k : Nat, k <= X.lines.length /\ i = .int .i64 k /\ Below w2.1.size w2 wr) (fun i _ => X.lines.length - (intOf i).toNat)
 case atStart => exact ⟨0, ZE _, rfl, Z9 _ _⟩
 case round =>
  obtain ⟨k, hk, rfl, hb⟩ := hrel
  have HB := Z0 hb
  have uL := hb.size
  by_cases pE : k < X.lines.length
  ·obtain ⟨g, off, rfl, hg, pV⟩ := qQ.out (by omega)
   have hB := Z01 pH.out pH.out.size hb
   have hc := pV k pE
   have pB := rE.out _ (Z4 pE)
   generalize X.lines[k] = x at hc pB
   have c0 := (hB.cell (p := ⟨g, off + k * 8, none⟩) hg).trans (hc 0 _ rfl)
   have c1 := (hB.cell (p := ⟨g, off + k * 8 + 1, none⟩) hg).trans (hc 1 _ rfl)
   have c2 := (hB.cell (p := ⟨g, off + k * 8 + 2, none⟩) hg).trans (hc 2 _ rfl)
   have c3 := (hB.cell (p := ⟨g, off + k * 8 + 3, none⟩) hg).trans (hc 3 _ rfl)
   have c4 := (hB.cell (p := ⟨g, off + k * 8 + 4, none⟩) hg).trans (hc 4 _ rfl)
   have c5 := (hB.cell (p := ⟨g, off + k * 8 + 5, none⟩) hg).trans (hc 5 _ rfl)
   have c6 := (hB.cell (p := ⟨g, off + k * 8 + 6, none⟩) hg).trans (hc 6 _ rfl)
   have c7 := (hB.cell (p := ⟨g, off + k * 8 + 7, none⟩) hg).trans (hc 7 _ rfl)
   have vD : g < wr.1.size := by have := hB.size; omega
   have sE := Z0 (fun W => Z7D x W)
   rw [pB.amt] at sE
   unfold lnA at sE
   clear pV hc pB hB hb qO y0 pD qN sD rD qQ
   go_wp2_with (go_at_call 43; refine (sE.out _).mono ?_; rintro e w3 ⟨rfl, pS⟩; have pW := Z0 (Z01 (HB.out.alloc HB.out.size _) (by simp; omega) pS); clear pS)
   go_roundw
   case rel => exact ⟨k + 1, by omega, by go_num, pW.out⟩
   case measure => simp [intOf]; omega
  ·obtain rfl : k = X.lines.length := by omega
   obtain ⟨w3, vE⟩ : ∃ x, x = wr := ⟨wr, rfl⟩
   subst vE
   have k3 := (hb.block w.1.size (by omega)).trans K2.out
   have pC : Below w.1.size w w3 := Z01 pH.out pH.out.size hb
   have pP := Z9 w3.1.size w3
   have sF := pP.alloc (Z1 _) (.cells #[.pointer none, .slice none 0 0] 129)
   have k4 := (sF.block w.1.size (by omega)).trans k3
   have x0 := Kaa _ _ 0 _ _ _ k4
   have pU := Z0 pC
   have tQ := Z0 sF
   have K3 := Z0 k3
   have tR := ZjI w3
   have pX := Z0 tR
   have rC : w.1.size + 1 <= w3.1.size := by omega
   clear k3 k4 hb HB pH qK rF K2 pC pP sF tR y0 pE qO
   have tS : Hid (w3.1.size + 1 <= (w3.alloc (.cells #[.pointer none, .slice none 0 0] 129)).1.size) := by show _ <= _; simp
   go_wp2_with fail
   go_loopw [44] (fun i wr => ∃ k : Nat, k <= X.lines.length /\ i = .int .i64 k /\ Below w3.1.size w3 wr /\ w3.1.size + 1 <= wr.1.size /\ BldF w3.1.size w3.1.size (Z49 ls X k) wr) (fun i _ => X.lines.length - (intOf i).toNat)
   case atStart => exact ⟨0, ZE _, rfl, tQ.out, tS.out, pX.out⟩
   case round =>
    clear tQ pX tS x0
    obtain ⟨k, hk, rfl, hb, vF, rH⟩ := hrel
    have HB := Z0 hb
    have pX := Z0 rH
    have pC := Z01 pU.out pU.out.size hb
    by_cases pE : k < X.lines.length
    ·obtain ⟨g, off, rfl, hg, pV⟩ := qQ.out (by omega)
     have hc := pV k pE
     have pB := rE.out _ (Z4 pE)
     have sG : k < ls.length := by rw [<- rG.out]; exact pE
     obtain ⟨gl, ol, rfl, rX, qP⟩ := rD.out (by omega)
     obtain ⟨lv, _, sH⟩ := qP k sG
     have sI := sC.out _ (Z4 sG)
     have qA := qJ.out k (by omega)
     have rI : Z49 ls X (k + 1) = Z49 ls X k ++ Z1y ls[k].name (Z0U X.lines[k]) := by
      rw [Z87]
      unfold Zj0
      rw [Z2, Z3 sG, Z2, Z3 pE]; rfl
     have n0 := (pC.cell (p := ⟨gl, ol + k * 5, none⟩) rX).trans sH.1
     have n0w := sH.1
     have wI : gl < wr.1.size := by have := pC.size; omega
     have vD : g < wr.1.size := by have := pC.size; omega
     generalize ls[k].name = nm at n0 n0w sI rI
     generalize X.lines[k] = x at hc pB rI
     have c0 := (pC.cell (p := ⟨g, off + k * 8, none⟩) hg).trans (hc 0 _ rfl)
     have c1 := (pC.cell (p := ⟨g, off + k * 8 + 1, none⟩) hg).trans (hc 1 _ rfl)
     have c2 := (pC.cell (p := ⟨g, off + k * 8 + 2, none⟩) hg).trans (hc 2 _ rfl)
     have c3 := (pC.cell (p := ⟨g, off + k * 8 + 3, none⟩) hg).trans (hc 3 _ rfl)
     have c4 := (pC.cell (p := ⟨g, off + k * 8 + 4, none⟩) hg).trans (hc 4 _ rfl)
     have c5 := (pC.cell (p := ⟨g, off + k * 8 + 5, none⟩) hg).trans (hc 5 _ rfl)
     have c6 := (pC.cell (p := ⟨g, off + k * 8 + 6, none⟩) hg).trans (hc 6 _ rfl)
     have c7 := (pC.cell (p := ⟨g, off + k * 8 + 7, none⟩) hg).trans (hc 7 _ rfl)
     have pR := Z0 (fun W (hW : Below w.1.size w W) => Z8t x W pB.amt pB.p pB.b pB.g (pD.out.below hW))
     have qR := Z0 (fun (l : List UInt8) (v : Value) (W : World) (h1 : BldF w3.1.size w3.1.size l W) (h2 : w3.1.size <= W.1.size) (h3 : l.length <= 1000000000) (h4 : RowS W v (Z0U x)) => Z6A w3.1.size w3.1.size l nm (Z0U x) v W h1 h2 h3 sI (Z1q pB) (show 7 <= 100 by decide) h4)
     have vG := Z0 rI
     have sJ : Hid ((Z49 ls X k).length <= 1000000000) := by show _ <= _; omega
     unfold lnA at pR
     have pZ := Z0 pC
     obtain ⟨W4, qS⟩ : ∃ W4, W4 = wr.alloc (.cells #[.int .i64 x.level, .int .i64 x.pieces, .int .i64 x.barred, .int .i64 x.grams, .int .i64 x.base, .int .i64 x.bar, .int .i64 x.saved, .int .i64 x.cents] 42) := ⟨_, rfl⟩
     have sK : W4.1[wr.1.size]? = some (.cells #[.int .i64 x.level, .int .i64 x.pieces, .int .i64 x.barred, .int .i64 x.grams, .int .i64 x.base, .int .i64 x.bar, .int .i64 x.saved, .int .i64 x.cents] 42) := by rw [qS]; exact Z02 wr _
     have vH := Z0 qS
     have rJ : Below wr.1.size wr W4 := by rw [qS]; exact (Z9 _ wr).alloc (Z1 _) _
     have wJ : W4.1.size = wr.1.size + 1 := by rw [qS]; simp
     have tT := Z0 sK
     have tU : ∀ w', Below w.1.size w w' -> w'.1[wr.1.size]? = W4.1[wr.1.size]? -> w'.cell? ⟨gl, ol + k * 5, none⟩ = some (.string nm) /\ w'.cell? ⟨wr.1.size, 0, none⟩ = some (.int .i64 x.level) /\ w'.cell? ⟨wr.1.size, 1, none⟩ = some (.int .i64 x.pieces) /\ w'.cell? ⟨wr.1.size, 2, none⟩ = some (.int .i64 x.barred) /\ w'.cell? ⟨wr.1.size, 3, none⟩ = some (.int .i64 x.grams) /\ w'.cell? ⟨wr.1.size, 4, none⟩ = some (.int .i64 x.base) /\ w'.cell? ⟨wr.1.size, 5, none⟩ = some (.int .i64 x.bar) /\ w'.cell? ⟨wr.1.size, 6, none⟩ = some (.int .i64 x.saved) /\ w'.cell? ⟨wr.1.size, 7, none⟩ = some (.int .i64 x.cents) := fun w' h1 h2 => by
      have h3 := h2.trans sK
      exact ⟨(h1.cell (p := ⟨gl, ol + k * 5, none⟩) rX).trans n0w, Kaa _ _ 0 _ _ _ h3, Kaa _ _ 1 _ _ _ h3, Kaa _ _ 2 _ _ _ h3, Kaa _ _ 3 _ _ _ h3, Kaa _ _ 4 _ _ _ h3, Kaa _ _ 5 _ _ _ h3, Kaa _ _ 6 _ _ _ h3, Kaa _ _ 7 _ _ _ h3⟩
     have pI := Z0 tU
     have rK : Hid (Below w.1.size w W4) := Z01 pC pC.size rJ
     have vI : Hid (BldF w3.1.size w3.1.size (Z49 ls X k) W4) := rH.below rJ
     have wK : gl < W4.1.size := by omega
     have vJ := Z0 rJ
     have wL := vF
     clear pV hc pB qP sH sI qA rI rH hb pC qS sK rJ tU n0 n0w qN sD qQ rD rE HT sC rG qJ K3
     go_wp2_with fail
     rw [<- vH.out]
     go_region_held3 (fun w' => w'.cell? ⟨gl, ol + k * 5, none⟩ = some (.string nm) /\ w'.cell? ⟨wr.1.size, 0, none⟩ = some (.int .i64 x.level) /\ w'.cell? ⟨wr.1.size, 1, none⟩ = some (.int .i64 x.pieces) /\ w'.cell? ⟨wr.1.size, 2, none⟩ = some (.int .i64 x.barred) /\ w'.cell? ⟨wr.1.size, 3, none⟩ = some (.int .i64 x.grams) /\ w'.cell? ⟨wr.1.size, 4, none⟩ = some (.int .i64 x.base) /\ w'.cell? ⟨wr.1.size, 5, none⟩ = some (.int .i64 x.bar) /\ w'.cell? ⟨wr.1.size, 6, none⟩ = some (.int .i64 x.saved) /\ w'.cell? ⟨wr.1.size, 7, none⟩ = some (.int .i64 x.cents))
      (first
       | exact pI.out _ rK.out.drew rfl
       | exact pI.out _ pJ.out vK.out
       | exact pI.out _ tV.out tW.out)
      (first
       | (go_at_call 47; refine (pR.out _ rK.out.drew).mono ?_; rintro e w5 ⟨v5, rfl, qB, qC⟩; obtain ⟨g5, cap5, rfl⟩ := Joins.ownsRow_form qC (by decide); have qG : Below W4.1.size W4 w5 := (Z9 _ W4).drew.trans qB; have tV := Z0 (Z01 rK.out rK.out.size qG); have tW := Z0 (qG.block wr.1.size (by omega)); have sL := Z0 (vI.out.below qG); have sM := Z0 (RowS.of_own (rest := Z0U x) qC (show 0 < 7 by decide)); have vL := qG.size; have sN := Z0 qG; clear qB qC qG)
       | (go_at_call 44; refine (qR.out _ _ _ sL.out (by omega) sJ.out sM.out).mono ?_; rintro e w6 ⟨rfl, qT, pT, rL⟩; have vM := pT.size; have pJ := Z0 (tV.out.trans (pT.mono (by omega))); have vK : Hid (w6.1[wr.1.size]? = W4.1[wr.1.size]?) := (rL _ _ (tW.out.trans tT.out) (by intro e; injection e; omega) (by intro c fz e; injection e with _ e _; exact absurd e (by decide))).trans tT.out.symm; have sO := Z0 qT; have vN := Z0 pT; clear qT pT rL))
     go_wp2_with fail
     go_roundw
     case rel =>
      refine ⟨k + 1, by omega, by go_num, ?_, by omega, ?_⟩
      ·have h1 : Below w3.1.size w3 W4 := Z01 HB.out HB.out.size vJ.out
       exact (Z01 h1 h1.size sN.out).trans vN.out
      ·rw [vG.out]
       exact sO.out
     case measure => simp [intOf]; omega
    ·obtain rfl : k = X.lines.length := by omega
     have pG := (hb.block w.1.size (by omega)).trans K3.out
     have x1 := Kaa _ _ 1 _ _ _ pG
     have x2 := Kaa _ _ 2 _ _ _ pG
     have x3 := Kaa _ _ 3 _ _ _ pG
     have x4 := Kaa _ _ 4 _ _ _ pG
     have x5 := Kaa _ _ 5 _ _ _ pG
     have x6 := Kaa _ _ 6 _ _ _ pG
     have x7 := Kaa _ _ 7 _ _ _ pG
     have x8 := Kaa _ _ 8 _ _ _ pG
     have pI : Hid (∀ w', Below w3.1.size w3 w' -> w'.cell? ⟨w.1.size, 9, none⟩ = some (.int .i64 X.buns) /\ w'.cell? ⟨w.1.size, 10, none⟩ = some (.int .i64 X.tras) /\ w'.cell? ⟨w.1.size, 11, none⟩ = some (.int .i64 X.cons)) := fun w' h => by
      have h3 := (h.block w.1.size (by omega)).trans K3.out
      exact ⟨Kaa _ _ 9 _ _ _ h3, Kaa _ _ 10 _ _ _ h3, Kaa _ _ 11 _ _ _ h3⟩
     have qA := qJ.out X.lines.length (by rw [rG.out]; exact Z1 _)
     have sJ : Hid ((Z49 ls X X.lines.length).length <= 1000000000) := by show _ <= _; omega
     have pB := HT.out
     have vO : (Z1y totalS (Z0U X.total)).length <= 2000 := Z4q (by decide) (Z1q pB) (Z1 _)
     have vP : Hid ((Z49 ls X X.lines.length ++ Z1y totalS (Z0U X.total)).length <= 1000000000) := by show _ <= _; rw [ZC]; omega
     obtain ⟨b1, b2, b3⟩ := sD.out
     have tX : ∀ r ∈ Z5s X, r.size <= 100 := by
      intro r hr
      unfold Z5s at hr
      simp only [Kbf, Kda, or_false] at hr
      rcases hr with rfl | rfl | rfl
      ·have := Z0v _ b1.lo b1.hi; omega
      ·have := Z0v _ b2.lo b2.hi; omega
      ·have := Z0v _ b3.lo b3.hi; omega
     have pR := Z0 (fun W (hW : Below w.1.size w W) => Z8t X.total W pB.amt pB.p pB.b pB.g (pD.out.below hW))
     have qR := Z0 (fun (l : List UInt8) (v : Value) (W : World) (h1 : BldF w3.1.size w3.1.size l W) (h2 : w3.1.size <= W.1.size) (h3 : l.length <= 1000000000) (h4 : RowS W v (Z0U X.total)) => Z6A w3.1.size w3.1.size l totalS (Z0U X.total) v W h1 h2 h3 (by decide) (Z1q pB) (show 7 <= 100 by decide) h4)
     have sP := Z0 (fun (l : List UInt8) (v : Value) (W : World) (h1 : BldF w3.1.size w3.1.size l W) (h2 : w3.1.size <= W.1.size) (h3 : l.length <= 1000000000) (h4 : RowS W v (Z5s X)) => Z6A w3.1.size w3.1.size l packedS (Z5s X) v W h1 h2 h3 (by decide) tX (show 3 <= 100 by decide) h4)
     have tY := Z0 (fun W (hW : Below w.1.size w W) => Z2E X.buns W b1.lo b1.hi (pD.out.below hW))
     have tZ := Z0 (fun W (hW : Below w.1.size w W) => Z2E X.tras W b2.lo b2.hi (pD.out.below hW))
     have uA := Z0 (fun W (hW : Below w.1.size w W) => Z2E X.cons W b3.lo b3.hi (pD.out.below hW))
     unfold lnA at pR
     unfold totalS at qR
     unfold packedS at sP
     have pZ := Z0 pC
     have uB := pU
     have uC : w.1.size <= w3.1.size := by omega
     clear hb rH pG qA pB vO b1 b2 b3 tX qN qQ rD rE sC K3 pU
     go_wp2_with (first
      | (go_at_call 44; refine (qR.out _ _ _ sL.out (by omega) sJ.out sM.out).mono ?_; rintro e w6 ⟨rfl, qT, pT, rL⟩; have vM := pT.size; have pJ := Z0 ((Z01 HB.out HB.out.size sN.out).trans pT); have sO := Z0 qT; clear qT pT rL)
      | (go_at_call 47; refine (pR.out _ pZ.out).mono ?_; rintro e w5 ⟨v5, rfl, qB, qC⟩; obtain ⟨g5, cap5, rfl⟩ := Joins.ownsRow_form qC (by decide); have sL := Z0 (pX.out.below qB); have sM := Z0 (RowS.of_own (rest := Z0U X.total) qC (show 0 < 7 by decide)); have vL := qB.size; have sN := Z0 qB; clear qB qC x1 x2 x3 x4 x5 x6 x7 x8))
     have qU := Z0 (uB.out.trans (pJ.out.mono uC))
     have qH := Z0 pJ.out.size
     go_region_held3 (fun w' => w'.cell? ⟨w.1.size, 9, none⟩ = some (.int .i64 X.buns) /\ w'.cell? ⟨w.1.size, 10, none⟩ = some (.int .i64 X.tras) /\ w'.cell? ⟨w.1.size, 11, none⟩ = some (.int .i64 X.cons))
      (first
       | exact pI.out _ pJ.out.drew
       | exact pI.out _ (pJ.out.trans sQ.out)
       | exact pI.out _ (pJ.out.trans ((pQ.out.alloc pQ.out.size _).mono qH.out))
       | exact pI.out _ (pJ.out.trans (pQ.out.mono qH.out))
       | exact pI.out _ (pJ.out.trans (rM.out.mono qH.out))
       | exact pI.out _ (pJ.out.trans (qE.out.mono qH.out)))
      (first
       | (go_at_call 48; (with_reducible refine (uA.out _ (Z01 qU.out qU.out.size rM.out)).mono ?_); rintro e wC ⟨rfl, pL⟩; have pQ := Z0 (Z01 rM.out rM.out.size pL); clear pL; have wM := pQ.out.size; have vQ := Z0 (ZgC (o := .cells #[.string (Z1d X.buns), .string (Z1d X.tras), .string (Z1d X.cons)] 9) sO.out pQ.out); have vR := Z0 (Zhz wC X))
       | (go_at_call 48; (with_reducible refine (tZ.out _ (Z01 qU.out qU.out.size qE.out)).mono ?_); rintro e wB ⟨rfl, pM⟩; have rM := Z0 (Z01 qE.out qE.out.size pM); clear pM)
       | (go_at_call 48; (with_reducible refine (tY.out _ qU.out.drew).mono ?_); rintro e wA ⟨rfl, pN⟩; have uD : Below w6.1.size w6 wA := (Z9 _ w6).drew.trans pN; have qE := Z0 uD; clear pN uD)
       | (go_at_call 44; refine (sP.out _ _ _ vQ.out (by simp; omega) vP.out vR.out).mono ?_; rintro e w7 ⟨rfl, uE, sR, vS⟩; have vT := Z0 uE; have uF : Below w3.1.size w6 w7 := ((pQ.out.alloc pQ.out.size _).mono qH.out).trans sR; have sQ := Z0 uF; clear uF; have wN := sR.size; clear uE sR vS))
     have vU : Hid (Z3s ls X = Z49 ls X X.lines.length ++ Z1y totalS (Z0U X.total) ++ Z1y packedS (Z5s X)) := by show _ = _; unfold Z3s; rw [rG.out]
     have uG := Z5K w3.1.size w3.1.size (Z3s ls X) w7 (by rw [vU.out]; exact vT.out) (Kaw qH.out sQ.out.size)
     have vV := Z0 uG
     clear uG pI pR qR sP tY tZ uA
     go_wp2_with (go_at_call 49; refine vV.out.mono ?_; rintro e w8 ⟨rfl, uH⟩; have vW := Z0 uH; clear uH)
     go_ret2
     exact ⟨rfl, uB.out.trans (((pJ.out.trans sQ.out).trans vW.out).mono uC)⟩
def Zjw (Gs : List Grp) (j : Nat) : Bool := if h : j + 1 < Gs.length then decide (Gs[j + 1].lvl ≠ (Gs[j]'(by omega)).lvl) else true
theorem ZaJ (Gs : List Grp) (j : Nat) : Z3f Gs j ↔ Zjw Gs j = true := by
 unfold Z3f Zjw
 by_cases h : j + 1 < Gs.length
 ·rw [dif_pos h, Kab]; exact ⟨fun H => H h, fun H _ => H⟩
 ·rw [dif_neg h]; exact ⟨fun _ => rfl, fun _ h' => absurd h' h⟩
def Zbn (k : Pck) (ps : List Pce) (zs : List Int) (Gs : List Grp) (st : PkS) (j : Nat) : PkS :=
 if hj : j < Gs.length then
  let bs := st.buns ++ Z10 k ps zs Gs[j]
  let ts := st.tras ++ (Z0V st.buns.length bs.length k.bundles.toNat).map (fun l => ⟨Gs[j].lvl, Gs[j].name, l⟩)
  if Zjw Gs j = true then ⟨bs, ts, st.cons ++ (Z0V st.beg ts.length k.trays.toNat).map (fun l => ⟨Gs[j].lvl, l⟩), ts.length⟩ else ⟨bs, ts, st.cons, st.beg⟩
 else st
theorem Zfd (k : Pck) (ps : List Pce) (zs : List Int) (Gs : List Grp) : Z5T k ps zs Gs = Zbn k ps zs Gs := by
 funext st j
 unfold Z5T Zbn
 by_cases hj : j < Gs.length
 ·rw [dif_pos hj, dif_pos hj]
  dsimp only
  by_cases h : Z3f Gs j
  ·rw [if_pos h, if_pos ((ZaJ Gs j).1 h)]
  ·rw [if_neg h, if_neg (fun h' => h ((ZaJ Gs j).2 h'))]
 ·rw [dif_neg hj, dif_neg hj]
def Zkb (k : Pck) (ps : List Pce) (zs : List Int) (Gs : List Grp) (n : Nat) : PkS := (List.range n).foldl (Zbn k ps zs Gs) ⟨[], [], [], 0⟩
theorem Zj6 (k : Pck) (ps : List Pce) (zs : List Int) (Gs : List Grp) (n : Nat) : Z29 k ps zs Gs n = Zkb k ps zs Gs n := by unfold Z29 Zkb; rw [Zfd]
def Zic : ByteArray := ⟨#[49, 48, 48]⟩
def c200 : ByteArray := ⟨#[50, 48, 48]⟩
def exS : List Lev := [⟨⟨#[51]⟩, 3, [], 2, 5⟩, ⟨⟨#[97, 108, 108]⟩, 0, [], 0, 0⟩]
def exMl : Mai := ⟨1, 1, ⟨#[49, 48, 48, 50, 51]⟩, [⟨1, 0, Zic, 10, true⟩, ⟨2, 0, Zic, 10, false⟩, ⟨3, 0, c200, 10, false⟩]⟩
def Z4m : List Int := [0, 0, 1]
def exK : Pck := ⟨10, 1000, 10, 10⟩
def exG : List Grp := [⟨0, Zic, 2, [0, 1]⟩, ⟨0, c200, 2, [2]⟩, ⟨1, ⟨#[]⟩, -1, [0, 1, 2]⟩]
theorem ZaF : Z16 exS (Z07 exMl.ps) exS.length = exG := by kernel_rfl
theorem Z54 : Z0g exS = true := by rw [Z9X]; kernel_rfl
theorem Z6t : Z2c exMl = true := by kernel_rfl
theorem ex_has : HasPlan exS exMl := by
 refine ⟨Z54, Z6t, ⟨by decide, by decide, by decide, by decide⟩, by decide, fun l hl c hc => ?_⟩
 have hl' : l.pre <= 3 := by
  have h : l = exS[0] \/ l = exS[1] := by simpa [exS] using hl
  rcases h with rfl | rfl <;> decide
 have hc' : c.size = 3 := by
  have h : c = Zic \/ c = Zic \/ c = c200 := by simpa [exMl, Z07] using hc
  rcases h with rfl | rfl | rfl <;> rfl
 omega
theorem Z7w : Z1j exS.length Z4m = true := by kernel_rfl
theorem ZhZ : Z28 exS exMl Z4m = (true, 0) := by
 rw [Z9D ex_has.right ex_has.mail ex_has.pre rfl Z7w, ZaF]
 have : Z2o exS Z4m exG = true := by kernel_rfl
 rw [this]
theorem Zg3 : Zb3 exS exMl Z4m exK = 0 := by
 unfold Zb3
 rw [ZhZ, if_pos rfl, if_pos ⟨rfl, by kernel_rfl⟩]
def exLod : Lod := ⟨[⟨0, Zic, [1, 2], 20⟩, ⟨1, ⟨#[]⟩, [3], 10⟩], [⟨0, Zic, [0]⟩, ⟨1, ⟨#[]⟩, [1]⟩], [⟨0, [0]⟩, ⟨1, [1]⟩]⟩
theorem Zg2 : ZfL exK exMl.ps Z4m exG = exLod := by unfold ZfL; rw [Zj6]; kernel_rfl
def exRt : Rat := ⟨1, [⟨20, [100, 150]⟩, ⟨50, [120, 200]⟩], 10⟩
def exMan : Man := ⟨[⟨0, 2, 1, 20, 200, 10, 10, 180⟩, ⟨1, 1, 0, 10, 150, 0, 0, 150⟩], ⟨2, 3, 1, 30, 350, 10, 10, 330⟩, 2, 2, 2⟩
theorem Zjt : ∀ i, i < 3 -> (Z0B exT exRt exMl i) = ([100, 100, 150].getD i 0, 0) := by
 intro i hi
 match i, hi with
 | 0, _ => show _ = _; kernel_rfl
 | 1, _ => show _ = _; kernel_rfl
 | 2, _ => show _ = _; kernel_rfl
theorem Zkq : Z5x Z4m (Z3p exMl 10 (fun i => (Z0B exT exRt exMl i).1) (Z5o exT exRt exS exMl Z4m) exS Z4m) 3 2 2 2 2 = exMan := by kernel_rfl
theorem Zjs : Z3s exS exMan = [51, 32, 50, 32, 49, 32, 50, 48, 32, 50, 46, 48, 48, 32, 48, 46, 49, 48, 32, 48, 46, 49, 48, 32, 49, 46, 56, 48, 10, 97, 108, 108, 32, 49, 32, 48, 32, 49, 48, 32, 49, 46, 53, 48, 32, 48, 46, 48, 48, 32, 48, 46, 48, 48, 32, 49, 46, 53, 48, 10, 116, 111, 116, 97, 108, 32, 51, 32, 49, 32, 51, 48, 32, 51, 46, 53, 48, 32, 48, 46, 49, 48, 32, 48, 46, 49, 48, 32, 51, 46, 51, 48, 10, 112, 97, 99, 107, 101, 100, 32, 50, 32, 50, 32, 50, 10] := by kernel_rfl
theorem Zjv : RatOk 2 exRt := by
 refine ⟨by decide, by decide, fun i hi => ?_, fun s hs => ?_⟩
 ·have vX : i < 2 := hi
  match i, vX with
  | 0, _ => decide
  | 1, _ => decide
 ·have h : s = ⟨20, [100, 150]⟩ \/ s = ⟨50, [120, 200]⟩ := by simpa [exRt] using hs
  rcases h with rfl | rfl
  ·exact ⟨rfl, by decide⟩
  ·exact ⟨rfl, by decide⟩
theorem ZiH : TarOk 2 exT := by
 refine ⟨by decide, by decide, by decide, ?_, ?_, ?_, ?_, ?_, ?_⟩
 ·intro r hr s hs
  have h : r = exRt := by simpa [exT, exRt] using hr.symm
  subst h
  have h : s = ⟨20, [100, 150]⟩ := by simpa [exRt] using hs.symm
  subst h
  rfl
 ·intro r hr
  have h : r = exRt := by simpa [exT, exRt] using hr
  subst h
  exact ⟨by decide, by decide, Zjv⟩
 ·exact List.pairwise_singleton _ _
 ·intro r hr
  have h : r = ⟨⟨#[]⟩, ⟨#[]⟩, 2⟩ \/ r = ⟨⟨#[49]⟩, ⟨#[49]⟩, 1⟩ := by simpa [exT] using hr
  rcases h with rfl | rfl
  ·exact ⟨.inl rfl, .inl rfl, by decide, by decide⟩
  ·exact ⟨.inr (by decide), .inr (by decide), by decide, by decide⟩
 ·show List.Pairwise _ [_, _]
  refine List.Pairwise.cons (fun r hr h => ?_) (List.pairwise_singleton _ _)
  have h2 : r = ⟨⟨#[49]⟩, ⟨#[49]⟩, 1⟩ := by simpa using hr
  subst h2
  exact absurd h.1 (by decide)
 ·exact ⟨_, Kaf, rfl, rfl⟩
theorem Zju : FitT 100 10 5 exT exS := by
 refine ⟨by decide, ?_, ?_, ?_⟩
 ·intro r hr s hs
  have h : r = exRt := by simpa [exT, exRt] using hr
  subst h
  have h : s = ⟨20, [100, 150]⟩ \/ s = ⟨50, [120, 200]⟩ := by simpa [exRt] using hs
  rcases h with rfl | rfl <;> decide
 ·intro r hr
  have h : r = exRt := by simpa [exT, exRt] using hr
  subst h
  decide
 ·intro l hl
  have h : l = exS[0] \/ l = exS[1] := by simpa [exS] using hl
  rcases h with rfl | rfl <;> decide
end Go.Proofs.YtlgajongmkhcnaaGreatDoor
