import Derived.Test.YtlgajongmkhcnaaGreatDoorQUQ
import Derived.Test.YtlgajongmkhcnaaGreatDoorTie
import Derived.Test.YtlgajongmkhcnaaGreatDoorCards
import Derived.Test.YtlgajongmkhcnaaGreatDoorQU6
import Derived.HandedShaped
import Derived.Handed
import Derived.ProofKit
import Derived.OpenShut
import Derived.ShutString
import Derived.LaidMore
import Derived.LaidSub
import Derived.Lay
import Derived.SevenTiedAt
import Derived.Stop.Joined
import Derived.Carry
import Derived.Lib.LaidTab
import Derived.SizedLaws
import Derived.Test.YtlgajongmkhcnaaGreatDoorQUR
import Derived.Test.YtlgajongmkhcnaaGreatDoorQUP
import Derived.Test.YtlgajongmkhcnaaGreatDoorQUi
import Derived.Test.YtlgajongmkhcnaaGreatDoorQUN
set_option maxRecDepth 100000
set_option linter.unusedVariables false
set_option linter.unusedSimpArgs false
set_option maxHeartbeats 32000000
namespace Go.Proofs.YtlgajongmkhcnaaGreatDoor
section
open Go.ChangeShapes Go.WideShapes Go.ChangeAt Go.RowKit
section
variable {H : Type} {enc : TypeId × Value -> H}
end
theorem ZlX {n : Int} (h : (Lit.int .i64 n).wf = true) : -9223372036854775808 <= n /\ n <= 9223372036854775807 := by
 simp only [Lit.wf, ZF, Kab] at h
 exact h
end
section
open Go.RowKit Go.Sort
theorem eight {j : Nat} (h : j < 8) : j = 0 \/ j = 1 \/ j = 2 \/ j = 3 \/ j = 4 \/ j = 5 \/ j = 6 \/ j = 7 := by omega
theorem ZmG (x : Ln) {j : Nat} (h : j < 8) : (lnC x)[j]? = some (.int .i64 (lnN x j)) := by
 rcases eight h with rfl | rfl | rfl | rfl | rfl | rfl | rfl | rfl <;> rfl
theorem Zmu (x : Ln) {j : Nat} (h : j < 8) (u : Int) : lnC (ZkW x j u) = (lnC x).set j (.int .i64 u) := by
 rcases eight h with rfl | rfl | rfl | rfl | rfl | rfl | rfl | rfl <;> rfl
theorem Zm4 (x : Ln) {j : Nat} (h : j < 8) (u : Int) : lnN (ZkW x j u) j = u := by
 rcases eight h with rfl | rfl | rfl | rfl | rfl | rfl | rfl | rfl <;> rfl
def Man.lin (X : Man) : Option Nat -> Ln
 | none => X.total
 | some i => X.lines.getD i X.total
theorem ZlS (X : Man) (i : Option Nat) (j : Nat) (u : Int) : (X.put i j u).lines.length = X.lines.length := by
 cases i with
 | none => rfl
 | some i => exact Kb8
theorem Zm7 (X : Man) (i : Option Nat) (j : Nat) (u : Int) : (X.put i j u).buns = X.buns /\ (X.put i j u).tras = X.tras /\ (X.put i j u).cons = X.cons := by
 cases i <;> exact ⟨rfl, rfl, rfl⟩
theorem ZmS (X : Man) (i : Option Nat) (hi : ∀ q, i = some q -> q < X.lines.length) {j : Nat} (hj : j < 8) {u : Int} (hu : u ≠ lnN (X.lin i) j) : (decide (X.total = (X.put i j u).total) && decide (X.lines = (X.put i j u).lines)) = false := by
 rw [Bool.and_eq_false_iff, decide_eq_false_iff_not, decide_eq_false_iff_not]
 cases i with
 | none =>
  refine .inl (fun e => hu ?_)
  have e2 : X.total = ZkW X.total j u := e
  show u = lnN X.total j
  rw [e2, Zm4 _ hj]
 | some q =>
  refine .inr (fun e => hu ?_)
  have hq := hi q rfl
  have e2 : X.lines[q]? = (X.lines.set q (ZkW (X.lines.getD q X.total) j u))[q]? := by rw [<- show X.lines = X.lines.set q (ZkW (X.lines.getD q X.total) j u) from e]
  rw [Kcw hq, Z3 hq] at e2
  injection e2 with e2
  show u = lnN (X.lines.getD q X.total) j
  have e3 : X.lines.getD q X.total = X.lines[q] := by rw [Z2, Z3 hq]; rfl
  rw [e3] at e2 ⊢
  rw [e2, Zm4 _ hj]
def Zlw (A g : Nat) : Option Nat -> Nat × Nat
 | none => (A, 1)
 | some i => (g, i * 8)
theorem ManS.num {W : World} {B A g cap : Nat} {X : Man} (h : ManS W B A g cap X) (i : Option Nat) (hi : ∀ q, i = some q -> q < X.lines.length) {j : Nat} (hj : j < 8) :
 W.cell? ⟨(Zlw A g i).1, (Zlw A g i).2 + j, none⟩ = some (.int .i64 (lnN (X.lin i) j)) /\ W.frozen? ⟨(Zlw A g i).1, (Zlw A g i).2 + j, none⟩ = false /\ (B <= (Zlw A g i).1 /\ (Zlw A g i).1 <= A) /\
  ∀ u : Int, ManS (W.setCell ⟨(Zlw A g i).1, (Zlw A g i).2 + j, none⟩ (.int .i64 u)) B A g cap (X.put i j u) := by
 obtain ⟨⟨c1, p1, e1⟩, ⟨c2, p2, hs, e2⟩, h3⟩ := h
 have pB : g ≠ A := by omega
 cases i with
 | none =>
  refine ⟨?_, by simp [World.frozen?, Zlw, p1], ⟨by show B <= A; omega, Z1 _⟩, fun u => ?_⟩
  ·show W.cell? ⟨A, 1 + j, none⟩ = _
   rw [Kaa _ _ _ _ _ _ p1, <- Kb9, e1, Nat.add_comm, Kdf, Ka6 (by rw [Z5A]; exact hj)]
   exact ZmG _ hj
  ·refine ⟨⟨_, Zk6 p1 (1 + j) _, ?_⟩, ⟨c2, (ZeU pB _).trans p2, hs, e2⟩, h3⟩
   rw [Array.toList_setIfInBounds, e1, Nat.add_comm, Kdh, List.set_append_left _ _ (by rw [Z5A]; exact hj), <- Zmu _ hj]
   rfl
 | some q =>
  have hq := hi q rfl
  have e3 : X.lines.getD q X.total = X.lines[q] := by rw [Z2, Z3 hq]; rfl
  refine ⟨?_, by simp [World.frozen?, Zlw, p2], ⟨h3.1, by show g <= A; omega⟩, fun u => ?_⟩
  ·show W.cell? ⟨g, q * 8 + j, none⟩ = some (.int .i64 (lnN (X.lines.getD q X.total) j))
   rw [Kaa _ _ _ _ _ _ p2, e3]
   exact e2 q hq j _ (ZmG _ hj)
  ·refine ⟨⟨c1, (ZeU (Ne.symm pB) _).trans p1, ?_⟩, ⟨_, Zk6 p2 (q * 8 + j) _, ?_, ?_⟩, h3⟩
   ·rw [e1]
    show _ = Value.slice _ (X.lines.set q _).length cap :: _
    rw [Kb8]
    rfl
   ·rw [Array.size_setIfInBounds]
    show (X.lines.set q _).length * 8 <= _
    rw [Kb8]; exact hs
   ·intro i pD k v hk
    have pJ : i < X.lines.length := by
     have : i < (X.lines.set q (ZkW (X.lines.getD q X.total) j u)).length := pD
     rwa [Kb8] at this
    replace hk : (lnC ((X.lines.set q (ZkW (X.lines.getD q X.total) j u))[i]'(by rw [Kb8]; exact pJ)))[k]? = some v := hk
    have pR : k < 8 := (Kam.1 hk).1
    by_cases pG : i = q
    ·subst pG
     rw [List.getElem_set_self, Zmu _ hj, e3] at hk
     by_cases pL : k = j
     ·subst pL
      rw [Kcw (by rw [Z5A]; exact pR)] at hk
      rw [Array.getElem?_setIfInBounds_self_of_lt (by omega), hk]
     ·rw [List.getElem?_set_ne (Ne.symm pL)] at hk
      rw [Array.getElem?_setIfInBounds_ne (by omega)]
      exact e2 i pJ k v hk
    ·rw [List.getElem_set_ne (Ne.symm pG)] at hk
     rw [Array.getElem?_setIfInBounds_ne (by omega)]
     exact e2 i pJ k v hk
theorem ZmL {W : World} {N g o j : Nat} (h : W.1[N]? = some (ZmP g o)) (hj : j < 8) : W.cell? ⟨N, j, none⟩ = some (.pointer (some ⟨g, o + j, none⟩)) := by
 unfold ZmP at h
 rcases eight hj with rfl | rfl | rfl | rfl | rfl | rfl | rfl | rfl <;> exact Kaa _ _ _ _ _ _ h
def Zjy (e : Bool) (b : Bun) : Bun := { b with ids := if e then b.ids.take (b.ids.length - 1) else b.ids.drop 1 }
def Zjx (L : Lod) (q : Nat) (e : Bool) : Lod := { L with buns := L.buns.modify q (Zjy e) }
theorem Zd2 (L : Lod) (q : Nat) (e : Bool) : (Zjx L q e).buns.length = L.buns.length := List.length_modify ..
theorem Zmw (e : Bool) (b : Bun) : (Zjy e b).ids.length = b.ids.length - 1 := by
 cases e
 ·show (b.ids.drop 1).length = _
  rw [Kdp]
 ·show (b.ids.take (b.ids.length - 1)).length = _
  rw [Kax]
  omega
theorem Zmv {e : Bool} {b : Bun} {x : Int} (h : x ∈ (Zjy e b).ids) : x ∈ b.ids := by
 cases e
 ·exact List.mem_of_mem_drop h
 ·exact Kcg h
theorem ZlH (e : Bool) : ∀ (bs : List Bun) (q : Nat) (h : q < bs.length), bs[q].ids ≠ [] -> ((bs.modify q (Zjy e)).flatMap (fun b => b.ids)).length + 1 = (bs.flatMap (fun b => b.ids)).length
 | [], q, h, _ => by simp at h
 | b :: r, 0, h, pB => by
  have : 0 < b.ids.length := Kcr.2 pB
  rw [List.modify_zero_cons, Kao, Kao, ZC, ZC]
  rw [Zmw]
  omega
 | b :: r, q + 1, h, pB => by
  have := ZlH e r q (by simpa using h) (by simpa using pB)
  rw [List.modify_succ_cons, Kao, Kao, ZC, ZC]
  omega
theorem Zmf {k : Pck} {ps : List Pce} {zs : List Int} {ns : List ByteArray} {L : Lod} (h : Pkd k ps zs ns L) {q : Nat} (hq : q < L.buns.length) (e : Bool) : ¬ LodOk k ps zs ns (Zjx L q e) := fun h2 => by
 have h3 := h2.buns.all
 have h4 := ZlH e L.buns q hq (h.own _ (Z4 hq)).1
 have h5 := h.idn
 have : ((L.buns.modify q (Zjy e)).flatMap (fun b => b.ids)).length = ps.length := h3
 omega
theorem ZmC {L : Lod} {q : Nat} {e : Bool} {b : Bun} (hb : b ∈ (Zjx L q e).buns) : ∃ b0 ∈ L.buns, ∀ i ∈ b.ids, i ∈ b0.ids := by
 obtain ⟨i, hi, rfl⟩ := List.getElem_of_mem hb
 have pD : i < L.buns.length := by rwa [Zd2] at hi
 have e2 : (Zjx L q e).buns[i] = if q = i then Zjy e L.buns[i] else L.buns[i] := List.getElem_modify ..
 rw [e2]
 refine ⟨L.buns[i], Z4 pD, fun x hx => ?_⟩
 split at hx
 ·exact Zmv hx
 ·exact hx
theorem Zmg {L : Lod} {q : Nat} (h : SmallL L) (hq : q < L.buns.length) (pB : L.buns[q].ids ≠ []) (e : Bool) : SmallL (Zjx L q e) := by
 have h4 := ZlH e L.buns q hq pB
 have h5 := h.bi
 exact ⟨by rw [Zd2]; exact h.b, h.t, h.c, by show ((L.buns.modify q (Zjy e)).flatMap (fun b => b.ids)).length <= _; omega, h.ti, h.ci⟩
theorem Zfr {w : World} {g : Nat} {cs : Array Value} {t T : TypeId} {fr : Nat × Nat} (hg : w.1[g]? = some (.cells cs t fr)) (hT : t ≠ T) : ∀ q, some g = some q -> ∀ cur fr, w.1[q]? ≠ some (.cells cur T fr) := fun q e cur fr e2 => by
 injection e with e
 rw [<- e, hg] at e2
 injection e2 with e2
 injection e2 with e3 e4 e5
 exact hT e4
section
variable {W W' : World} {B G : Nat} {vb vt vc : Value} {L : Lod}
theorem LodS.rd (h : LodS W B G vb vt vc L) : RdLod W vb vt vc L := Ziw h.b h.t h.c
end
theorem LodS.drop {W : World} {B G n cb : Nat} {ab : Option Addr} {vt vc : Value} {L : Lod} (h : LodS W B G (.slice ab n cb) vt vc L) {q : Nat} (hq : q < L.buns.length) (pB : L.buns[q].ids ≠ []) :
 ∃ g gi oi ci, ab = some ⟨g, 0, none⟩ /\ B <= g /\ W.cell? ⟨g, q * 4 + 2, none⟩ = some (.slice (some ⟨gi, oi, none⟩) L.buns[q].ids.length ci) /\ W.frozen? ⟨g, q * 4 + 2, none⟩ = false /\ g ≠ G /\
  ∀ c', RdLod (W.setCell ⟨g, q * 4 + 2, none⟩ (.slice (if ci = 1 then some ⟨gi, oi, none⟩ else some ⟨gi, oi + 1, none⟩) (L.buns[q].ids.length - 1) c')) (.slice ab n cb) vt vc (Zjx L q (decide (ci = 1))) := by
 have pM := h.b
 obtain ⟨ax, cx, pS⟩ := pM.form
 injection pS with e1 e2 e3
 subst e1; subst e2; subst e3
 obtain ⟨g, s, cur, ha, hB, hg, qC, pK, pN⟩ := Zd7 pM (by omega)
 subst ha
 have pT : 0 < L.buns[q].ids.length := Kcr.2 pB
 have pI := pN q hq
 obtain ⟨aq, cq, pO, pU⟩ := id pI
 obtain ⟨gi, oi, _, rfl, _, _, _⟩ := pU pT
 rw [pO] at pI
 have pP := pK q hq 2 _ rfl
 rw [pO] at pP
 have pV : g ≠ G := fun e => by
  have := h.box
  rw [<- e, hg] at this
  injection this with this
  injection this with _ e4 _
  exact absurd e4 (by decide)
 refine ⟨g, gi, oi, cq, rfl, hB, by rw [Kaa _ _ _ _ _ _ hg]; exact pP, by simp [World.frozen?, hg], pV, fun c' => ?_⟩
 have pC := Z08 W ⟨g, q * 4 + 2, none⟩ (.slice (if cq = 1 then some ⟨gi, oi, none⟩ else some ⟨gi, oi + 1, none⟩) (L.buns[q].ids.length - 1) c')
 have hI := Zfr hg (show 67 ≠ 3 by decide)
 refine ⟨?_, (h.t.beside pC (Zfr hg (by decide)) hI).rd (fun _ => rfl), (h.c.beside pC (Zfr hg (by decide)) hI).rd (fun _ => rfl)⟩
 refine ⟨_, cb, by rw [Zd2], fun _ => ⟨g, 0, rfl, by rw [World.setCell]; simp; exact (Z5.1 hg).1, fun i hi => ?_⟩⟩
 have pD : i < L.buns.length := by rwa [Zd2] at hi
 have e : (Zjx L q (decide (cq = 1))).buns[i] = if q = i then Zjy (decide (cq = 1)) L.buns[i] else L.buns[i] := List.getElem_modify ..
 rw [e, Ka0]
 have pQ := Zk6 hg (q * 4 + 2) (.slice (if cq = 1 then some ⟨gi, oi, none⟩ else some ⟨gi, oi + 1, none⟩) (L.buns[q].ids.length - 1) c')
 by_cases pG : q = i
 ·subst pG
  rw [if_pos rfl]
  have hd : RdInts (W.setCell ⟨g, q * 4 + 2, none⟩ (.slice (if cq = 1 then some ⟨gi, oi, none⟩ else some ⟨gi, oi + 1, none⟩) (L.buns[q].ids.length - 1) c')) (.slice (if cq = 1 then some ⟨gi, oi, none⟩ else some ⟨gi, oi + 1, none⟩) (L.buns[q].ids.length - 1) c') (Zjy (decide (cq = 1)) L.buns[q]).ids := by
   by_cases pE : cq = 1
   ·rw [if_pos pE, Kac pE]
    rw [if_pos pE] at pC
    exact ((pI.take (k := L.buns[q].ids.length - 1) (cap' := c') (by omega)).kept pC (fun k ek => .inr (hI k ek))).rd
   ·rw [if_neg pE, Kad pE]
    rw [if_neg pE] at pC
    exact ((pI.drop (k := 1) (cap' := c') (by omega)).kept pC (fun k ek => .inr (hI k ek))).rd
  refine ⟨_, hd, fun j u hj => ?_⟩
  rw [Kaa _ _ _ _ _ _ pQ]
  by_cases pW : j = 2
  ·subst pW
   rw [Array.getElem?_setIfInBounds_self_of_lt (by omega)]
   exact hj
  ·rw [Array.getElem?_setIfInBounds_ne (by omega)]
   refine pK q hq j u ?_
   rw [<- hj]
   have pX : j < 4 := (Kam.1 hj).1
   rcases (show j = 0 \/ j = 1 \/ j = 3 by omega) with rfl | rfl | rfl <;> rfl
 ·rw [if_neg pG]
  refine ⟨s i, ((pN i pD).kept pC (fun k ek => .inr (hI k ek))).rd, fun j u hj => ?_⟩
  have pX : j < 4 := (Kam.1 hj).1
  rw [Kaa _ _ _ _ _ _ pQ, Array.getElem?_setIfInBounds_ne (by omega)]
  exact pK i pD j u hj
section
variable {n : Nat} {ps : List UInt8} {ls : List Lev} {l : List UInt16} {zs : List Int} {k : Pck}
def ZmQ (n : Nat) (ps : List UInt8) (ls : List Lev) (l : List UInt16) (zs : List Int) (k : Pck) (L : Lod) (X : Man) (b : Bool) : Prop :=
 ∀ W vr vz v vp vn vb vt vc vx, RdTar W vr vz (Z1H n ps) -> RdLevs W v ls -> RdPces W vp (Z04 l).ps -> RdInts W vn zs -> RdLod W vb vt vc L -> RdLns W vx X.lines ->
  Calls Tryz.prog 14 #[.agg #[vr, vz], v, ZdO vp, vn, ZkX k, .agg #[vb, vt, vc], Z6p X vx] W fun e w' => e = .returned (.tuple #[.bool b, .int .i64 0]) /\ Below W.1.size W w'
theorem ZlR {W : World} {vb vt vc : Value} {L : Lod} (h : RdLod W vb vt vc L) : (∃ a c, vb = .slice a L.buns.length c) /\ (∃ a c, vt = .slice a L.tras.length c) /\ ∃ a c, vc = .slice a L.cons.length c := by
 obtain ⟨a, c, h1, _⟩ := h.b
 obtain ⟨a', c', h2, _⟩ := h.t
 obtain ⟨a2, c2, h3, _⟩ := h.c
 exact ⟨⟨a, c, h1⟩, ⟨a', c', h2⟩, ⟨a2, c2, h3⟩⟩
theorem Zmp (h : Mk27 n ps ls l) (pA : zs.length = (Z04 l).ps.length) (hn : Z1j ls.length zs = true) {L : Lod} {X : Man} {b : Bool} (pY : X.lines.length <= 100000) (hL : L.buns.length <= 100000 /\ L.tras.length <= 100000 /\ L.cons.length <= 100000)
 (pZ : ∀ W v vp vn vb vt vc, RdLevs W v ls -> RdPces W vp (Z04 l).ps -> RdInts W vn zs -> RdLod W vb vt vc L -> Calls Tryz.prog 37 #[v, ZdO vp, vn, ZkX k, .agg #[vb, vt, vc]] W fun e w' => e = .returned (.tuple #[.bool b, .int .i64 0]) /\ Below W.1.size W w') :
 ZmQ n ps ls l zs k L X (b && (decide ((Z5y n ps ls l zs L).total = X.total) && decide ((Z5y n ps ls l zs L).lines = X.lines)) && (decide ((Z5y n ps ls l zs L).buns = X.buns) && decide ((Z5y n ps ls l zs L).tras = X.tras) && decide ((Z5y n ps ls l zs L).cons = X.cons))) := by
 intro W vr vz v vp vn vb vt vc vx h1 h2 h3 h4 h5 h6
 obtain ⟨f1, f2, f3⟩ := ZlR h5
 obtain ⟨ar, cr, rfl, _⟩ := id h1.r
 obtain ⟨az, cz, rfl, _⟩ := id h1.z
 obtain ⟨al, cl, rfl, _⟩ := id h2
 obtain ⟨ap, cp, rfl, _⟩ := id h3
 obtain ⟨an, cn, rfl, _⟩ := id h4
 have qD := Z0y h.hp.right
 have qA : (Z5y n ps ls l zs L).lines.length <= 100000 := by
  have : (Z5y n ps ls l zs L).lines.length = ls.length := by unfold Z5y Z5x; simp
  omega
 refine Za1 (M := Z5y n ps ls l zs L) (m := Z04 l) (k := k) (nb := L.buns.length) (nt := L.tras.length) (nc := L.cons.length) W ⟨_, _, _, rfl⟩ ⟨_, _, _, rfl⟩ ⟨_, _, _, rfl⟩ ⟨_, _, _, rfl⟩ ⟨_, _, _, rfl⟩ f1 f2 f3 h6 qA pY (fun W' hW => ?_) (fun W' hW => ?_)
 ·exact pZ W' _ _ _ _ _ _ (h2.below hW) (h3.below hW) (h4.below hW) (h5.below hW)
 ·exact h.state pA hn W' (h1.below hW) (h2.below hW) (h3.below hW) (h4.below hW) f1 f2 f3 hL
theorem Zm3 (h : Mk27 n ps ls l) (pA : zs.length = (Z04 l).ps.length) (hn : Z1j ls.length zs = true) (hA : Zb3 ls (Z04 l) zs k = 0) (hk : Z7K k = true) (pH : ∀ p ∈ (Z04 l).ps, p.grams <= k.grams) {X : Man} {b : Bool} (hX : X.lines.length <= 100000)
 (hp : X.buns = (Z5y n ps ls l zs (ZbD ls l zs k)).buns /\ X.tras = (Z5y n ps ls l zs (ZbD ls l zs k)).tras /\ X.cons = (Z5y n ps ls l zs (ZbD ls l zs k)).cons)
 (hb : (decide ((Z5y n ps ls l zs (ZbD ls l zs k)).total = X.total) && decide ((Z5y n ps ls l zs (ZbD ls l zs k)).lines = X.lines)) = b) : ZmQ n ps ls l zs k (ZbD ls l zs k) X b := by
 have pF := Zcu h.hp pA hn hk pH
 have := Zmp (k := k) (b := true) (X := X) h pA hn hX (ZbC h.hp pA hn hk pH) (fun W v vp vn vb vt vc h1 h2 h3 h4 => Zea h.hp h1 h2 h3 pA hn hA h4 pF)
 obtain ⟨p1, p2, p3⟩ := hp
 rw [hb, p1, p2, p3, Kac rfl, Kac rfl, Kac rfl, Bool.true_and, Bool.and_true, Bool.and_true, Bool.and_true] at this
 exact this
theorem ZmA (h : Mk27 n ps ls l) (pA : zs.length = (Z04 l).ps.length) (hn : Z1j ls.length zs = true) (hA : Zb3 ls (Z04 l) zs k = 0) (hk : Z7K k = true) (pH : ∀ p ∈ (Z04 l).ps, p.grams <= k.grams) {X : Man} (hX : X.lines.length <= 100000) {q : Nat} (hq : q < (ZbD ls l zs k).buns.length) (e : Bool) :
 ZmQ n ps ls l zs k (Zjx (ZbD ls l zs k) q e) X false := by
 have qE := h.hp.few
 have pF := Zcu h.hp pA hn hk pH
 have hl := ZbC h.hp pA hn hk pH
 have hs := Zmg (pF.smallL (by omega)) hq (pF.own _ (Z4 hq)).1 e
 exact Zmp (k := k) (b := false) (X := X) (L := Zjx (ZbD ls l zs k) q e) h pA hn hX (by rw [Zd2]; exact hl) (fun W v vp vn vb vt vc h1 h2 h3 h4 => by
  refine Calls.mono (Zi8 h.hp v vp vn vb vt vc zs k _ W h1 h2 h3 pA hn hA h4 hs (fun b hb i hi => by
   obtain ⟨b0, qB, hm⟩ := ZmC hb
   have := (pF.own b0 qB).2.2 i (hm i hi)
   omega)) ?_
  rintro e0 w' ⟨u, rfl, hb, hu⟩
  rw [hu.false (Zmf pF hq e)]
  exact ⟨rfl, hb⟩)
end
theorem Zm2 (a b : Nat) : (a : Int).tmod (b : Int) = ((a % b : Nat) : Int) := by rw [Kbn (Kce _)]; rfl
end
end Go.Proofs.YtlgajongmkhcnaaGreatDoor
