import Derived.Test.YtlgajongmkhcnaaGreatDoorQU1
import Derived.Maps.AppendAt
import Derived.Lib.SmallJoins
import Derived.Test.YtlgajongmkhcnaaGreatDoorQU4
import Derived.Maps.OwnRows
import Derived.Maps.GroupsBeside
import Derived.Sort.KeysCollected
import Derived.BigQuiet
set_option maxRecDepth 100000
set_option linter.unusedVariables false
set_option maxHeartbeats 32000000
namespace Go.Proofs.YtlgajongmkhcnaaGreatDoor
section
open Go.RowKit Go.Maps
theorem Tryz.infoS : (Tryz.prog.info? 9).map (fun i => (i.zero, i.size, i.bytes)) = some (some (.string ⟨#[]⟩), 1, 16) := by kernel_rfl
theorem Z0w {c : ByteArray} (h : Z0G c = true) : 1 <= c.size /\ c.size <= 10 := by unfold Z0G at h; simp at h; exact h.1
theorem Z0y {ls : List Lev} (h : Z0g ls = true) : 1 <= ls.length /\ ls.length <= 6 := ⟨(Z0I.1 h).1, (Z0I.1 h).2.1⟩
theorem Z36 {ls : List Lev} (h : Z0g ls = true) (i : Nat) (hi : i < ls.length) : Z26 ls[i].labs /\ (∀ x ∈ ls[i].labs, (x.pre.size : Int) = ls[i].pre) /\ 0 <= ls[i].pre /\ ls[i].pre <= 10 :=
 Z4e ((Z0I.1 h).2.2.1.2.1 i hi hi)
theorem Zdv {ls : List Lev} (h : Z0g ls = true) (i : Nat) (hi : i < ls.length) : ls[i].pre <= (ls[0]'(by omega)).pre := by
 induction i with
 | zero => exact Kbi _
 | succ i ih =>
  have := (Z0I.1 h).2.2.1.2.2.2 (i + 1) hi hi i rfl (by omega)
  have := ih (by omega)
  omega
abbrev OwnsT (w : World) (base : Nat) (v : Value) (l : List ByteArray) : Prop := w.ownsRow base 9 1 v l.length (l.map Value.string)
theorem OwnsT.nil (w : World) (base : Nat) : OwnsT w base (.slice none 0 0) [] := Kbb _ _ _ _
end
end Go.Proofs.YtlgajongmkhcnaaGreatDoor
namespace Go.Proofs
open Go.RowKit Go.Maps Go.Sort Go.Shelf
theorem Tryz.sorts86 (m : Nat) : AnyZ.SortsIn Tryz.prog Tryz.sorted86_ren Fence.wide m :=
 ⟨fun blk off cap ss W hH uK qD => callsIn_wide.2 (AnyM.slices_Sort_string Tryz.sort120 blk off cap ss W hH uK qD),
  fun p cap W => callsIn_wide.2 (AnyM.slices_Sort_string_none Tryz.sort120 p cap W)⟩
theorem Tryz.maps_Keys_87 (mb : Option Nat) (W : World) : CallsIn Fence.wide 5 Tryz.prog 87 #[.map mb] W fun e w' => e = .returned (.func (.func 121) #[] #[.pointer (some ⟨W.1.size, 0, none⟩)]) /\ w' = W.alloc (.cells #[.map mb] 178) :=
 AnyZ.keys_in Tryz.keys87 Fence.wide 5 trivial rfl mb W
theorem Tryz.slices_Sorted_keys {H : Type} (b nn : Nat) (D0 : DataW H) (R : Value -> Option (DataW H × List MemPlace)) (w : World) (pW : w.ownsMap Tryz.prog 9 R b nn D0) (uL : Maps.size D0 <= maxLen) (uM : Maps.size D0 * 16 <= 140737488355328) :
 CallsIn Fence.wide 5 Tryz.prog 86 #[.func (.func 121) #[] #[.pointer (some ⟨w.1.size, 0, none⟩)]] (w.alloc (.cells #[.map (some b)] 178)) fun e w' => ∃ (v : Value) (ss : List (List UInt8)), e = .returned v /\ ss.Perm (strKeys D0) /\
  w'.ownsRow (w.alloc (.cells #[.map (some b)] 178)).1.size 9 1 v ss.length ((ss.mergeSort (fun x y => decide (x <= y))).map encStr) /\ (v = .slice none 0 0 ↔ ss = []) /\ Below (w.alloc (.cells #[.map (some b)] 178)).1.size (w.alloc (.cells #[.map (some b)] 178)) w' := by
 have uN := pW.lt
 have uO : SeqGives Fence.wide 2 Tryz.prog 121 #[.pointer (some ⟨w.1.size, 0, none⟩)] encStr (fun ss => ss.Perm (strKeys D0)) (Maps.size D0) (w.alloc (.cells #[.map (some b)] 178)) :=
  AnyZ.keys_gives (ρ := Tryz.keys87_ren) { Tryz.keys87 with } Fence.wide _ trivial rfl (by omega) w.1.size b nn D0 _ (by simp) (by simp) (by
   obtain ⟨es, clock, hb, Ft, hs, hD⟩ := pW
   exact ⟨es, clock, (ZB _ _ b uN).trans hb, Ft, hs, hD⟩)
 exact AnyZ.sorted_in Tryz.sorted86 Fence.wide 5 trivial trivial trivial trivial rfl (by omega) (Tryz.sorts86 _) (enters_of Tryz.func120 (by kernel_rfl) rfl) 121 #[.pointer (some ⟨w.1.size, 0, none⟩)] trivial (enters_of Tryz.func121 (by kernel_rfl) rfl) _ _ uL uM _ uO
end Go.Proofs
namespace Go.Proofs.YtlgajongmkhcnaaGreatDoor
section
open Go.RowKit Go.Maps Go.WideMaps Go.ChangeShapes Go.WideElems
def GrpsF (w : World) (base B n : Nat) (G : ByteArray -> List Int) : Prop :=
 ∃ D : DataW Unit, w.ownsGroups Tryz.prog 9 base 3 .i64 B n D /\ ∀ s, (G s = [] -> Maps.has D (Z7L s) = false) /\ (G s ≠ [] -> Maps.has D (Z7L s) = true /\ ∀ zd, D.atKey (Z7L s) zd = .slice (lits .i64 (G s)) [])
theorem GrpsF.made (w : World) : GrpsF (w.alloc (.map #[] 0)) (w.1.size + 1) w.1.size 0 (fun _ => []) :=
 ⟨.map [], World.ownsGroups_made _ _ _ _ _, fun s => ⟨fun _ => rfl, fun h => absurd rfl h⟩⟩
theorem GrpsF.below {w w' : World} {base B n : Nat} {G : ByteArray -> List Int} (h : GrpsF w base B n G) (hb : Below w.1.size w w') : GrpsF w' base B n G := by
 obtain ⟨D, hD, hG⟩ := h
 exact ⟨D, hD.kept (Z0a hb) (by simp) (fun _ _ _ x _ => Kbm _), hG⟩
theorem GrpsF.lt {w : World} {base B n : Nat} {G : ByteArray -> List Int} (h : GrpsF w base B n G) : B < w.1.size /\ B < base := by
 obtain ⟨D, ⟨es, clock, hb, _, _, _, rT, _⟩, hG⟩ := h
 exact ⟨(Z5.1 hb).1, rT⟩
theorem ZhP {a b : List Int} (h : lits (H := Unit) .i64 a = lits .i64 b) : a = b := by
 unfold lits at h
 exact (List.map_inj_right (fun x y rD => by simpa using rD)).1 h
theorem Z6M {w : World} {base : Nat} {v : Value} {zs G : List Int} (ho : w.ownsInts base 3 .i64 v zs) (h : (G = [] /\ rowDatum (H := Unit) .i64 v zs = .nil) \/ rowDatum (H := Unit) .i64 v zs = .slice (lits .i64 G) []) : zs = G := by
 rcases ho.datum (H := Unit) with ⟨h1, h2⟩ | h1
 ·rcases h with ⟨rfl, _⟩ | h
  ·exact h2
  ·rw [h1] at h; cases h
 ·rcases h with ⟨_, h⟩ | h
  ·rw [h1] at h; cases h
  ·rw [h1] at h
   injection h with h _
   exact ZhP h
def ZkV (w : World) (base B n : Nat) (G : ByteArray -> List Int) (s : ByteArray) (v : Value) : Prop :=
 ∀ (w1 : World) (v' : Value) (x : Int), w.grownBy w1 v.ownBlock -> w1.ownsInts base 3 .i64 v' (G s ++ [x]) -> (v'.ownBlock = v.ownBlock \/ ∃ g, v'.ownBlock = some g /\ w.1.size <= g) ->
  ∃ w2, (Instr.mapUpdate 178 (.map (some B)) (.string s) v').run Tryz.prog w1 = .ok () w2 /\ GrpsF w2 base B (n + 1) (fun u => if u = s then G s ++ [x] else G u) /\ w1.grownBy w2 (some B)
theorem GrpsF.at {w : World} {base B n : Nat} {G : ByteArray -> List Int} (h : GrpsF w base B n G) (hn : n < maxLen) {s : ByteArray} (hs : s.size <= maxLen) :
 ∃ v, (Instr.lookup 178 (.map (some B)) (.string s) false).run Tryz.prog w = .ok v w /\ w.ownsInts base 3 .i64 v (G s) /\ (G s).length <= n /\ ZkV w base B n G s v := by
 obtain ⟨D, hD, hG⟩ := h
 obtain ⟨v, zs, rU, pL, pX, uP, rE⟩ := hD.at Z2n Tryz.underlying178 (show (zeroValue 35).run Tryz.prog w = _ by kernel_rfl) hn (keyOf_string_mk Tryz.underlying9 hs)
 have ez : zs = G s := Z6M pX (by
  obtain ⟨h1, h2⟩ := hG s
  by_cases e : G s = []
  ·refine .inl ⟨e, ?_⟩
   rw [<- pL]
   exact atKey_of_not_has (h1 e) _
  ·exact .inr (by rw [<- pL]; exact (h2 e).2 _))
 subst ez
 refine ⟨v, rU, pX, uP, fun w1 v' x hg sX rV => ?_⟩
 obtain ⟨w2, uQ, uR, uS⟩ := rE w1 v' (G s ++ [x]) hg sX (by simp; omega) rV
 refine ⟨w2, uQ, ⟨_, uR, fun u => ?_⟩, uS⟩
 have hm : IsMap D := by
  obtain ⟨es, clock, _, _, _, rfl, _⟩ := hD
  exact ⟨_, rfl⟩
 have hk : WideAt.IsKeyLit (Z7L s) := trivial
 dsimp only
 have hd := sX.datum_pos (H := Unit) (by simp)
 rw [hd]
 by_cases e : u = s
 ·subst e
  rw [if_pos rfl]
  exact ⟨fun h => absurd h (by simp), fun _ => ⟨has_put_same hm hk _, fun zd => atKey_put_same hm hk _ zd⟩⟩
 ·rw [if_neg e]
  have pE : Z7L u ≠ Z7L s := fun h => e (ZcN h)
  exact ⟨fun h => by rw [<- (hG u).1 h]; exact has_put_other pE _, fun hy => ⟨by rw [<- ((hG u).2 hy).1]; exact has_put_other pE _, fun zd => by rw [<- ((hG u).2 hy).2 zd]; exact atKey_put_other pE _ _⟩⟩
def RowI (w : World) (v : Value) (zs : List Int) : Prop := ∃ g cap cur, v = .slice (some ⟨g, 0, none⟩) zs.length cap /\ w.1[g]? = some (.cells cur 3 (0, 0)) /\ cur.toList.take zs.length = zs.map (Value.int .i64)
theorem RowI.grown {w w' : World} {v : Value} {zs : List Int} {row : Option Nat} (h : RowI w v zs) (hg : w.grownBy w' row) (pE : ∀ g, row = some g -> ∀ cur fr, w.1[g]? ≠ some (.cells cur 3 fr)) : RowI w' v zs := by
 obtain ⟨g, cap, cur, hv, hh, ht⟩ := h
 exact ⟨g, cap, cur, hv, (hg.block g (Z5.1 hh).1 (fun e => pE g e.symm _ _ hh)).trans hh, ht⟩
theorem RowI.below {w w' : World} {v : Value} {zs : List Int} (h : RowI w v zs) (hb : Below w.1.size w w') : RowI w' v zs := h.grown (Z0a hb) (fun g e => by cases e)
theorem RowI.cell {w : World} {g cap i : Nat} {zs : List Int} (h : RowI w (.slice (some ⟨g, 0, none⟩) zs.length cap) zs) (hi : i < zs.length) : w.cell? ⟨g, i, none⟩ = some (.int .i64 zs[i]) := by
 obtain ⟨g', cap', cur, hv, hh, ht⟩ := h
 simp only [Value.slice.injEq, Option.some.injEq, Addr.mk.injEq, and_true, true_and] at hv
 obtain ⟨rfl, rfl⟩ := hv
 rw [Kaa w g i _ _ _ hh]
 have : (cur.toList.take zs.length)[i]? = (zs.map (Value.int .i64))[i]? := by rw [ht]
 rw [Kcd hi, Kal, Z3 hi, Kb9] at this
 exact this
theorem RowI.of_owns {w : World} {base : Nat} {v : Value} {zs : List Int} (h : w.ownsInts base 3 .i64 v zs) (pE : zs ≠ []) : RowI w v zs := by
 obtain ⟨⟨h1, h2 | ⟨g, cap, cur, hv, hb, hg, _, _, _, ht⟩⟩, _⟩ := h
 ·exact absurd (Kag.1 h2.2) pE
 ·exact ⟨g, cap, cur, hv, hg, by rw [Kdj] at ht; exact ht⟩
theorem ZdZ {R : Value -> Option (DataW Unit × List MemPlace)} {es : Array MapEntry} {clock : Nat} (F : Fit Tryz.prog 9 R es clock) : es.toList.Pairwise (fun x y => x.key ≠ y.key) := by
 refine (Kbt.1 (Maps.fit_apart Z2n F)).imp_of_mem (fun {x y} hx hy pE e => pE ?_)
 obtain ⟨a, ha⟩ := F.reads x hx
 obtain ⟨b, hb⟩ := F.reads y hy
 have h1 := rd_key ha
 have h2 := rd_key hb
 rw [rg_of ha, rg_of hb]
 rw [e, h2] at h1
 exact (Kav h1).symm
theorem GrpsF.read {w : World} {base B n : Nat} {G : ByteArray -> List Int} (h : GrpsF w base B n G) : ∀ s : ByteArray, s.size <= maxLen -> ∃ v, (∀ W : World, W.1[B]? = w.1[B]? -> (Instr.lookup 178 (.map (some B)) (.string s) false).run Tryz.prog W = .ok v W) /\ (G s ≠ [] -> RowI w v (G s)) := by
 obtain ⟨D, ⟨es, clock, hb, F, hs, rfl, rT, pR, rF⟩, hG⟩ := h
 intro s hs'
 have uT := keyOf_string_mk Tryz.underlying9 hs'
 have look := fun (W : World) (hW : W.1[B]? = w.1[B]?) => Maps.fit_look (P := Tryz.prog) (t := 178) (w := W) (b := B) false Z2n Tryz.underlying178 (show (zeroValue 35).run Tryz.prog W = .ok (.slice none 0 0) W by kernel_rfl) (hW.trans hb) F uT
 rcases look w rfl with ⟨h1, h2, h3⟩ | ⟨e0, y, m0, k0, h1, h2, h3, _⟩
 ·refine ⟨.slice none 0 0, fun W hW => ?_, fun pE => ?_⟩
  ·rcases look W hW with ⟨a1, _⟩ | ⟨e1, _, m1, k1, _⟩
   ·exact a1
   ·exact absurd k1 (h2 e1 m1)
  ·have := ((hG s).2 pE).2 .nil
   rw [show Z7L s = .string s.data.toList from rfl, h3] at this
   cases this
 ·refine ⟨e0.val, fun W hW => ?_, fun pE => ?_⟩
  ·rcases look W hW with ⟨_, a2, _⟩ | ⟨e1, _, m1, k1, a1, _⟩
   ·exact absurd k0 (a2 e0 m0)
   ·rw [entry_eq_of_key (ZdZ F) m0 m1 (k0.trans k1.symm)]; exact a1
  ·obtain ⟨zs, ho, rfl⟩ := rowElem_inv h2
   have e := ((hG s).2 pE).2 .nil
   rw [show Z7L s = .string s.data.toList from rfl, h3] at e
   have ez := Z6M ho (.inr e)
   rw [<- ez] at pE ⊢
   exact RowI.of_owns ho pE
end
section
open Go.RowKit Go.Maps Go.WideMaps Go.ChangeShapes Go.WideElems
def StrictB (l : List ByteArray) : Prop := l.Pairwise (fun a b => ltB a b = true)
theorem StrictB.nodup {l : List ByteArray} (h : StrictB l) : l.Nodup := List.Pairwise.imp (fun qF => Z3C qF) h
theorem ZeM {l m : List ByteArray} (hl : StrictB l) (hm : StrictB m) (h : ∀ s, s ∈ l ↔ s ∈ m) : l = m := by
 have hp : l.Perm m := (Kch hl.nodup hm.nodup).2 h
 exact List.Perm.eq_of_pairwise (le := fun a b => ltB a b = true) (fun a b _ _ h1 h2 => by rw [Z3D h1] at h2; cases h2) hl hm hp
def Z7J (G : ByteArray -> List Int) (names : List ByteArray) : Prop := StrictB names /\ ∀ s, s ∈ names ↔ G s ≠ []
def ZkD (l : List UInt8) : ByteArray := ⟨l.toArray⟩
theorem ZaW (l : List UInt8) : (ZkD l).data.toList = l := rfl
theorem ZgI (s : ByteArray) : ZkD s.data.toList = s := Z7B rfl
theorem ZhA {w : World} {base B n : Nat} {G : ByteArray -> List Int} (h : GrpsF w base B n G) : ∃ (D : DataW Unit) (R : Value -> Option (DataW Unit × List MemPlace)), w.ownsMap Tryz.prog 9 R B n D /\ ∀ s, (Maps.has D (Z7L s) = true ↔ G s ≠ []) := by
 obtain ⟨D, hD, hG⟩ := h
 obtain ⟨es, clock, hb, F, hs, rfl, rT, pR, rF⟩ := hD
 refine ⟨_, _, ⟨es, clock, hb, F, hs, rfl⟩, fun s => ⟨fun h e => ?_, fun h => ((hG s).2 h).1⟩⟩
 rw [(hG s).1 e] at h; cases h
theorem Zby {w : World} {B n : Nat} {D : DataW Unit} {R : Value -> Option (DataW Unit × List MemPlace)} (h : w.ownsMap Tryz.prog 9 R B n D) : (strKeys D).Nodup /\ ∀ x, x ∈ strKeys D ↔ Maps.has D (.string x) = true := by
 obtain ⟨es, hD, uU, _⟩ := h.entries Z2n
 obtain ⟨es', hD', uV⟩ := h.keysOf
 obtain rfl : es = es' := by rw [hD] at hD'; simpa using hD'
 subst hD
 have hk : ∀ p ∈ es, ∃ x, p.1 = .string x := fun p hp => by obtain ⟨v, hv⟩ := uV p hp; obtain ⟨x, _, hx, _⟩ := Maps.keyOf_str Tryz.underlying9 hv; exact ⟨x, hx⟩
 constructor
 ·show (es.map fun p => strOf p.1).Nodup
  refine Kbt.2 (uU.imp_of_mem fun {p q} hp' hq' pE e => pE ?_)
  obtain ⟨a, ha⟩ := hk p hp'
  obtain ⟨b, hb⟩ := hk q hq'
  rw [ha, hb] at e ⊢
  exact Kah _ e
 ·intro x
  rw [has_eq, Kbp]
  show x ∈ es.map (fun p => strOf p.1) ↔ _
  rw [Kae]
  constructor
  ·rintro ⟨p, hp', rfl⟩
   obtain ⟨a, ha⟩ := hk p hp'
   exact ⟨p, hp', by rw [ha]; simp [Lit.sameKey, strOf]⟩
  ·rintro ⟨p, hp', hs⟩
   obtain ⟨a, ha⟩ := hk p hp'
   rw [ha] at hs
   exact ⟨p, hp', by rw [ha]; simpa [Lit.sameKey, strOf] using hs⟩
theorem ZfN (B : Nat) (W : World) : Calls Tryz.prog 87 #[.map (some B)] W fun e w' => e = .returned (.func (.func 121) #[] #[.pointer (some ⟨W.1.size, 0, none⟩)]) /\ W.alloc (.cells #[.map (some B)] 178) = w' :=
 (callsIn_wide.1 (Tryz.maps_Keys_87 (some B) W)).mono (fun e w' ⟨h1, h2⟩ => ⟨h1, h2.symm⟩)
theorem Zba {w : World} {base B n : Nat} {G : ByteArray -> List Int} (h : GrpsF w base B n G) (hn : n <= 100000) :
 Calls Tryz.prog 86 #[.func (.func 121) #[] #[.pointer (some ⟨w.1.size, 0, none⟩)]] (w.alloc (.cells #[.map (some B)] 178)) fun e w' => ∃ v names, e = .returned v /\ Z7J G names /\ names.length <= n /\ (∀ s ∈ names, s.size <= maxLen) /\ OwnsT w' (w.1.size + 1) v names /\ Below w.1.size w w' := by
 obtain ⟨D, R, pW, hG⟩ := ZhA h
 have qD := pW.size_le
 refine (callsIn_wide.1 (Tryz.slices_Sorted_keys B n D R w pW (by unfold maxLen; omega) (by omega))).mono ?_
 rintro e w' ⟨v, ss, rfl, hp, pM, uW, hb⟩
 obtain ⟨uX, rG⟩ := Zby pW
 have rW := strKeys_le pW Tryz.underlying9
 have qL : (ss.mergeSort (fun x y => decide (x <= y))).Perm (strKeys D) := (List.mergeSort_perm _ _).trans hp
 have uY : (ss.mergeSort (fun x y => decide (x <= y))).Pairwise (fun a b => a < b) := by
  have tr : ∀ a b c : List UInt8, decide (a <= b) = true -> decide (b <= c) = true -> decide (a <= c) = true := fun a b c h1 h2 => by simp only [Kab] at *; exact List.le_trans h1 h2
  have tot : ∀ a b : List UInt8, (decide (a <= b) || decide (b <= a)) = true := fun a b => by simp only [Bool.or_eq_true, Kab]; exact List.le_total a b
  have h1 := List.pairwise_mergeSort tr tot ss
  have h2 : (ss.mergeSort (fun x y => decide (x <= y))).Nodup := qL.nodup_iff.2 uX
  refine (h1.and h2).imp (fun {a b} qF => ?_)
  have uZ : a <= b := by simpa using qF.1
  rcases Kbm (a < b) with pA | pA
  ·exact pA
  ·exact absurd (List.le_antisymm uZ (List.not_lt.1 pA)) qF.2
 refine ⟨v, (ss.mergeSort (fun x y => decide (x <= y))).map ZkD, rfl, ⟨?_, fun s => ?_⟩, ?_, fun s hs => ?_, ?_, ?_⟩
 ·unfold StrictB
  rw [Kbt]
  exact uY.imp (fun {a b} qF => by unfold ltB; rw [ZaW, ZaW]; exact Kac qF)
 ·rw [Kae]
  constructor
  ·rintro ⟨l, hl, rfl⟩
   exact (hG _).1 ((rG l).1 (qL.mem_iff.1 hl))
  ·intro hs
   exact ⟨s.data.toList, qL.mem_iff.2 ((rG _).2 ((hG s).2 hs)), ZgI s⟩
 ·rw [Z7, qL.length_eq]
  have : (strKeys D).length = Maps.size D := by
   obtain ⟨es, rfl⟩ := pW.isMap
   simp [strKeys, Maps.size]
  omega
 ·obtain ⟨l, hl, rfl⟩ := Kae.1 hs
  have := rW l (qL.mem_iff.1 hl)
  show l.toArray.size <= maxLen
  simpa using this
 ·have e : ((ss.mergeSort (fun x y => decide (x <= y))).map ZkD).map Value.string = (ss.mergeSort (fun x y => decide (x <= y))).map encStr := by
   rw [Kdd]; rfl
  show w'.ownsRow _ _ _ _ _ _
  rw [e, Z7, (List.mergeSort_perm ss _).length_eq]
  have e2 : (w.alloc (.cells #[.map (some B)] 178)).1.size = w.1.size + 1 := by simp
  rw [<- e2]
  exact pM
 ·exact Z0l (Z9 _ w) (Z1 _) hb
def ReadsT (w : World) (v : Value) (ls : List ByteArray) : Prop :=
 ∃ a cap, v = .slice a ls.length cap /\ (0 < ls.length -> ∃ g off, a = some ⟨g, off, none⟩ /\ g < w.1.size /\ ∀ i (h : i < ls.length), w.cell? ⟨g, off + i, none⟩ = some (.string ls[i]))
theorem ReadsT.below {w w' : World} {v : Value} {ls : List ByteArray} (h : ReadsT w v ls) (hb : Below w.1.size w w') : ReadsT w' v ls := by
 obtain ⟨a, cap, hv, hc⟩ := h
 exact ⟨a, cap, hv, fun h0 => by
  obtain ⟨g, off, ha, hg, pB⟩ := hc h0
  exact ⟨g, off, ha, ZH hg hb.size, fun i h => (hb.cell (p := ⟨g, off + i, none⟩) hg).trans (pB i h)⟩⟩
theorem Zac {W : World} {base g cap k : Nat} {ls : List ByteArray} (ho : OwnsT W base (.slice (some ⟨g, 0, none⟩) ls.length cap) ls) (hk : k < ls.length) : W.cell? ⟨g, k, none⟩ = some (.string ls[k]) := by
 rw [ho.cellAt k (by omega), Kal, Z3 hk]; rfl
theorem ReadsT.of_row {w : World} {v : Value} {base : Nat} {ls : List ByteArray} (ho : OwnsT w base v ls) : ReadsT w v ls := by
 rcases Joins.ownsRow_forms ho with ⟨rfl, hp⟩ | ⟨g, cap, rfl⟩
 ·obtain rfl : ls = [] := Kag.1 hp
  exact ⟨none, 0, rfl, fun h => absurd h (by simp)⟩
 ·exact ⟨_, cap, rfl, fun _ => ⟨g, 0, rfl, (ho.lt g rfl).2, fun i h => by rw [Ka0]; exact Zac ho h⟩⟩
theorem Z7r (s : ByteArray) (w : World) (hs : s.size <= maxLen) : Calls Tryz.prog 83 #[.string s] w fun e w' => e = .returned (.bool (!Z0G s)) /\ Below w.1.size w w' := by
 go_enter Tryz.func83, Tryz.ntmps83
 go_wp2_with (go_at_call 74; refine (Z6u _ _ hs).mono ?_; rintro e w1 ⟨rfl, pF⟩)
 go_ret
 exact ⟨rfl, pF⟩
theorem Z7q (s : ByteArray) (g off n cap X : Nat) (p : Int) (w : World) (hX : w.cell? ⟨X, 0, none⟩ = some (.slice (some ⟨g, off, none⟩) n cap)) (hn : 0 < n) (wQ : n <= 1000) (hp : w.cell? ⟨g, off + 1, none⟩ = some (.int .i64 p)) (hs : s.size <= maxLen) :
 Calls Tryz.prog 84 #[.string s, .pointer (some ⟨X, 0, none⟩)] w fun e w' => e = .returned (.bool (decide ((s.size : Int) < p))) /\ w = w' := by
 unfold maxLen at hs
 go_enter Tryz.func84, Tryz.ntmps84
 go_wp2_with fail
 go_ret
 exact ⟨rfl, rfl⟩
theorem Ze1 (cs : List ByteArray) (v : Value) (q : ByteArray -> Bool) (w : World) (hr : ReadsT w v cs) (hl : cs.length <= 100000) (pK : ∀ W, Below w.1.size w W -> ∀ s ∈ cs, Calls Tryz.prog 83 #[.string s] W fun e w' => e = .returned (.bool (q s)) /\ Below W.1.size W w') :
 Calls Tryz.prog 118 #[v, .func (.func 83) #[] #[]] w fun e w' => ∃ i : Int, e = .returned (.int .i64 i) /\ decide (0 <= i) = cs.any q /\ Below w.1.size w w' := by
 obtain ⟨a, cap, rfl, hc⟩ := hr
 have HC := Z0 hc
 have pY := Z0 pK
 clear hc pK
 go_enter Tryz.func118, Tryz.ntmps118
 go_wp2_with fail
 go_loopw [8] (fun i wr => ∃ k : Nat, k <= cs.length /\ i = .int .i64 k /\ Hid (∀ j, j < k -> ∀ h : j < cs.length, q cs[j] = false) /\ Below w.1.size w wr) (fun i _ => cs.length - (intOf i).toNat)
 case atStart => exact ⟨0, ZE _, rfl, fun j h => by omega, Z9 _ _⟩
 case round =>
  obtain ⟨k, hk, rfl, ha, hB⟩ := hrel
  by_cases pA : k < cs.length
  ·obtain ⟨g, off, rfl, hg, pB⟩ := HC.out (by omega)
   have c : wr.cell? ⟨g, off + k, none⟩ = some (.string cs[k]) := (hB.cell (p := ⟨g, off + k, none⟩) hg).trans (pB k pA)
   have hn : Hid (q cs[k] = false -> ∀ j, j < k + 1 -> ∀ h : j < cs.length, q cs[j] = false) := fun h1 j hj h => by
    by_cases e : j = k
    ·subst e; exact h1
    ·exact ha j (by omega) h
   have hf : Hid (q cs[k] = true -> cs.any q = true) := fun h1 => Kbp.2 ⟨_, Z4 pA, h1⟩
   have H1 := Z0 (pY.out wr hB cs[k] (Z4 pA))
   clear HC pY pB
   generalize cs[k] = s at c hn hf H1
   cases hd : q s
   all_goals rw [hd] at H1
   all_goals go_wp2_with (go_at_call 83; refine H1.out.mono ?_; rintro e w2 ⟨rfl, pG⟩)
   ·go_roundw
    case rel => exact ⟨k + 1, by omega, by go_num, hn.out hd, Z01 hB hB.size pG⟩
    case measure => simp [intOf]; omega
   ·go_ret
    exact ⟨_, rfl, by rw [hf.out hd]; simp, Z01 hB hB.size pG⟩
  ·have qM : cs.any q = false := by
    rw [Kb4]
    intro x hx
    obtain ⟨j, hj, rfl⟩ := Kau.1 hx
    rw [ha j (by omega) hj]; simp
   have rX := Z0 qM
   clear qM
   go_wp2_with fail
   go_ret
   exact ⟨_, rfl, by rw [rX.out]; rfl, hB⟩
theorem Z59 (cs : List ByteArray) (v : Value) (q : ByteArray -> Bool) (w : World) (hr : ReadsT w v cs) (hl : cs.length <= 100000) (pK : ∀ W, Below w.1.size w W -> ∀ s ∈ cs, Calls Tryz.prog 83 #[.string s] W fun e w' => e = .returned (.bool (q s)) /\ Below W.1.size W w') :
 Calls Tryz.prog 82 #[v, .func (.func 83) #[] #[]] w fun e w' => e = .returned (.bool (cs.any q)) /\ Below w.1.size w w' := by
 have H := Z0 (Ze1 cs v q w hr hl pK)
 clear hr pK
 go_enter Tryz.func82, Tryz.ntmps82
 go_wp2_with (go_at_call 118; refine H.out.mono ?_; rintro e w' ⟨i, rfl, hi, hb⟩; have HI := Z0 hi; clear hi)
 go_ret
 exact ⟨Z0d HI.out, hb⟩
theorem Ze0 (cs : List ByteArray) (v : Value) (X : Nat) (q : ByteArray -> Bool) (w : World) (hr : ReadsT w v cs) (hl : cs.length <= 100000) (pK : ∀ W, Below w.1.size w W -> ∀ s ∈ cs, Calls Tryz.prog 84 #[.string s, .pointer (some ⟨X, 0, none⟩)] W fun e w' => e = .returned (.bool (q s)) /\ Below W.1.size W w') :
 Calls Tryz.prog 118 #[v, .func (.func 84) #[] #[.pointer (some ⟨X, 0, none⟩)]] w fun e w' => ∃ i : Int, e = .returned (.int .i64 i) /\ decide (0 <= i) = cs.any q /\ Below w.1.size w w' := by
 obtain ⟨a, cap, rfl, hc⟩ := hr
 have HC := Z0 hc
 have pY := Z0 pK
 clear hc pK
 go_enter Tryz.func118, Tryz.ntmps118
 go_wp2_with fail
 go_loopw [8] (fun i wr => ∃ k : Nat, k <= cs.length /\ i = .int .i64 k /\ Hid (∀ j, j < k -> ∀ h : j < cs.length, q cs[j] = false) /\ Below w.1.size w wr) (fun i _ => cs.length - (intOf i).toNat)
 case atStart => exact ⟨0, ZE _, rfl, fun j h => by omega, Z9 _ _⟩
 case round =>
  obtain ⟨k, hk, rfl, ha, hB⟩ := hrel
  by_cases pA : k < cs.length
  ·obtain ⟨g, off, rfl, hg, pB⟩ := HC.out (by omega)
   have c : wr.cell? ⟨g, off + k, none⟩ = some (.string cs[k]) := (hB.cell (p := ⟨g, off + k, none⟩) hg).trans (pB k pA)
   have hn : Hid (q cs[k] = false -> ∀ j, j < k + 1 -> ∀ h : j < cs.length, q cs[j] = false) := fun h1 j hj h => by
    by_cases e : j = k
    ·subst e; exact h1
    ·exact ha j (by omega) h
   have hf : Hid (q cs[k] = true -> cs.any q = true) := fun h1 => Kbp.2 ⟨_, Z4 pA, h1⟩
   have H1 := Z0 (pY.out wr hB cs[k] (Z4 pA))
   clear HC pY pB
   generalize cs[k] = s at c hn hf H1
   cases hd : q s
   all_goals rw [hd] at H1
   all_goals go_wp2_with (go_at_call 84; refine H1.out.mono ?_; rintro e w2 ⟨rfl, pG⟩)
   ·go_roundw
    case rel => exact ⟨k + 1, by omega, by go_num, hn.out hd, Z01 hB hB.size pG⟩
    case measure => simp [intOf]; omega
   ·go_ret
    exact ⟨_, rfl, by rw [hf.out hd]; simp, Z01 hB hB.size pG⟩
  ·have qM : cs.any q = false := by
    rw [Kb4]
    intro x hx
    obtain ⟨j, hj, rfl⟩ := Kau.1 hx
    rw [ha j (by omega) hj]; simp
   have rX := Z0 qM
   clear qM
   go_wp2_with fail
   go_ret
   exact ⟨_, rfl, by rw [rX.out]; rfl, hB⟩
theorem Z58 (cs : List ByteArray) (v : Value) (X : Nat) (q : ByteArray -> Bool) (w : World) (hr : ReadsT w v cs) (hl : cs.length <= 100000) (pK : ∀ W, Below w.1.size w W -> ∀ s ∈ cs, Calls Tryz.prog 84 #[.string s, .pointer (some ⟨X, 0, none⟩)] W fun e w' => e = .returned (.bool (q s)) /\ Below W.1.size W w') :
 Calls Tryz.prog 82 #[v, .func (.func 84) #[] #[.pointer (some ⟨X, 0, none⟩)]] w fun e w' => e = .returned (.bool (cs.any q)) /\ Below w.1.size w w' := by
 have H := Z0 (Ze0 cs v X q w hr hl pK)
 clear hr pK
 go_enter Tryz.func82, Tryz.ntmps82
 go_wp2_with (go_at_call 118; refine H.out.mono ?_; rintro e w' ⟨i, rfl, hi, hb⟩; have HI := Z0 hi; clear hi)
 go_ret
 exact ⟨Z0d HI.out, hb⟩
end
section
open Go.RowKit
structure Grp where
 lvl : Int
 name : ByteArray
 up : Int
 items : List Int
def Zei (x : ByteArray) : List ByteArray -> List ByteArray
 | [] => [x]
 | y :: r => if ltB x y then x :: y :: r else if x = y then y :: r else y :: Zei x r
theorem ZcI {x s : ByteArray} {l : List ByteArray} : s ∈ Zei x l ↔ s = x \/ s ∈ l := by
 induction l with
 | nil => simp [Zei]
 | cons y r ih =>
  unfold Zei
  split
  ·simp
  ·split
   ·rename_i h; subst h; simp
   ·simp only [Kbf, ih]
    constructor
    ·rintro (h | h | h)
     ·exact .inr (.inl h)
     ·exact .inl h
     ·exact .inr (.inr h)
    ·rintro (h | h | h)
     ·exact .inr (.inl h)
     ·exact .inl h
     ·exact .inr (.inr h)
theorem Zb9 {x : ByteArray} {l : List ByteArray} (h : StrictB l) : StrictB (Zei x l) := by
 unfold StrictB at *
 induction l with
 | nil => simp [Zei]
 | cons y r ih =>
  obtain ⟨h1, h2⟩ := Kbu.1 h
  unfold Zei
  split
  ·rename_i rD
   exact Kbu.2 ⟨fun z hz => by
    rcases Kbf.1 hz with rfl | hz
    ·exact rD
    ·exact Z2Y rD (h1 z hz), h⟩
  ·split
   ·exact h
   ·rename_i h3 h4
    refine Kbu.2 ⟨fun z hz => ?_, ih h2⟩
    rcases ZcI.1 hz with rfl | hz
    ·rcases Z7b z y with h5 | h5 | h5
     ·rw [h5] at h3; exact absurd rfl h3
     ·exact absurd h5 h4
     ·exact h5
    ·exact h1 z hz
def Zdo (l : List ByteArray) : List ByteArray := l.foldr Zei []
theorem Z78 {s : ByteArray} {l : List ByteArray} : s ∈ Zdo l ↔ s ∈ l := by
 unfold Zdo
 induction l with
 | nil => simp
 | cons y r ih => rw [List.foldr_cons, ZcI, ih, Kbf]
theorem Z3t (l : List ByteArray) : StrictB (Zdo l) := by
 unfold Zdo
 induction l with
 | nil => exact List.Pairwise.nil
 | cons y r ih => rw [List.foldr_cons]; exact Zb9 ih
def Z1u (l : Lev) (cs : List ByteArray) : List ByteArray := Zdo (cs.map (Z0e l))
def Z0q (l : Lev) (cs : List ByteArray) (k : Nat) (u : ByteArray) : List Int := ((List.range k).filter (fun i => decide (Z0e l (cs.getD i ⟨#[]⟩) = u))).map Int.ofNat
theorem Zaw (l : Lev) (cs : List ByteArray) : Z0q l cs 0 = fun _ => [] := rfl
theorem Zax (l : Lev) (cs : List ByteArray) (k : Nat) (c : ByteArray) (hc : cs.getD k ⟨#[]⟩ = c) : Z0q l cs (k + 1) = fun u => if u = Z0e l c then Z0q l cs k (Z0e l c) ++ [(k : Int)] else Z0q l cs k u := by
 funext u
 unfold Z0q
 rw [Kaq, Kb0, ZD]
 by_cases e : u = Z0e l c
 ·rw [if_pos e]
  subst e
  rw [Kby (by rw [hc]; simp), Kbq]
  rfl
 ·rw [if_neg e]
  have : ¬ Z0e l (cs.getD k ⟨#[]⟩) = u := by rw [hc]; exact fun h => e h.symm
  rw [Kbz (by simpa using this), Kbq, Kbe, Ka1]
theorem Z3b {l : Lev} {cs : List ByteArray} {k : Nat} {u : ByteArray} {x : Int} : x ∈ Z0q l cs k u ↔ ∃ i : Nat, i < k /\ Z0e l (cs.getD i ⟨#[]⟩) = u /\ x = i := by
 unfold Z0q
 simp only [Kae, Kbh, Ka8, Kab]
 constructor
 ·rintro ⟨i, ⟨h1, h2⟩, rfl⟩; exact ⟨i, h1, h2, rfl⟩
 ·rintro ⟨i, h1, h2, rfl⟩; exact ⟨i, ⟨h1, h2⟩, rfl⟩
theorem ZbH (l : Lev) (cs : List ByteArray) (k : Nat) (u : ByteArray) : (Z0q l cs k u).length <= k := by
 unfold Z0q
 rw [Z7]
 have := Kbw (fun i => decide (Z0e l (cs.getD i ⟨#[]⟩) = u)) (List.range k)
 rw [Kay] at this
 exact this
theorem Z3P (l : Lev) (cs : List ByteArray) : Z7J (Z0q l cs cs.length) (Z1u l cs) := by
 refine ⟨Z3t _, fun s => ?_⟩
 unfold Z1u
 rw [Z78, Kae]
 constructor
 ·rintro ⟨c, hc, rfl⟩ he
  obtain ⟨i, hi, rfl⟩ := Kau.1 hc
  have : (i : Int) ∈ Z0q l cs cs.length (Z0e l cs[i]) := Z3b.2 ⟨i, hi, by rw [Z2, Z3 hi]; rfl, rfl⟩
  rw [he] at this
  cases this
 ·intro h
  cases he : Z0q l cs cs.length s with
  | nil => exact absurd he h
  | cons x r =>
   have : x ∈ Z0q l cs cs.length s := by rw [he]; exact Kaf
   obtain ⟨i, hi, h2, _⟩ := Z3b.1 this
   exact ⟨cs[i], Z4 hi, by rw [<- h2, Z2, Z3 hi]; rfl⟩
theorem ZdY {l : Lev} {cs : List ByteArray} {names : List ByteArray} (h : Z7J (Z0q l cs cs.length) names) : names = Z1u l cs :=
 ZeM h.1 (Z3P l cs).1 (fun s => (h.2 s).trans ((Z3P l cs).2 s).symm)
def mkG (i : Nat) (l : Lev) (cs : List ByteArray) (n : ByteArray) : Grp := ⟨i, n, -1, Z0q l cs cs.length n⟩
def idx (u : ByteArray) (l : List ByteArray) : Nat := l.findIdx (fun x => decide (x = u))
def Zdh (l : Lev) (cs : List ByteArray) (start : Nat) (g : Grp) : Grp := { g with up := ((start + idx (Z0e l (cs.getD (g.items.headD 0).toNat ⟨#[]⟩)) (Z1u l cs) : Nat) : Int) }
def ZaE (cs : List ByteArray) (st : List Grp × Nat × Nat) (l : Lev) : List Grp × Nat × Nat :=
 (st.1.take st.2.1 ++ (st.1.drop st.2.1).map (Zdh l cs st.1.length) ++ (Z1u l cs).map (mkG st.2.2 l cs), st.1.length, st.2.2 + 1)
def gTo (ls : List Lev) (cs : List ByteArray) (k : Nat) : List Grp × Nat × Nat := (ls.take k).foldl (ZaE cs) ([], 0, 0)
theorem Z52 (ls : List Lev) (cs : List ByteArray) (k : Nat) (h : k < ls.length) : gTo ls cs (k + 1) = ZaE cs (gTo ls cs k) ls[k] := by
 unfold gTo; rw [Z8 h, Kbs]; rfl
theorem Zjo (ls : List Lev) (cs : List ByteArray) (k : Nat) (h : k <= ls.length) : (gTo ls cs k).2.2 = k := by
 induction k with
 | zero => rfl
 | succ k ih => rw [Z52 ls cs k h]; unfold ZaE; dsimp only; rw [ih (by omega)]
theorem Z7k {l : List ByteArray} (hn : StrictB l) {j : Nat} (h : j < l.length) : idx l[j] l = j := by
 unfold idx
 rw [List.findIdx_eq h]
 refine ⟨by simp, fun i hi => ?_⟩
 have := Kb1.1 hn i j (by omega) h hi
 simpa using Z3C this
theorem Z3m {u : ByteArray} {l : List ByteArray} (h : u ∈ l) : idx u l < l.length := List.findIdx_lt_length_of_exists ⟨u, h, by simp⟩
theorem ZfP {u : ByteArray} {l : List ByteArray} (h : u ∈ l) : l[idx u l]? = some u := by
 have hl := Z3m h
 rw [Z3 hl]
 have := List.findIdx_getElem (xs := l) (p := fun x => decide (x = u)) (w := hl)
 exact Kah some (of_decide_eq_true this)
def gCell (p : Grp × Value) : List Value := [.int .i64 p.1.lvl, .string p.1.name, .int .i64 p.1.up, p.2]
def OwnsG (w : World) (base : Nat) (v : Value) (gs : List Grp) : Prop :=
 ∃ L : List (Grp × Value), L.map Prod.fst = gs /\ (∀ p ∈ L, RowI w p.2 p.1.items) /\ w.ownsRow base 107 4 v L.length (L.flatMap gCell)
theorem OwnsG.nil (w : World) (base : Nat) : OwnsG w base (.slice none 0 0) [] := ⟨[], rfl, by simp, Kbb _ _ _ _⟩
theorem Z3U (L : List (Grp × Value)) (k j : Nat) (h : k < L.length) (hj : j < 4) : (L.flatMap gCell)[k * 4 + j]? = (gCell L[k])[j]? := by
 induction L generalizing k with
 | nil => simp at h
 | cons p r ih =>
  rw [Kao]
  have hl : (gCell p).length = 4 := rfl
  cases k with
  | zero => rw [Kc1, Ka0, Ka6 (by omega)]; rfl
  | succ k =>
   rw [Kaz (by rw [hl]; omega), hl, show (k + 1) * 4 + j - 4 = k * 4 + j by omega]
   exact ih k (by simpa using h)
theorem Ze2 (L : List (Grp × Value)) (k : Nat) (h : k < L.length) (x : Int) : (L.flatMap gCell).set (k * 4 + 2) (.int .i64 x) = (L.set k ({ L[k].1 with up := x }, L[k].2)).flatMap gCell := by
 induction L generalizing k with
 | nil => simp at h
 | cons p r ih =>
  cases k with
  | zero => rfl
  | succ k =>
   have hl : (gCell p).length = 4 := rfl
   rw [Kao, Kc2 _ _ (by rw [hl]; omega), hl, show (k + 1) * 4 + 2 - 4 = k * 4 + 2 by omega, ih k (by simpa using h)]
   rfl
theorem OwnsG.len {w : World} {base : Nat} {v : Value} {gs : List Grp} (h : OwnsG w base v gs) : ∃ a cap, v = .slice a gs.length cap := by
 obtain ⟨L, rfl, _, ho⟩ := h
 rw [Z7]
 rcases Joins.ownsRow_forms ho with ⟨rfl, hp⟩ | ⟨g, cap, rfl⟩
 ·exact ⟨none, 0, by rw [hp]⟩
 ·exact ⟨_, cap, rfl⟩
theorem OwnsG.below {w w' : World} {base : Nat} {v : Value} {gs : List Grp} (h : OwnsG w base v gs) (hb : Below w.1.size w w') : OwnsG w' base v gs := by
 obtain ⟨L, h1, h2, ho⟩ := h
 exact ⟨L, h1, fun p hp => (h2 p hp).below hb, ho.kept (Z0a hb) (Kbm _)⟩
theorem OwnsG.grown {w w' : World} {base C : Nat} {v : Value} {gs : List Grp} (h : OwnsG w base v gs) (hg : w.grownBy w' (some C)) (hC : ∀ cur T fr, w.1[C]? ≠ some (.cells cur T fr)) : OwnsG w' base v gs := by
 obtain ⟨L, h1, h2, ho⟩ := h
 refine ⟨L, h1, fun p hp => (h2 p hp).grown hg (fun g e cur fr => by cases e; exact hC cur _ fr), ho.kept hg (.inr (fun e => ?_))⟩
 obtain ⟨_, hv | ⟨g, cap, cur, rfl, _, hh, _⟩⟩ := ho
 ·rw [hv.1] at e; cases e
 ·cases e; exact hC _ _ _ hh
theorem Z7Q {α : Type} {E : TypeId} {enc : α -> Lit} {w : World} {B n : Nat} {f : ByteArray -> Option α} (h : OwnsF E enc w B n f) : ∀ cur T fr, w.1[B]? ≠ some (.cells cur T fr) := by
 obtain ⟨D, ⟨es, clock, hb, _⟩, _⟩ := h
 intro cur T fr e
 rw [hb] at e; cases e
end
section
open Go.RowKit
theorem Tryz.infoG : (Tryz.prog.info? 107).map (fun i => (i.zero, i.size, i.bytes)) = some (some (.agg #[.int .i64 0, .string ⟨#[]⟩, .int .i64 0, .slice none 0 0]), 4, 56) := by kernel_rfl
theorem Tryz.infoI : (Tryz.prog.info? 3).map (fun i => (i.zero, i.size, i.bytes)) = some (some (.int .i64 0), 1, 8) := by kernel_rfl
theorem Z0f (W : World) (cs : List Value) (T : TypeId) : ∀ j u, cs[j]? = some u -> (W.alloc (.cells cs.toArray T)).cell? ((⟨W.1.size, 0, none⟩ : Addr).add j) = some u := fun j u h => by
 have vA : (⟨W.1.size, 0, none⟩ : Addr).add j = ⟨W.1.size, j, none⟩ := by unfold Addr.add; split <;> simp_all
 rw [vA, Kaa _ W.1.size j _ _ _ (Z02 W _)]
 simpa using h
theorem ZhT (x : ByteArray) (l : List ByteArray) : (Zei x l).length <= l.length + 1 := by
 induction l with
 | nil => simp [Zei]
 | cons y r ih =>
  unfold Zei
  split
  ·simp
  ·split
   ·simp
   ·simp; exact ih
theorem Zfy (l : Lev) (cs : List ByteArray) : (Z1u l cs).length <= cs.length := by
 unfold Z1u Zdo
 induction cs with
 | nil => simp
 | cons c r ih => rw [Kan, List.foldr_cons]; have := ZhT (Z0e l c) (List.foldr Zei [] (r.map (Z0e l))); simp only [Ka9]; omega
theorem ZfZ (cs : List ByteArray) (st : List Grp × Nat × Nat) (l : Lev) : (ZaE cs st l).1.length = st.1.length + (Z1u l cs).length := by
 unfold ZaE
 simp
 omega
theorem ZbR (ls : List Lev) (cs : List ByteArray) (k : Nat) (h : k <= ls.length) : (gTo ls cs k).1.length <= k * cs.length /\ (gTo ls cs k).2.1 <= (gTo ls cs k).1.length := by
 induction k with
 | zero => exact ⟨ZE _, Z1 _⟩
 | succ k ih =>
  rw [Z52 ls cs k h, ZfZ]
  have := Zfy ls[k] cs
  have := ih (by omega)
  refine ⟨by rw [Kcq]; omega, ?_⟩
  show (gTo ls cs k).1.length <= _
  omega
theorem ZfX (ls : List Lev) (cs : List ByteArray) (k : Nat) (h : k <= ls.length) : ∀ g ∈ (gTo ls cs k).1, g.items ≠ [] /\ ∀ x ∈ g.items, ∃ i : Nat, x = i /\ i < cs.length := by
 induction k with
 | zero => intro g hg; cases hg
 | succ k ih =>
  rw [Z52 ls cs k h]
  intro g hg
  unfold ZaE at hg
  simp only [Kbc, ZG, Kae] at hg
  rcases hg with hg | ⟨g', hg, rfl⟩ | ⟨n, hn, rfl⟩
  ·exact ih (by omega) g (Kcg hg)
  ·exact ih (by omega) g' (List.mem_of_mem_drop hg)
  ·exact ⟨((Z3P ls[k] cs).2 n).1 hn, fun x hx => by
    obtain ⟨i, h1, _, h2⟩ := Z3b.1 hx
    exact ⟨i, h2, h1⟩⟩
theorem Z14 {w w' : World} {row : Option Nat} {b : Nat} {o : Obj} (hg : w.grownBy w' row) (h : w.1[b]? = some o) (pE : ∀ g, row = some g -> w.1[g]? ≠ some o) : w'.1[b]? = some o :=
 (hg.block b (Z5.1 h).1 (fun e => pE b e.symm h)).trans h
def Z6c (l : Lev) (sv : Value) : Obj := .cells #[.string l.name, .int .i64 l.pre, sv, .int .i64 l.min, .int .i64 l.cents] 63 (0, 0)
theorem Zgw {w : World} {X : Nat} {l : Lev} {sv : Value} (h : w.1[X]? = some (Z6c l sv)) : BoxLev w X l sv :=
 ⟨Kaa w X 0 _ _ _ h, Kaa w X 1 _ _ _ h, Kaa w X 2 _ _ _ h, Kaa w X 3 _ _ _ h, Kaa w X 4 _ _ _ h⟩
def R2 (wr : World) (l : Lev) (sv : Value) (cs : List ByteArray) (j : Nat) (w2 : World) : Prop :=
 Below wr.1.size wr w2 /\ w2.1[wr.1.size]? = some (Z6c l sv) /\ GrpsF w2 (wr.1.size + 2) (wr.1.size + 1) j (Z0q l cs j)
theorem Zip (wr : World) (l : Lev) (sv : Value) (cs : List ByteArray) : R2 wr l sv cs 0 ((wr.alloc (Z6c l sv)).alloc (.map #[] 0)) := by
 have e : (wr.alloc (Z6c l sv)).1.size = wr.1.size + 1 := by simp
 refine ⟨((Z9 _ wr).alloc (Z1 _) _).alloc (by simp) _, ?_, ?_⟩
 ·have h1 : (wr.alloc (Z6c l sv)).1[wr.1.size]? = some (Z6c l sv) := Z02 _ _
  exact (((Z9 _ (wr.alloc (Z6c l sv))).alloc (Z1 _) _).block wr.1.size (by simp)).trans h1
 ·have := GrpsF.made (wr.alloc (Z6c l sv))
  rw [e] at this
  rw [Zaw]
  exact this
theorem ZjS {wr w2 w3 w4 w5 : World} {l : Lev} {sv : Value} {cs : List ByteArray} {j : Nat} {c : ByteArray} {v : Value} (hj : cs.getD j ⟨#[]⟩ = c) (h : R2 wr l sv cs j w2) (pC : Below w2.1.size w2 w3) (pX : w3.ownsInts (wr.1.size + 2) 3 .i64 v (Z0q l cs j (Z0e l c)))
 (pZ : w3.grownBy w4 v.ownBlock) (pT : w4.grownBy w5 (some (wr.1.size + 1))) (ho : GrpsF w5 (wr.1.size + 2) (wr.1.size + 1) (j + 1) (fun u => if u = Z0e l c then Z0q l cs j (Z0e l c) ++ [(j : Int)] else Z0q l cs j u)) : R2 wr l sv cs (j + 1) w5 := by
 obtain ⟨h1, h2, h3⟩ := h
 have h3' := h3.lt
 have wR : wr.1.size <= w2.1.size := h1.size
 have a3 : Below wr.1.size wr w3 := Z01 h1 h1.size pC
 have pA : ∀ r, v.ownBlock = some r -> wr.1.size + 2 <= r := fun r e => (pX.1.lt r e).1
 have a4 : Below wr.1.size wr w4 := a3.grown pZ a3.size (fun r e => by have := pA r e; omega)
 have a5 : Below wr.1.size wr w5 := Z1h a4 pT a4.size (by omega)
 refine ⟨a5, ?_, by rw [Zax l cs j c hj]; exact ho⟩
 have b3 : w3.1[wr.1.size]? = some (Z6c l sv) := (pC.block wr.1.size (Z5.1 h2).1).trans h2
 have b4 : w4.1[wr.1.size]? = some (Z6c l sv) := (pZ.block wr.1.size (Z5.1 b3).1 (fun e => by have := pA _ e.symm; omega)).trans b3
 exact (pT.block wr.1.size (Z5.1 b4).1 (fun e => by injection e with e; omega)).trans b4
open Classical in
noncomputable def atF (n : Nat) (names : List ByteArray) (j : Nat) (u : ByteArray) : Option Int := if u ∈ names.take j then some ((n + idx u names : Nat) : Int) else none
abbrev OwnsSI := OwnsF 3 (Lit.int .i64)
def R3 (w W2 : World) (X B2 : Nat) (k : Nat) (l : Lev) (sv : Value) (cs names : List ByteArray) (gs : List Grp) (vn : Value) (j : Nat) (v : Value) (w3 : World) : Prop :=
 Below w.1.size w w3 /\ w3.1[X]? = some (Z6c l sv) /\ w3.1[X + 1]? = W2.1[X + 1]? /\ (∃ es cl, W2.1[X + 1]? = some (.map es cl)) /\
 (∀ s ∈ names, ∃ u, (∀ W : World, W.1[X + 1]? = W2.1[X + 1]? -> (Instr.lookup 178 (.map (some (X + 1))) (.string s) false).run Tryz.prog W = .ok u W) /\ RowI w3 u (Z0q l cs cs.length s)) /\
 OwnsT w3 0 vn names /\ OwnsG w3 w.1.size v (gs ++ (names.take j).map (mkG k l cs)) /\ OwnsSI w3 B2 j (atF gs.length names j) /\ w.1.size <= B2 /\ X + 1 ≠ B2
theorem Zif {n : Nat} {names : List ByteArray} {j : Nat} (hs : StrictB names) (hj : j < names.length) : (fun u => if u = names[j] then some ((n + j : Nat) : Int) else atF n names j u) = atF n names (j + 1) := by
 funext u
 unfold atF
 rw [Z8 hj]
 by_cases e : u = names[j]
 ·rw [if_pos e, if_pos (by rw [e]; exact Kck _ (ZI.2 rfl)), e, Z7k hs hj]
 ·rw [if_neg e]
  by_cases e2 : u ∈ names.take j
  ·rw [if_pos e2, if_pos (Kcn _ e2)]
  ·rw [if_neg e2, if_neg (fun h => by rcases ZG.1 h with h | h; exact e2 h; exact e (ZI.1 h))]
theorem OwnsT.grown {w w' : World} {base C : Nat} {v : Value} {l : List ByteArray} (h : OwnsT w base v l) (hg : w.grownBy w' (some C)) (hC : ∀ cur fr, w.1[C]? ≠ some (.cells cur 9 fr)) : OwnsT w' base v l := by
 refine h.kept hg (.inr (fun e => ?_))
 obtain ⟨_, hv | ⟨g, cap, cur, rfl, _, hh, _⟩⟩ := h
 ·rw [hv.1] at e; cases e
 ·cases e; exact hC _ _ hh
theorem Zin {w W2 w3 w4 : World} {X B2 k : Nat} {l : Lev} {sv : Value} {cs names : List ByteArray} {gs : List Grp} {vn v : Value} {j : Nat} (h : R3 w W2 X B2 k l sv cs names gs vn j v w3) (hj : j < names.length) (hs : StrictB names) (hg : w3.grownBy w4 (some B2))
 (ho : OwnsSI w4 B2 (j + 1) (fun u => if u = names[j] then some ((gs.length + j : Nat) : Int) else atF gs.length names j u)) :
 Below w.1.size w w4 /\ w4.1[X]? = some (Z6c l sv) /\ w4.1[X + 1]? = W2.1[X + 1]? /\ (∀ s ∈ names, ∃ u, (∀ W : World, W.1[X + 1]? = W2.1[X + 1]? -> (Instr.lookup 178 (.map (some (X + 1))) (.string s) false).run Tryz.prog W = .ok u W) /\ RowI w4 u (Z0q l cs cs.length s)) /\
 OwnsT w4 0 vn names /\ OwnsG w4 w.1.size v (gs ++ (names.take j).map (mkG k l cs)) /\ OwnsSI w4 B2 (j + 1) (atF gs.length names (j + 1)) := by
 obtain ⟨h1, h2, h3, ⟨es, cl, hm⟩, h4, h5, h6, h7, h8, h9⟩ := h
 have hC := Z7Q h7
 refine ⟨Z1h h1 hg h1.size h8, Z14 hg h2 (fun g e => by cases e; exact hC _ _ _), ?_, fun s hs => ?_, h5.grown hg (fun cur fr => hC cur _ fr), h6.grown hg hC, by rw [<- Zif hs hj]; exact ho⟩
 ·rw [<- h3]
  have hx := h3.trans hm
  exact hg.block _ (Z5.1 hx).1 (fun e => h9 (by injection e))
 ·obtain ⟨u, hu, hr⟩ := h4 s hs
  exact ⟨u, hu, hr.grown hg (fun g e cur fr => by cases e; exact hC _ _ _)⟩
theorem Z0t {w : World} {base : Nat} {e : TypeId} {size : Nat} {v : Value} {n : Nat} {xs : List Value} (h : w.ownsRow base e size v n xs) {T : TypeId} (hT : T ≠ e) : ∀ g, v.ownBlock = some g -> ∀ cur fr, w.1[g]? ≠ some (.cells cur T fr) := by
 intro g hg cur fr e'
 obtain ⟨_, hv | ⟨g', cap, cur', rfl, _, hh, _⟩⟩ := h
 ·rw [hv.1] at hg; cases hg
 ·cases hg
  rw [hh] at e'
  injection e' with e'
  injection e' with _ e' _
  exact hT e'.symm
theorem Z6Z {w : World} {base : Nat} {e : TypeId} {size : Nat} {v : Value} {n : Nat} {xs : List Value} (h : w.ownsRow base e size v n xs) : ∀ g, v.ownBlock = some g -> ∀ es cl, w.1[g]? ≠ some (.map es cl) := by
 intro g hg cur fr e'
 obtain ⟨_, hv | ⟨g', cap, cur', rfl, _, hh, _⟩⟩ := h
 ·rw [hv.1] at hg; cases hg
 ·cases hg
  rw [hh] at e'
  cases e'
theorem ZjQ {w W2 w4 w5 : World} {X B2 k : Nat} {l : Lev} {sv : Value} {cs names : List ByteArray} {gs : List Grp} {vn v v' su : Value} {j : Nat} {L : List (Grp × Value)} (hj : j < names.length) (hm : ∃ es cl, W2.1[X + 1]? = some (.map es cl))
 (h1 : Below w.1.size w w4) (h2 : w4.1[X]? = some (Z6c l sv)) (h3 : w4.1[X + 1]? = W2.1[X + 1]?) (h4 : ∀ s ∈ names, ∃ u, (∀ W : World, W.1[X + 1]? = W2.1[X + 1]? -> (Instr.lookup 178 (.map (some (X + 1))) (.string s) false).run Tryz.prog W = .ok u W) /\ RowI w4 u (Z0q l cs cs.length s))
 (h5 : OwnsT w4 0 vn names) (h7 : OwnsSI w4 B2 (j + 1) (atF gs.length names (j + 1))) (h8 : w.1.size <= B2) (h9 : X + 1 ≠ B2)
 (hL : L.map Prod.fst = gs ++ (names.take j).map (mkG k l cs)) (hLr : ∀ p ∈ L, RowI w4 p.2 p.1.items) (hLo : w4.ownsRow w.1.size 107 4 v L.length (L.flatMap gCell)) (qN : RowI w4 su (Z0q l cs cs.length names[j]))
 {o : Obj} (hg : (w4.alloc o).grownBy w5 v.ownBlock) (ho : w5.ownsRow w.1.size 107 4 v' (L.length + 1) (L.flatMap gCell ++ gCell (mkG k l cs names[j], su))) : R3 w W2 X B2 k l sv cs names gs vn (j + 1) v' w5 := by
 have rY : Below w4.1.size w4 (w4.alloc o) := (Z9 _ w4).alloc (Z1 _) o
 have rH := hLo.alloc o
 have nI := Z0t rH (T := 3) (by decide)
 have nS := Z0t rH (T := 9) (by decide)
 have nL := Z0t rH (T := 63) (by decide)
 have nM := Z6Z rH
 have a1 : (w4.alloc o).1[X]? = some (Z6c l sv) := (rY.block X (Z5.1 h2).1).trans h2
 obtain ⟨es, cl, hm⟩ := hm
 have x1 := h3.trans hm
 have a2 : (w4.alloc o).1[X + 1]? = some (.map es cl) := (rY.block (X + 1) (Z5.1 x1).1).trans x1
 have h7' := h7.alloc o
 have kR : ∀ {u : Value} {zs : List Int}, RowI w4 u zs -> RowI w5 u zs := fun hr => (hr.below rY).grown hg (fun g e cur fr => nI g e cur fr)
 refine ⟨?_, Z14 hg a1 (fun g e => nL g e _ _), ?_, ⟨es, cl, hm⟩, fun s hs => ?_, ?_, ⟨L ++ [(mkG k l cs names[j], su)], ?_, ?_, ?_⟩, ?_, h8, h9⟩
 ·exact (h1.alloc h1.size o).grown hg (by have := h1.size; simp; omega) (fun r e => (hLo.lt r e).1)
 ·rw [hm]; exact Z14 hg a2 (fun g e => nM g e _ _)
 ·obtain ⟨u, hu, hr⟩ := h4 s hs
  exact ⟨u, hu, kR hr⟩
 ·have := h5.alloc o
  cases hv : v.ownBlock with
  | none => rw [hv] at hg; exact this.kept hg (Kbm _)
  | some g => rw [hv] at hg; exact OwnsT.grown this hg (fun cur fr => nS g hv cur fr)
 ·rw [ZD, hL, Z8 hj, ZD]; simp
 ·intro p hp
  rcases ZG.1 hp with hp | hp
  ·exact kR (hLr p hp)
  ·rw [ZI.1 hp]; exact kR qN
 ·rw [Kai, ZC]; simpa using ho
 ·refine h7'.kept hg (fun e => ?_)
  obtain ⟨D, ⟨es', cl', hb, _⟩, _⟩ := h7'
  exact nM B2 e.symm _ _ hb
def upd (gs : List Grp) (b j : Nat) (f : Grp -> Grp) : List Grp := gs.mapIdx (fun i g => if b <= i /\ i < j then f g else g)
theorem Z5d (gs : List Grp) (b j : Nat) (f : Grp -> Grp) : (upd gs b j f).length = gs.length := by unfold upd; simp
theorem Zeo (gs : List Grp) (b : Nat) (f : Grp -> Grp) : upd gs b b f = gs := by
 apply List.ext_getElem?
 intro i
 unfold upd
 rw [Kco]
 cases gs[i]? with
 | none => rfl
 | some g => simp; intro h1 h2; omega
theorem Zep (gs : List Grp) (b j : Nat) (f : Grp -> Grp) (hj : j < gs.length) : (upd gs b j f)[j]? = some gs[j] := by
 unfold upd
 rw [Kco, Z3 hj]
 simp
theorem ZgR (gs : List Grp) (b j : Nat) (f : Grp -> Grp) (hj : j < gs.length) (hb : b <= j) : (upd gs b j f).set j (f gs[j]) = upd gs b (j + 1) f := by
 apply List.ext_getElem?
 intro i
 rw [List.getElem?_set]
 by_cases e : j = i
 ·subst e
  rw [if_pos rfl, if_pos (by rw [Z5d]; exact hj)]
  unfold upd
  rw [Kco, Z3 hj]
  simp
  omega
 ·rw [if_neg e]
  unfold upd
  rw [Kco, Kco]
  cases gs[i]? with
  | none => rfl
  | some g =>
   have : (b <= i /\ i < j) ↔ (b <= i /\ i < j + 1) := by omega
   simp [this]
theorem ZiP (gs : List Grp) (b : Nat) (f : Grp -> Grp) (hb : b <= gs.length) : upd gs b gs.length f = gs.take b ++ (gs.drop b).map f := by
 apply List.ext_getElem?
 intro i
 unfold upd
 rw [Kco]
 by_cases hi : i < b
 ·rw [Ka6 (by simp; omega), Kcd hi, Z3 (by omega)]
  simp
  omega
 ·rw [Kaz (by simp; omega), Kal, List.getElem?_drop]
  have e : b + (i - (gs.take b).length) = i := by simp; omega
  rw [e]
  cases hg : gs[i]? with
  | none => rfl
  | some g =>
   have : i < gs.length := (Kam.1 hg).1
   simp
   omega
def R4 (w : World) (X B2 k : Nat) (l : Lev) (sv : Value) (cs names : List ByteArray) (gs : List Grp) (b j : Nat) (v : Value) (w4 : World) : Prop :=
 Below w.1.size w w4 /\ w4.1[X]? = some (Z6c l sv) /\ OwnsG w4 w.1.size v (upd gs b j (Zdh l cs gs.length) ++ names.map (mkG k l cs)) /\ OwnsSI w4 B2 names.length (atF gs.length names names.length)
theorem Zil {w W2 w3 : World} {X B2 k : Nat} {l : Lev} {sv : Value} {cs names : List ByteArray} {gs : List Grp} {vn v : Value} {b j : Nat} (h : R3 w W2 X B2 k l sv cs names gs vn j v w3) (hj : j = names.length) : R4 w X B2 k l sv cs names gs b b v w3 := by
 obtain ⟨h1, h2, h3, hm, h4, h5, h6, h7, h8, h9⟩ := h
 subst hj
 rw [Kas (Z1 _)] at h6
 exact ⟨h1, h2, by rw [Zeo]; exact h6, h7⟩
theorem OwnsG.slot {w : World} {base g cap n j : Nat} {GS : List Grp} (h : OwnsG w base (.slice (some ⟨g, 0, none⟩) n cap) GS) (hj : j < GS.length) :
 ∃ su, w.cell? ⟨g, j * 4, none⟩ = some (.int .i64 GS[j].lvl) /\ w.cell? ⟨g, j * 4 + 1, none⟩ = some (.string GS[j].name) /\ w.cell? ⟨g, j * 4 + 2, none⟩ = some (.int .i64 GS[j].up) /\ w.cell? ⟨g, j * 4 + 3, none⟩ = some su /\ RowI w su GS[j].items /\ (∀ o, w.frozen? ⟨g, o, none⟩ = false) /\ base <= g /\ g < w.1.size /\ n = GS.length /\
  ∀ x, OwnsG (w.setCell ⟨g, j * 4 + 2, none⟩ (.int .i64 x)) base (.slice (some ⟨g, 0, none⟩) n cap) (GS.set j { GS[j] with up := x }) /\ w.grownBy (w.setCell ⟨g, j * 4 + 2, none⟩ (.int .i64 x)) (some g) /\ ∀ T, T ≠ 107 -> ∀ cur fr, w.1[g]? ≠ some (.cells cur T fr) := by
 obtain ⟨L, rfl, hr, ho⟩ := h
 rw [Z7] at hj
 have hn : n = L.length := by
  obtain ⟨_, hv | ⟨g', cap', cur, hv, _⟩⟩ := ho
  ·cases hv.1
  ·injection hv
 subst hn
 have pA := ho.lt g rfl
 refine ⟨L[j].2, ?_, ?_, ?_, ?_, by simpa using hr _ (Z4 hj), fun o => ho.frozenAt o, pA.1, pA.2, by simp, fun x => ?_⟩
 ·rw [ho.cellAt _ (by omega), show j * 4 = j * 4 + 0 from rfl, Z3U L j 0 hj (by omega)]; simp [gCell]
 ·rw [ho.cellAt _ (by omega), Z3U L j 1 hj (by omega)]; simp [gCell]
 ·rw [ho.cellAt _ (by omega), Z3U L j 2 hj (by omega)]; simp [gCell]
 ·rw [ho.cellAt _ (by omega), Z3U L j 3 hj (by omega)]; simp [gCell]
 ·obtain ⟨s1, s2⟩ := ho.stored (j * 4 + 2) (.int .i64 x)
  have nI := Z0t ho (T := 3) (by decide) g rfl
  refine ⟨⟨L.set j ({ L[j].1 with up := x }, L[j].2), ?_, ?_, ?_⟩, s2, fun T hT => Z0t ho hT g rfl⟩
  ·rw [List.map_set]; simp
  ·intro p hp
   have key : ∀ {u : Value} {zs : List Int}, RowI w u zs -> RowI (w.setCell ⟨g, j * 4 + 2, none⟩ (.int .i64 x)) u zs := fun vB => vB.grown s2 (fun g' e cur fr => by cases e; exact nI cur fr)
   rcases List.mem_or_eq_of_mem_set hp with hp | rfl
   ·exact key (hr p hp)
   ·exact key (hr L[j] (Z4 hj))
  ·rw [<- Ze2 L j hj x, Kb8]; exact s1
theorem ZjO {w w4 w5 : World} {X B2 k : Nat} {l : Lev} {sv : Value} {cs names : List ByteArray} {gs : List Grp} {b j g n cap : Nat} (rI : Below w.1.size w w5) (hX : w5.1[X]? = some (Z6c l sv)) (hG : OwnsG w5 w.1.size (.slice (some ⟨g, 0, none⟩) n cap) (upd gs b j (Zdh l cs gs.length) ++ names.map (mkG k l cs)))
 (hA : OwnsSI w5 B2 names.length (atF gs.length names names.length)) (hj : j < gs.length) (rZ : b <= j) {x : Int} (hx : { gs[j] with up := x } = Zdh l cs gs.length gs[j]) : R4 w X B2 k l sv cs names gs b (j + 1) (.slice (some ⟨g, 0, none⟩) n cap) (w5.setCell ⟨g, j * 4 + 2, none⟩ (.int .i64 x)) := by
 have pO : j < (upd gs b j (Zdh l cs gs.length) ++ names.map (mkG k l cs)).length := by rw [ZC, Z5d]; omega
 obtain ⟨su, c0, c1, c2, c3, hr, sY, sZ, tA, hn, pH⟩ := hG.slot pO
 obtain ⟨s1, s2, s3⟩ := pH x
 have sA : (upd gs b j (Zdh l cs gs.length) ++ names.map (mkG k l cs))[j] = gs[j] := by
  have e := Zep gs b j (Zdh l cs gs.length) hj
  rw [Kbl (by rw [Z5d]; exact hj)]
  exact (Kam.1 e).2
 refine ⟨Z1h rI s2 rI.size sZ, Z14 s2 hX (fun g' e => by cases e; exact s3 _ (by decide) _ _), ?_, hA.kept s2 (fun e => ?_)⟩
 ·rw [sA, hx, List.set_append_left _ _ (by rw [Z5d]; exact hj), ZgR gs b j _ hj rZ] at s1
  exact s1
 ·obtain ⟨D, ⟨es', cl', hb, _⟩, _⟩ := hA
  injection e with e
  subst e
  obtain ⟨L, _, _, ho⟩ := hG
  exact Z6Z ho B2 rfl _ _ hb
theorem ZfC {l : Lev} {cs : List ByteArray} {i : Nat} (h : i < cs.length) : Z0e l cs[i] ∈ Z1u l cs := by
 unfold Z1u; rw [Z78]; exact Kae.2 ⟨_, Z4 h, rfl⟩
theorem OwnsT.zero {w : World} {base : Nat} {v : Value} {l : List ByteArray} (h : OwnsT w base v l) : OwnsT w 0 v l := by
 obtain ⟨h1, h2 | ⟨g, cap, cur, hv, hb, r⟩⟩ := h
 ·exact ⟨h1, .inl h2⟩
 ·exact ⟨h1, .inr ⟨g, cap, cur, hv, ZE _, r⟩⟩
theorem Zio {w wo W2 w3 : World} {k : Nat} {l : Lev} {sv : Value} {cs names : List ByteArray} {gs : List Grp} {vn v : Value} {base : Nat} (hB : Below w.1.size w wo) (hG : OwnsG wo w.1.size v gs) (h2 : R2 wo l sv cs cs.length W2) (pC : Below (W2.alloc (.map #[] 0)).1.size (W2.alloc (.map #[] 0)) w3)
 (hk : Z7J (Z0q l cs cs.length) names) (qE : ∀ s ∈ names, s.size <= maxLen) (qO : OwnsT w3 base vn names) : R3 w W2 wo.1.size W2.1.size k l sv cs names gs vn 0 v w3 := by
 obtain ⟨q1, q2, q3⟩ := h2
 have b3 : Below W2.1.size W2 w3 := Z0l (Z9 _ W2) (Z1 _) pC
 have hw := hB.size
 have hq := q1.size
 have pA := q3.lt
 have bo : Below wo.1.size wo w3 := q1.trans (b3.mono hq)
 refine ⟨hB.trans (bo.mono hw), (b3.block _ (Z5.1 q2).1).trans q2, b3.block _ pA.1, ?_, fun s hs => ?_, qO.zero, ?_, ?_, by omega, by omega⟩
 ·obtain ⟨D, ⟨es, cl, hb, _⟩, _⟩ := q3
  exact ⟨es, cl, hb⟩
 ·obtain ⟨u, hu, pM⟩ := q3.read s (qE s hs)
  exact ⟨u, hu, (pM ((hk.2 s).1 hs)).below b3⟩
 ·rw [Kb5, Kbe, Ka1]
  exact hG.below bo
 ·have := (OwnsF.made (E := 3) (enc := Lit.int .i64) W2).below pC
  have e : (fun _ : ByteArray => (none : Option Int)) = atF gs.length names 0 := by funext u; unfold atF; rw [if_neg (by simp)]
  rw [e] at this
  exact this
def R3M (w W2 : World) (X B2 : Nat) (k : Nat) (l : Lev) (sv : Value) (cs names : List ByteArray) (gs : List Grp) (vn : Value) (j : Nat) (v : Value) (w4 : World) : Prop :=
 Below w.1.size w w4 /\ w4.1[X]? = some (Z6c l sv) /\ w4.1[X + 1]? = W2.1[X + 1]? /\ (∀ s ∈ names, ∃ u, (∀ W : World, W.1[X + 1]? = W2.1[X + 1]? -> (Instr.lookup 178 (.map (some (X + 1))) (.string s) false).run Tryz.prog W = .ok u W) /\ RowI w4 u (Z0q l cs cs.length s)) /\
  OwnsT w4 0 vn names /\ OwnsSI w4 B2 (j + 1) (atF gs.length names (j + 1)) /\ w.1.size <= B2 /\ X + 1 ≠ B2 /\ ∃ es cl, W2.1[X + 1]? = some (.map es cl)
theorem Zku {w W2 w3 w4 : World} {X B2 k : Nat} {l : Lev} {sv : Value} {cs names : List ByteArray} {gs : List Grp} {vn v : Value} {j : Nat} {nm : ByteArray} (h : R3 w W2 X B2 k l sv cs names gs vn j v w3) (hj : j < names.length) (pN : names[j] = nm) (hs : StrictB names) (hg : w3.grownBy w4 (some B2)) {y : Int} (hy : y = ((gs.length + j : Nat) : Int))
 (ho : OwnsSI w4 B2 (j + 1) (fun u => if u = nm then some y else atF gs.length names j u)) :
 ∃ gi ci, (Instr.lookup 178 (.map (some (X + 1))) (.string nm) false).run Tryz.prog w4 = .ok (.slice (some ⟨gi, 0, none⟩) (Z0q l cs cs.length nm).length ci) w4 /\ RowI w4 (.slice (some ⟨gi, 0, none⟩) (Z0q l cs cs.length nm).length ci) (Z0q l cs cs.length nm) /\ R3M w W2 X B2 k l sv cs names gs vn j v w4 /\
  ∃ L : List (Grp × Value), L.map Prod.fst = gs ++ (names.take j).map (mkG k l cs) /\ (∀ p ∈ L, RowI w4 p.2 p.1.items) /\ L.length = gs.length + j /\ w4.ownsRow w.1.size 107 4 v (gs.length + j) (L.flatMap gCell) := by
 subst pN hy
 obtain ⟨s1, s2, s3, s4, s5, s6, s7⟩ := Zin h hj hs hg ho
 obtain ⟨h1, h2, h3, hm, h4, h5, h6, h7, h8, h9⟩ := h
 obtain ⟨su, qN, pM⟩ := s4 names[j] (Z4 hj)
 have vC := pM
 obtain ⟨gi, ci, cur, rfl, _, _⟩ := vC
 obtain ⟨L, hL, hLr, hLo⟩ := s6
 have pR : L.length = gs.length + j := by
  rw [<- Z7 (f := Prod.fst), hL]; simp; omega
 exact ⟨gi, ci, qN _ s3, pM, ⟨s1, s2, s3, s4, s5, s7, h8, h9, hm⟩, L, hL, hLr, pR, by rw [<- pR]; exact hLo⟩
theorem ZjR {w W2 w4 w5 : World} {X B2 k : Nat} {l : Lev} {sv : Value} {cs names : List ByteArray} {gs : List Grp} {vn v v' su : Value} {j : Nat} {nm : ByteArray} {L : List (Grp × Value)} (hj : j < names.length) (pN : names[j] = nm) (hM : R3M w W2 X B2 k l sv cs names gs vn j v w4)
 (hL : L.map Prod.fst = gs ++ (names.take j).map (mkG k l cs)) (hLr : ∀ p ∈ L, RowI w4 p.2 p.1.items) (pR : L.length = gs.length + j) (hLo : w4.ownsRow w.1.size 107 4 v (gs.length + j) (L.flatMap gCell)) (qN : RowI w4 su (Z0q l cs cs.length nm))
 {o : Obj} (hg : (w4.alloc o).grownBy w5 v.ownBlock) (ho : w5.ownsRow w.1.size 107 4 v' (gs.length + j + 1) (L.flatMap gCell ++ gCell (mkG k l cs nm, su))) : R3 w W2 X B2 k l sv cs names gs vn (j + 1) v' w5 := by
 subst pN
 obtain ⟨s1, s2, s3, s4, s5, s7, h8, h9, hm⟩ := hM
 rw [<- pR] at hLo ho
 exact ZjQ hj hm s1 s2 s3 s4 s5 s7 h8 h9 hL hLr hLo qN hg ho
theorem ZfS {l : List Int} (h : 0 < l.length) : l.headD 0 = l[0] := by
 cases l with
 | nil => simp at h
 | cons x r => rfl
theorem ZjN {w w4 : World} {X B2 k : Nat} {l : Lev} {sv : Value} {cs names : List ByteArray} {gs : List Grp} {b j : Nat} {v : Value} (h : R4 w X B2 k l sv cs names gs b j v w4) (hj : j < gs.length) (hit : gs[j].items ≠ [] /\ ∀ x ∈ gs[j].items, ∃ i : Nat, x = i /\ i < cs.length) :
 ∃ g cap gi ci i n up, v = .slice (some ⟨g, 0, none⟩) (gs.length + names.length) cap /\ i < cs.length /\ (gs[j].items.headD 0).toNat = i /\ 0 < n /\ n <= cs.length + gs[j].items.length /\ w4.cell? ⟨g, j * 4 + 3, none⟩ = some (.slice (some ⟨gi, 0, none⟩) n ci) /\ w4.cell? ⟨gi, 0, none⟩ = some (.int .i64 ((i : Nat) : Int)) /\
  w4.cell? ⟨g, j * 4 + 2, none⟩ = some (.int .i64 up) /\ w4.frozen? ⟨g, j * 4 + 2, none⟩ = false /\ g < w4.1.size /\ gi < w4.1.size := by
 obtain ⟨h1, h2, h3, h4⟩ := h
 have pR : (upd gs b j (Zdh l cs gs.length) ++ names.map (mkG k l cs)).length = gs.length + names.length := by rw [ZC, Z5d, Z7]
 have vD : ∃ g cap, v = .slice (some ⟨g, 0, none⟩) (gs.length + names.length) cap := by
  obtain ⟨L, hL, _, ho⟩ := h3
  have rJ : L.length = gs.length + names.length := by rw [<- Z7 (f := Prod.fst), hL, pR]
  rw [rJ] at ho
  exact Joins.ownsRow_form ho (by omega)
 obtain ⟨g, cap, rfl⟩ := vD
 have pO : j < (upd gs b j (Zdh l cs gs.length) ++ names.map (mkG k l cs)).length := by rw [pR]; omega
 obtain ⟨su, c0, c1, c2, c3, hr, sY, sZ, tA, hn, pH⟩ := h3.slot pO
 have sA : (upd gs b j (Zdh l cs gs.length) ++ names.map (mkG k l cs))[j] = gs[j] := by
  have e := Zep gs b j (Zdh l cs gs.length) hj
  rw [Kbl (by rw [Z5d]; exact hj)]
  exact (Kam.1 e).2
 rw [sA] at hr c2
 have hr' := hr
 obtain ⟨gi, ci, cur, rfl, hh, _⟩ := hr'
 obtain ⟨pE, rK⟩ := hit
 have rL : 0 < gs[j].items.length := Kcr.2 pE
 have qP := hr.cell rL
 obtain ⟨i, hi, qG⟩ := rK _ (Z4 rL)
 have qH : gs[j].items.headD 0 = gs[j].items[0] := ZfS rL
 exact ⟨g, cap, gi, ci, i, _, _, rfl, qG, by rw [qH, hi]; rfl, rL, by omega, c3, by rw [qP, hi], c2, sY _, tA, (Z5.1 hh).1⟩
theorem Zim {w w4 w5 : World} {X B2 k : Nat} {l : Lev} {sv : Value} {cs names : List ByteArray} {gs : List Grp} {b j g n cap i : Nat} (h : R4 w X B2 k l sv cs names gs b j (.slice (some ⟨g, 0, none⟩) n cap) w4) (hb : Below w4.1.size w4 w5) (hj : j < gs.length) (rZ : b <= j) (hi : i < cs.length) (qH : (gs[j].items.headD 0).toNat = i) (pN : names = Z1u l cs) {nm : ByteArray} (hn : Z0e l cs[i] = nm) (qE : nm.size <= maxLen) :
 ∃ y, (Instr.lookup 180 (.map (some B2)) (.string nm) false).run Tryz.prog w5 = .ok (.int .i64 y) w5 /\ R4 w X B2 k l sv cs names gs b (j + 1) (.slice (some ⟨g, 0, none⟩) n cap) (w5.setCell ⟨g, j * 4 + 2, none⟩ (.int .i64 y)) := by
 obtain ⟨h1, h2, h3, h4⟩ := h
 have rG : nm ∈ names := by rw [pN, <- hn]; exact ZfC hi
 have h4' := h4.below hb
 have pU := h4'.look intLaw Tryz.underlying180 qE
 have pL : atF gs.length names names.length nm = some ((gs.length + idx nm names : Nat) : Int) := by
  unfold atF; rw [if_pos (by rw [Kas (Z1 _)]; exact rG)]
 rw [pL] at pU
 refine ⟨_, pU, ZjO (w4 := w4) (Z01 h1 h1.size hb) ((hb.block _ (Z5.1 h2).1).trans h2) (h3.below hb) h4' hj rZ ?_⟩
 have rM : cs.getD i ⟨#[]⟩ = cs[i] := by rw [Z2, Z3 hi]; rfl
 unfold Zdh
 rw [qH, rM, hn, pN]
 rfl
theorem ZjP {w w4 : World} {X B2 k : Nat} {l : Lev} {sv : Value} {cs names : List ByteArray} {st : List Grp × Nat × Nat} {b : Nat} {v : Value} (h : R4 w X B2 k l sv cs names st.1 b st.1.length v w4) (pN : names = Z1u l cs) (hb : b = st.2.1) (rW : st.2.1 <= st.1.length) (hk : st.2.2 = k) : OwnsG w4 w.1.size v (ZaE cs st l).1 := by
 obtain ⟨h1, h2, h3, h4⟩ := h
 subst hb hk pN
 rw [ZiP _ _ _ rW] at h3
 exact h3
end
section
open Go.RowKit
def Z8P (ls : List Lev) (cs : List ByteArray) (w : World) (gs : List Grp) (err : Int) (e : Ending) (w' : World) : Prop :=
 ∃ v, e = .returned (.tuple #[v, .int .i64 err]) /\ Below w.1.size w w' /\ OwnsG w' w.1.size v gs
theorem OwnsT.form {w : World} {base : Nat} {v : Value} {l : List ByteArray} (h : OwnsT w base v l) : ∃ a cap, v = .slice a l.length cap := by
 rcases Joins.ownsRow_forms h with ⟨rfl, hp⟩ | ⟨g, cap, rfl⟩
 ·exact ⟨none, 0, by rw [hp]⟩
 ·exact ⟨_, cap, rfl⟩
theorem OwnsT.at {w : World} {base : Nat} {a : Option Addr} {n cap : Nat} {l : List ByteArray} (h : OwnsT w base (.slice a n cap) l) {j : Nat} (hj : j < l.length) : ∃ g, a = some ⟨g, 0, none⟩ /\ g < w.1.size /\ w.cell? ⟨g, j, none⟩ = some (.string l[j]) /\ n = l.length := by
 rcases Joins.ownsRow_forms h with ⟨_, hp⟩ | ⟨g, cap', e⟩
 ·omega
 ·injection e with e1 e2 e3
  subst e1 e2 e3
  exact ⟨g, rfl, (h.lt g rfl).2, Zac h hj, rfl⟩
theorem Z9Q {W2 : World} {o : Obj} {base B n : Nat} {G : ByteArray -> List Int} (h : GrpsF W2 base B n G) (hn : n <= 100000) :
 Calls Tryz.prog 86 #[.func (.func 121) #[] #[.pointer (some ⟨W2.1.size + 1, 0, none⟩)]] ((W2.alloc o).alloc (.cells #[.map (some B)] 178)) fun e w' => ∃ v names, e = .returned v /\ Z7J G names /\ names.length <= n /\ (∀ s ∈ names, s.size <= maxLen) /\ OwnsT w' (W2.1.size + 2) v names /\ Below (W2.alloc o).1.size (W2.alloc o) w' := by
 have := Zba (w := W2.alloc o) (h.below ((Z9 _ W2).alloc (Z1 _) _)) hn
 have e : (W2.alloc o).1.size = W2.1.size + 1 := by simp
 rw [e] at this
 rw [e]
 exact this
theorem ZbO (ls : List Lev) (v vc : Value) (cs : List ByteArray) (w : World) (hr : RdLevs w v ls) (hf : ∀ l ∈ ls, Z0K l) (pI : Z0g ls = true) (pP : ReadsT w vc cs) (sB : cs.length <= 2000) (qQ : ∀ c ∈ cs, Z0G c = true) (sC : ∀ c ∈ cs, ∀ h : 0 < ls.length, ls[0].pre <= c.size) :
 Calls Tryz.prog 41 #[v, vc] w (Z8P ls cs w (gTo ls cs ls.length).1 0) := by
 obtain ⟨vE, vF⟩ := Z0y pI
 have tB := @run_makeMap Tryz.prog
 have HR := Z0 (fun W (h : Below w.1.size w W) => Z1X ls v W (hr.below h) hf (by unfold maxLen; omega))
 have qA : Hid (∀ W, Below w.1.size w W -> Calls Tryz.prog 82 #[vc, .func (.func 83) #[] #[]] W fun e w' => e = .returned (.bool false) /\ Below W.1.size W w') := fun W hW => by
  refine (Z59 cs vc (fun c => !Z0G c) W (pP.below hW) (by omega) (fun W' _ s hs => Z7r s W' (by have := Z0w (qQ s hs); unfold maxLen; omega))).mono ?_
  rintro e w' ⟨rfl, hb⟩
  refine ⟨Z0d ?_, hb⟩
  rw [Kb4]
  intro c hc
  rw [qQ c hc]; simp
 obtain ⟨a, cap, rfl, hc⟩ := hr
 obtain ⟨g, off, rfl, hg, pB⟩ := hc (by omega)
 have vG := Z0 pB
 have HF := Z0 hf
 obtain ⟨sv0, _, qR⟩ := pB 0 (by omega)
 have qS : w.cell? ⟨g, off + 1, none⟩ = some (.int .i64 (ls[0]'(by omega)).pre) := by simpa using qR.2.1
 have sD : Hid (∀ W, Below w.1.size w W -> W.cell? ⟨w.1.size, 0, none⟩ = some (.slice (some ⟨g, off, none⟩) ls.length cap) -> w.1.size < W.1.size -> Calls Tryz.prog 82 #[vc, .func (.func 84) #[] #[.pointer (some ⟨w.1.size, 0, none⟩)]] W fun e w' => e = .returned (.bool false) /\ Below W.1.size W w') := fun W hW hx hz => by
  refine (Z58 cs vc w.1.size (fun c => decide ((c.size : Int) < (ls[0]'(by omega)).pre)) W (pP.below hW) (by omega) (fun W' hW' s hs => ?_)).mono ?_
  ·refine (Z7q s g off ls.length cap w.1.size (ls[0]'(by omega)).pre W' ((hW'.cell (p := ⟨w.1.size, 0, none⟩) hz).trans hx) (by omega) (by omega) (((hW'.cell (p := ⟨g, off + 1, none⟩) (by have := hW.size; show g < _; omega)).trans (hW.cell (p := ⟨g, off + 1, none⟩) hg)).trans qS) (by have := Z0w (qQ s hs); unfold maxLen; omega)).mono ?_
   rintro e w' ⟨rfl, rfl⟩
   exact ⟨rfl, Z9 _ _⟩
  ·rintro e w' ⟨rfl, hb⟩
   refine ⟨Z0d ?_, hb⟩
   rw [Kb4]
   intro c hc
   have := sC c hc (by omega)
   simp
   omega
 obtain ⟨ac, capc, rfl, tC⟩ := pP
 have HX := Z0 tC
 have tD := Z0 qQ
 have vH := Z0 sC
 have vI := Z0 (Z36 pI)
 have vJ := Z0 (Zdv pI)
 rw [pI] at HR
 obtain ⟨i0, hi⟩ := info_parts Tryz.infoG
 have HI := Z0 hi
 obtain ⟨j0, hj⟩ := info_parts Tryz.infoI
 have HJ := Z0 hj
 clear hi hj tC qQ sC pI hc pB qR hf qS
 go_enter Tryz.func41, Tryz.ntmps41
 go_wp2_with (first
  | (go_at_call 39; refine (HR.out _ ((Z9 _ w).alloc (Z1 _) _)).mono ?_; rintro e w1 ⟨rfl, pF⟩; have pD := Z0l (Z9 _ w) (Z1 _) pF; have pS : w1.cell? ⟨w.1.size, 0, none⟩ = some (.slice (some ⟨g, off, none⟩) ls.length cap) := (pF.cell (p := ⟨w.1.size, 0, none⟩) (by simp)).trans (by simp [go_sem]); have pQ : w.1.size < w1.1.size := ZH (by simp) pF.size; clear pF)
  | (go_at_call 82; refine (qA.out _ pD).mono ?_; rintro e w2 ⟨rfl, pG⟩; replace pS := (pG.cell (p := ⟨w.1.size, 0, none⟩) pQ).trans pS; replace pD := Z01 pD pD.size pG; replace pQ := ZH pQ pG.size; clear pG qA)
  | (go_at_call 82; refine (sD.out _ pD pS pQ).mono ?_; rintro e w3 ⟨rfl, pC⟩; replace pS := (pC.cell (p := ⟨w.1.size, 0, none⟩) pQ).trans pS; replace pD := Z01 pD pD.size pC; clear pC))
 go_loopw [6, 7, 34] (fun v b i wr => ∃ k : Nat, k <= ls.length /\ i = .int .i64 k /\ b = .int .i64 ((gTo ls cs k).2.1 : Nat) /\ Below w.1.size w wr /\ OwnsG wr w.1.size v (gTo ls cs k).1) (fun _ _ i _ => ls.length - (intOf i).toNat)
 case atStart => exact ⟨0, ZE _, rfl, rfl, pD, OwnsG.nil _ _⟩
 case round =>
  clear pD pS pQ
  obtain ⟨k, hk, rfl, rfl, hB, hG⟩ := hrel
  by_cases pA : k < ls.length
  ·obtain ⟨ga, gcap, rfl⟩ := hG.len
   obtain ⟨wo, sE⟩ : ∃ wo : World, wo = wr := ⟨_, rfl⟩
   rw [<- sE] at hB hG ⊢
   clear sE
   obtain ⟨sv, tE, pL⟩ := vG.out k pA
   obtain ⟨r1, r2, r3, r4⟩ := vI.out k pA
   have qT : Hid (∀ W, Below w.1.size w W -> ∀ c ∈ cs, Calls Tryz.prog 85 #[lvA ls[k] sv, .string c] W fun e w' => e = .returned (.string (Z0e ls[k] c)) /\ Below W.1.size W w') := fun W hW c hc =>
    ZaC ls[k] c sv W (HF.out _ (Z4 pA)) (tE.below hW) r1 r3 (by have := vJ.out k pA; have := vH.out c hc (by omega); omega) (by have := Z0w (tD.out c hc); unfold maxLen; omega)
   have rN : Hid (∀ c ∈ cs, (Z0e ls[k] c).size <= maxLen) := fun c hc => ZcS (HF.out _ (Z4 pA)) (by have := Z0w (tD.out c hc); unfold maxLen; omega)
   have rO := Z0 (Z52 ls cs k pA)
   have tF := Z0 (Zjo ls cs k hk)
   obtain ⟨sF, sG⟩ := ZbR ls cs k hk
   have tG := Z0 (ZfX ls cs k hk)
   obtain ⟨st, pH⟩ : ∃ st, gTo ls cs k = st := ⟨_, rfl⟩
   rw [pH] at hG rO tF sF sG tG ⊢
   clear pH
   have wS : st.1.length <= 12000 := Kaw sF (Kaw (Nat.mul_le_mul (show k <= 6 by omega) sB) (by decide))
   clear sF
   obtain ⟨la, lc, rfl, _⟩ := tE
   have sH : g < wo.1.size := ZH hg hB.size
   obtain ⟨t0, t1, t2, t3, t4⟩ := pL.below hB hg
   clear pL r1 r2 r3 r4
   unfold lvA at qT
   generalize ls[k] = l at t0 t1 t2 t3 t4 qT rN rO
   have sE := hB.size
   go_wp2_with fail
   go_loopw [42] (fun i w2 => ∃ j : Nat, j <= cs.length /\ i = .int .i64 j /\ R2 wo l (.slice la l.labs.length lc) cs j w2) (fun i _ => cs.length - (intOf i).toNat)
   case atStart => exact ⟨0, ZE _, rfl, Zip wo l _ cs⟩
   case round =>
    clear t0 t1 t2 t3 t4
    obtain ⟨j, hj, rfl, pV⟩ := hrel
    by_cases pO : j < cs.length
    ·clear tB
     obtain ⟨gc, oc, rfl, sI, qU⟩ := HX.out (by omega)
     have vK := pV
     obtain ⟨q1, q2, q3⟩ := vK
     have bw : Below w.1.size w wr := hB.trans (q1.mono hB.size)
     have cj : wr.cell? ⟨gc, oc + j, none⟩ = some (.string cs[j]) := (bw.cell (p := ⟨gc, oc + j, none⟩) sI).trans (qU j pO)
     obtain ⟨x0, x1, x2, x3, x4⟩ := Zgw q2
     have rM : cs.getD j ⟨#[]⟩ = cs[j] := by rw [Z2, Z3 pO]; rfl
     have tH := Z0 rM
     have H1 := Z0 (qT.out wr bw cs[j] (Z4 pO))
     have qD := rN.out cs[j] (Z4 pO)
     have sJ := Z0 pV
     have tI := Z0 q3
     clear pV q2 rM HX qU q3
     generalize cs[j] = c at cj tH H1 qD
     have wT := q1.size
     have wU := Z0 q1
     clear q1
     go_wp2_with (first
      | (go_at_call 85; refine H1.out.mono ?_; rintro e w3 ⟨rfl, pC⟩; obtain ⟨v3, rU, pX, pR, rE⟩ := (tI.out.below pC).at (by unfold maxLen; omega) qD; have vL := Z0 rE; have vM := pC.size; clear rE)
      | (at_builtin; refine wpList_append_own_at _ rfl _ _ 35 rfl (wo.1.size + 2) 3 j0 (.int .i64 0) 1 8 Tryz.underlying35 HJ.out.1 HJ.out.2.1 HJ.out.2.2.1 HJ.out.2.2.2 rfl (by decide) _ _ _ rfl (pX.1.alloc _) ⟨w3.1.size, 0, none⟩ 1 1 [.int .i64 (j : Int)] rfl rfl (cell_one_new _ _ _) (by simp [Value.oneCell']) (by unfold maxLen; omega) (by omega) (by have := tI.out.lt; simp; omega) ?_; intro v' w4 sK rP uW rV; obtain ⟨w5, wV, vN, pT⟩ := vL.out w4 v' j ((World.grownBy_alloc _ _ _).trans rP) (pX.appended sK (WalkArith.wf_i64 (by omega))) (rV.imp id (fun h => ⟨_, h, by simp⟩))))
     go_roundw
     case rel => exact ⟨j + 1, by omega, by go_num, ZjS tH.out sJ.out pC pX ((World.grownBy_alloc _ _ _).trans rP) pT vN⟩
     case measure => simp [intOf]; omega
    ·obtain ⟨W2, tJ⟩ : ∃ W2 : World, W2 = wr := ⟨_, rfl⟩
     rw [<- tJ] at pV ⊢
     clear tJ
     have vO : j = cs.length := by omega
     have pV : R2 wo l (.slice la l.labs.length lc) cs cs.length W2 := vO ▸ pV
     have sJ := Z0 pV
     have q3 := pV.2.2
     clear pV
     go_wp2_with (first
      | (go_at_call 87; refine (ZfN _ _).mono ?_; rintro e w' ⟨rfl, rfl⟩)
      | (go_at_call 86; refine (Z9Q q3 (by omega)).mono ?_; rintro e w3 ⟨vn, names, rfl, rQ, tK, qE, qO, pC⟩; obtain ⟨an, capn, rfl⟩ := OwnsT.form qO))
     clear q3
     have tL := rQ.1
     have tM := Z0 (ZdY rQ)
     have rR := Z0 (Zio (k := k) hB hG sJ.out pC rQ qE qO)
     have vP := Z0 qE
     have vQ := Z0 tL
     clear rQ qE qO pC tL tB
     go_loopw [6, 66] (fun v i w3 => ∃ j : Nat, j <= names.length /\ i = .int .i64 j /\ R3 w W2 wo.1.size W2.1.size k l (.slice la l.labs.length lc) cs names st.1 (.slice an names.length capn) j v w3) (fun _ i _ => names.length - (intOf i).toNat)
     case atStart => exact ⟨0, ZE _, rfl, rR.out⟩
     case round =>
      clear rR
      obtain ⟨j, wW, rfl, qB⟩ := hrel
      by_cases qI : j < names.length
      ·have tN := qB.2.2.2.2.2.2.1
       obtain ⟨a3, cap3, tO⟩ := tN.len
       have tP : (st.1 ++ (names.take j).map (mkG k l cs)).length = st.1.length + j := by simp; omega
       rw [tP] at tO
       subst tO
       clear tP tN
       obtain ⟨gn, vR, wX, cn, _⟩ := OwnsT.at qB.2.2.2.2.2.1 qI
       subst vR
       have tQ := vP.out _ (Z4 qI)
       obtain ⟨nm, pN⟩ : ∃ nm, names[j] = nm := ⟨_, rfl⟩
       rw [pN] at cn tQ
       have tR := Z0 pN
       clear pN
       have h7 := qB.2.2.2.2.2.2.2.1
       have rR := Z0 qB
       have wY := qB.1.size
       clear qB
       go_wp2_with (first
        | (at_mapUpdate; refine Z2h intLaw _ rfl _ _ _ 180 rfl Tryz.underlying180 W2.1.size j _ rfl h7 (by unfold maxLen; omega) nm tQ rfl _ (WalkArith.wf_i64 (by omega)) rfl ?_; intro w4 tS pZ; obtain ⟨gi, ci, rU, pM, hM, L, hL, hLr, rJ, hLo⟩ := Zku rR.out qI tR.out vQ.out pZ (by first | rfl | simp) tS; have HM := Z0 hM; have HL := Z0 hL; have vS := Z0 hLr; have rS := Z0 pM; have vT := Z0 rJ; have wZ := hM.1.size; clear hM hL hLr pM rJ tS pZ h7)
        | (at_builtin; refine wpList_append_own _ rfl _ _ 103 rfl w.1.size 107 i0 (.agg #[.int .i64 0, .string ⟨#[]⟩, .int .i64 0, .slice none 0 0]) 4 56 Tryz.underlying103 HI.out.1 HI.out.2.1 HI.out.2.2.1 HI.out.2.2.2 rfl (by decide) _ _ _ rfl (hLo.alloc _) ⟨w4.1.size, 0, none⟩ 1 1 (gCell (mkG k l cs nm, .slice (some ⟨gi, 0, none⟩) (Z0q l cs cs.length nm).length ci)) rfl rfl (Z0f _ _ _) (by simp [Value.oneCell', gCell]) (by unfold maxLen; omega) (by omega) (by simp; omega) ?_; intro v' w5 sK rP _))
       go_roundw
       case rel => exact ⟨j + 1, by omega, by go_num, ZjR qI tR.out HM.out HL.out vS.out vT.out hLo rS.out rP sK⟩
       case measure => simp [intOf]; omega
      ·have pJ : R4 w wo.1.size W2.1.size k l (.slice la l.labs.length lc) cs names st.1 st.2.1 st.2.1 _ wr := Zil qB (by omega)
       clear qB
       go_wp2_with fail
       go_loopw [18] (fun i w4 => ∃ j : Nat, st.2.1 <= j /\ j <= st.1.length /\ i = .int .i64 j /\ R4 w wo.1.size W2.1.size k l (.slice la l.labs.length lc) cs names st.1 st.2.1 j u6 w4) (fun i _ => st.1.length - (intOf i).toNat)
       case atStart => exact ⟨st.2.1, Z1 _, sG, rfl, pJ⟩
       case round =>
        clear pJ
        obtain ⟨j, vU, xA, rfl, pJ⟩ := hrel
        by_cases sL : j < st.1.length
        ·obtain ⟨g4, cap4, gi, ci, i, n, up, hv, qG, qH, xB, tK, c3, ci0, c2, fz, pZ, xC⟩ := ZjN pJ sL (tG.out _ (Z4 sL))
         subst hv
         obtain ⟨gc, oc, rfl, sI, qU⟩ := HX.out (by omega)
         have cj : wr.cell? ⟨gc, oc + i, none⟩ = some (.string cs[i]) := (pJ.1.cell (p := ⟨gc, oc + i, none⟩) sI).trans (qU i qG)
         obtain ⟨x0, x1, x2, x3, x4⟩ := Zgw pJ.2.1
         have xD := pJ.1.size
         have pY : Hid (∀ W, Below wr.1.size wr W -> Calls Tryz.prog 85 #[.agg #[.string l.name, .int .i64 l.pre, .slice la l.labs.length lc, .int .i64 l.min, .int .i64 l.cents], .string cs[i]] W fun e w5 => ∃ nm y, e = .returned (.string nm) /\ (Instr.lookup 180 (.map (some W2.1.size)) (.string nm) false).run Tryz.prog w5 = .ok (.int .i64 y) w5 /\
          R4 w wo.1.size W2.1.size k l (.slice la l.labs.length lc) cs names st.1 st.2.1 (j + 1) (.slice (some ⟨g4, 0, none⟩) (st.1.length + names.length) cap4) (w5.setCell ⟨g4, j * 4 + 2, none⟩ (.int .i64 y)) /\ w5.cell? ⟨g4, j * 4 + 2, none⟩ = some (.int .i64 up) /\ w5.frozen? ⟨g4, j * 4 + 2, none⟩ = false) := fun W hW => by
          refine (qT.out W (Z01 pJ.1 pJ.1.size hW) cs[i] (Z4 qG)).mono ?_
          rintro e w5 ⟨rfl, rI⟩
          have hb := Z01 hW hW.size rI
          obtain ⟨y, vV, vW⟩ := Zim pJ hb sL vU qG qH tM.out rfl (rN.out _ (Z4 qG))
          exact ⟨_, y, rfl, vV, vW, (hb.cell (p := ⟨g4, _, none⟩) pZ).trans c2, (hb.frozen (p := ⟨g4, _, none⟩) pZ).trans fz⟩
         clear qT rN HX qU pJ qH tK
         generalize cs[i] = c at cj pY
         go_wp2_with fail
         go_region_with (go_at_call 85; refine (pY.out _ (Z9 _ wr).drew).mono ?_; rintro e w5 ⟨nm, y, rfl, xE, tT, d2, dz⟩; have vX := Z0 tT; clear tT)
         all_goals
          go_wp2_with fail
          go_roundw
          case rel => exact ⟨j + 1, by omega, by omega, by go_num, vX.out⟩
          case measure => simp [intOf]; omega
        ·have vY : Hid (OwnsG wr w.1.size u6 (gTo ls cs (k + 1)).1) := by
          rw [rO.out]
          obtain rfl : j = st.1.length := by omega
          exact ZjP pJ tM.out rfl sG tF.out
         have vZ : Hid (Value.int .i64 (st.1.length : Int) = .int .i64 ((gTo ls cs (k + 1)).2.1 : Nat)) := by rw [rO.out]; exact rfl
         have wA := pJ.1
         clear pJ
         go_wp2_with fail
         go_roundw
         case rel => exact ⟨k + 1, by omega, by go_num, vZ.out, wA, vY.out⟩
         case measure => simp [intOf]; omega
  ·have HE : Hid (OwnsG wr w.1.size u6 (gTo ls cs ls.length).1) := by
    have e : k = ls.length := by omega
    rw [e] at hG
    exact hG
   clear hG
   go_wp2_with fail
   go_ret2
   exact ⟨_, rfl, hB, HE.out⟩
end
section
open Go.RowKit
def Z2R (ls : List Lev) (c : ByteArray) : Bool := match ls with | [] => false | l :: _ => decide ((c.size : Int) < l.pre)
open Classical in
noncomputable def Z1g (ls : List Lev) (cs : List ByteArray) : List Grp × Int :=
 if 2000 < cs.length then ([], 5) else if Z0g ls = true /\ (∀ c ∈ cs, Z0G c = true) then (if cs.any (Z2R ls) then ([], 6) else ((gTo ls cs ls.length).1, 0)) else ([], 2)
theorem Z6I {ls : List Lev} (h : 0 < ls.length) (c : ByteArray) : Z2R ls c = decide ((c.size : Int) < ls[0].pre) := by
 cases ls with
 | nil => simp at h
 | cons l r => rfl
theorem Z5G (ls : List Lev) (v vc : Value) (cs : List ByteArray) (w : World) (hr : RdLevs w v ls) (hf : ∀ l ∈ ls, Z0K l) (hl : ls.length <= maxLen) (pP : ReadsT w vc cs) (pK : cs.length <= maxLen) (qJ : ∀ c ∈ cs, c.size <= maxLen) :
 Calls Tryz.prog 41 #[v, vc] w (Z8P ls cs w (Z1g ls cs).1 (Z1g ls cs).2) := by
 unfold maxLen at pK hl
 by_cases h2 : 2000 < cs.length
 ·have e : Z1g ls cs = ([], 5) := by unfold Z1g; rw [if_pos h2]
  rw [e]
  obtain ⟨a, cap, rfl, _⟩ := hr
  obtain ⟨ac, capc, rfl, _⟩ := pP
  clear e hf qJ
  go_enter Tryz.func41, Tryz.ntmps41
  go_wp2_with fail
  go_ret2
  exact ⟨_, rfl, (Z9 _ w).alloc (Z1 _) _, OwnsG.nil _ _⟩
 ·cases pI : Z0g ls
  ·have e : Z1g ls cs = ([], 2) := by unfold Z1g; rw [if_neg h2, if_neg (by simp [pI])]
   rw [e]
   have HR := Z0 (fun W (h : Below w.1.size w W) => Z1X ls v W (hr.below h) hf hl)
   rw [pI] at HR
   obtain ⟨a, cap, rfl, _⟩ := hr
   obtain ⟨ac, capc, rfl, _⟩ := pP
   clear e hf qJ pI
   go_enter Tryz.func41, Tryz.ntmps41
   go_wp2_with (go_at_call 39; refine (HR.out _ ((Z9 _ w).alloc (Z1 _) _)).mono ?_; rintro e w1 ⟨rfl, pF⟩)
   go_ret2
   exact ⟨_, rfl, Z0l (Z9 _ w) (Z1 _) pF, OwnsG.nil _ _⟩
  ·obtain ⟨vE, vF⟩ := Z0y pI
   have HR := Z0 (fun W (h : Below w.1.size w W) => Z1X ls v W (hr.below h) hf hl)
   rw [pI] at HR
   have qA : Hid (∀ W, Below w.1.size w W -> Calls Tryz.prog 82 #[vc, .func (.func 83) #[] #[]] W fun e w' => e = .returned (.bool (cs.any (fun c => !Z0G c))) /\ Below W.1.size W w') := fun W hW =>
    Z59 cs vc (fun c => !Z0G c) W (pP.below hW) (by omega) (fun W' _ s hs => Z7r s W' (qJ s hs))
   by_cases qC : ∀ c ∈ cs, Z0G c = true
   ·cases qK : cs.any (Z2R ls)
    ·have e : Z1g ls cs = ((gTo ls cs ls.length).1, 0) := by unfold Z1g; rw [if_neg h2, if_pos ⟨pI, qC⟩, qK]; rfl
     rw [e]
     refine ZbO ls v vc cs w hr hf pI pP (by omega) qC (fun c hc h => ?_)
     rw [Kb4] at qK
     have := qK c hc
     rw [Z6I h] at this
     simpa using this
    ·have e : Z1g ls cs = ([], 6) := by unfold Z1g; rw [if_neg h2, if_pos ⟨pI, qC⟩, qK]; rfl
     rw [e]
     have qV : cs.any (fun c => !Z0G c) = false := by
      rw [Kb4]
      intro c hc
      rw [qC c hc]; simp
     rw [qV] at qA
     obtain ⟨a, cap, rfl, hc⟩ := hr
     obtain ⟨g, off, rfl, hg, pB⟩ := hc (by omega)
     obtain ⟨sv0, _, qR⟩ := pB 0 (by omega)
     have qS : w.cell? ⟨g, off + 1, none⟩ = some (.int .i64 (ls[0]'(by omega)).pre) := by simpa using qR.2.1
     have sD : Hid (∀ W, Below w.1.size w W -> W.cell? ⟨w.1.size, 0, none⟩ = some (.slice (some ⟨g, off, none⟩) ls.length cap) -> w.1.size < W.1.size -> Calls Tryz.prog 82 #[vc, .func (.func 84) #[] #[.pointer (some ⟨w.1.size, 0, none⟩)]] W fun e w' => e = .returned (.bool true) /\ Below W.1.size W w') := fun W hW hx hz => by
      refine (Z58 cs vc w.1.size (Z2R ls) W (pP.below hW) (by omega) (fun W' hW' s hs => ?_)).mono ?_
      ·refine (Z7q s g off ls.length cap w.1.size (ls[0]'(by omega)).pre W' ((hW'.cell (p := ⟨w.1.size, 0, none⟩) hz).trans hx) (by omega) (by omega) (((hW'.cell (p := ⟨g, off + 1, none⟩) (by have := hW.size; show g < _; omega)).trans (hW.cell (p := ⟨g, off + 1, none⟩) hg)).trans qS) (qJ s hs)).mono ?_
       rintro e w' ⟨rfl, rfl⟩
       exact ⟨Z0d (Z6I (by omega) s).symm, Z9 _ _⟩
      ·rintro e w' ⟨rfl, hb⟩
       exact ⟨Z0d qK, hb⟩
     obtain ⟨ac, capc, rfl, _⟩ := pP
     clear e hf qJ pI qC qK qV pB qR qS hc
     go_enter Tryz.func41, Tryz.ntmps41
     go_wp2_with (first
      | (go_at_call 39; refine (HR.out _ ((Z9 _ w).alloc (Z1 _) _)).mono ?_; rintro e w1 ⟨rfl, pF⟩; have pD := Z0l (Z9 _ w) (Z1 _) pF; have pS : w1.cell? ⟨w.1.size, 0, none⟩ = some (.slice (some ⟨g, off, none⟩) ls.length cap) := (pF.cell (p := ⟨w.1.size, 0, none⟩) (by simp)).trans (by simp [go_sem]); have pQ : w.1.size < w1.1.size := ZH (by simp) pF.size; clear pF)
      | (go_at_call 82; refine (qA.out _ pD).mono ?_; rintro e w2 ⟨rfl, pG⟩; replace pS := (pG.cell (p := ⟨w.1.size, 0, none⟩) pQ).trans pS; replace pD := Z01 pD pD.size pG; replace pQ := ZH pQ pG.size; clear pG qA)
      | (go_at_call 82; refine (sD.out _ pD pS pQ).mono ?_; rintro e w3 ⟨rfl, pC⟩; replace pD := Z01 pD pD.size pC; clear pC))
     go_ret2
     exact ⟨_, rfl, pD, OwnsG.nil _ _⟩
   ·have e : Z1g ls cs = ([], 2) := by unfold Z1g; rw [if_neg h2, if_neg (fun h => qC h.2)]
    rw [e]
    have qV : cs.any (fun c => !Z0G c) = true := by
     rw [Kbp]
     obtain ⟨c, hc⟩ := Classical.not_forall.1 qC
     obtain ⟨wB, sB⟩ := Classical.not_imp.1 hc
     exact ⟨c, wB, by simpa using sB⟩
    rw [qV] at qA
    obtain ⟨a, cap, rfl, _⟩ := hr
    obtain ⟨ac, capc, rfl, _⟩ := pP
    clear e hf qJ pI qC qV
    go_enter Tryz.func41, Tryz.ntmps41
    go_wp2_with (first
     | (go_at_call 39; refine (HR.out _ ((Z9 _ w).alloc (Z1 _) _)).mono ?_; rintro e w1 ⟨rfl, pF⟩; have pD := Z0l (Z9 _ w) (Z1 _) pF; clear pF)
     | (go_at_call 82; refine (qA.out _ pD).mono ?_; rintro e w2 ⟨rfl, pG⟩; replace pD := Z01 pD pD.size pG; clear pG))
    go_ret2
    exact ⟨_, rfl, pD, OwnsG.nil _ _⟩
end
section
open Go.RowKit
def RdInts (w : World) (v : Value) (zs : List Int) : Prop :=
 ∃ a cap, v = .slice a zs.length cap /\ (0 < zs.length -> ∃ g off, a = some ⟨g, off, none⟩ /\ g < w.1.size /\ ∀ i (h : i < zs.length), w.cell? ⟨g, off + i, none⟩ = some (.int .i64 zs[i]))
theorem RdInts.below {w w' : World} {v : Value} {zs : List Int} (h : RdInts w v zs) (hb : Below w.1.size w w') : RdInts w' v zs := by
 obtain ⟨a, cap, hv, hc⟩ := h
 exact ⟨a, cap, hv, fun h0 => by
  obtain ⟨g, off, ha, hg, pB⟩ := hc h0
  exact ⟨g, off, ha, ZH hg hb.size, fun i h => (hb.cell (p := ⟨g, off + i, none⟩) hg).trans (pB i h)⟩⟩
theorem RdInts.of_row {w : World} {v : Value} {zs : List Int} (h : RowI w v zs) : RdInts w v zs := by
 have h' := h
 obtain ⟨g, cap, cur, rfl, hh, ht⟩ := h'
 exact ⟨_, cap, rfl, fun _ => ⟨g, 0, rfl, (Z5.1 hh).1, fun i hi => by rw [Ka0]; exact h.cell hi⟩⟩
def GrpAt (w : World) (g o : Nat) (x : Grp) (sv : Value) : Prop :=
 w.cell? ⟨g, o, none⟩ = some (.int .i64 x.lvl) /\ w.cell? ⟨g, o + 1, none⟩ = some (.string x.name) /\ w.cell? ⟨g, o + 2, none⟩ = some (.int .i64 x.up) /\ w.cell? ⟨g, o + 3, none⟩ = some sv
def RdGrps (w : World) (v : Value) (gs : List Grp) : Prop :=
 ∃ a cap, v = .slice a gs.length cap /\ (0 < gs.length -> ∃ g off, a = some ⟨g, off, none⟩ /\ g < w.1.size /\ ∀ i (h : i < gs.length), ∃ sv, RdInts w sv gs[i].items /\ GrpAt w g (off + i * 4) gs[i] sv)
theorem GrpAt.below {w w' : World} {g o : Nat} {x : Grp} {sv : Value} {B : Nat} (h : GrpAt w g o x sv) (hb : Below B w w') (hg : g < B) : GrpAt w' g o x sv :=
 ⟨(hb.cell (p := ⟨g, o, none⟩) hg).trans h.1, (hb.cell (p := ⟨g, o + 1, none⟩) hg).trans h.2.1, (hb.cell (p := ⟨g, o + 2, none⟩) hg).trans h.2.2.1, (hb.cell (p := ⟨g, o + 3, none⟩) hg).trans h.2.2.2⟩
theorem RdGrps.below {w w' : World} {v : Value} {gs : List Grp} (h : RdGrps w v gs) (hb : Below w.1.size w w') : RdGrps w' v gs := by
 obtain ⟨a, cap, hv, hc⟩ := h
 exact ⟨a, cap, hv, fun h0 => by
  obtain ⟨g, off, ha, hg, pB⟩ := hc h0
  exact ⟨g, off, ha, ZH hg hb.size, fun i h => by
   obtain ⟨sv, h1, h2⟩ := pB i h
   exact ⟨sv, h1.below hb, h2.below hb hg⟩⟩⟩
theorem RdGrps.of_owns {w : World} {base : Nat} {v : Value} {gs : List Grp} (h : OwnsG w base v gs) : RdGrps w v gs := by
 have h' := h
 obtain ⟨L, hL, _, ho⟩ := h'
 have hl : L.length = gs.length := by rw [<- hL, Z7]
 rw [hl] at ho
 rcases Joins.ownsRow_forms ho with ⟨rfl, hp⟩ | ⟨g, cap, rfl⟩
 ·obtain rfl : gs = [] := Kag.1 hp
  exact ⟨none, 0, rfl, fun h => absurd h (by simp)⟩
 ·exact ⟨_, cap, rfl, fun _ => ⟨g, 0, rfl, (ho.lt g rfl).2, fun i hi => by
   obtain ⟨su, c0, c1, c2, c3, hr, _⟩ := h.slot hi
   rw [Ka0]
   exact ⟨su, RdInts.of_row hr, c0, c1, c2, c3⟩⟩⟩
end
section
open Go.RowKit Go.Sort
def RdX {α : Type} (n : Nat) (cf : α × Value -> List Value) (ids : α -> List Int) (w : World) (v : Value) (xs : List α) : Prop :=
 ∃ a cap, v = .slice a xs.length cap /\ (0 < xs.length -> ∃ g off, a = some ⟨g, off, none⟩ /\ g < w.1.size /\ ∀ i (h : i < xs.length), ∃ s, RdInts w s (ids xs[i]) /\ ∀ j u, (cf (xs[i], s))[j]? = some u -> w.cell? ⟨g, off + i * n + j, none⟩ = some u)
section
variable {α : Type} {n : Nat} {cf : α × Value -> List Value} {ids : α -> List Int} {w w' : World} {v : Value} {xs : List α}
theorem RdX.below (h : RdX n cf ids w v xs) (hb : Below w.1.size w w') : RdX n cf ids w' v xs := by
 obtain ⟨a, cap, hv, hc⟩ := h
 refine ⟨a, cap, hv, fun h0 => ?_⟩
 obtain ⟨g, off, ha, hg, pB⟩ := hc h0
 refine ⟨g, off, ha, ZH hg hb.size, fun i hi => ?_⟩
 obtain ⟨s, h1, h2⟩ := pB i hi
 exact ⟨s, h1.below hb, fun j u hj => (hb.cell (p := ⟨g, off + i * n + j, none⟩) hg).trans (h2 j u hj)⟩
theorem Z3e {β : Type} {f : β -> List Value} {n : Nat} (hf : ∀ x, (f x).length = n) : ∀ (L : List β) (i j : Nat) (h : i < L.length), j < n -> (L.flatMap f)[i * n + j]? = (f L[i])[j]?
 | [], i, j, h, _ => by simp at h
 | x :: r, 0, j, h, hj => by
  rw [Kao, Kc1, Ka0, Ka6 (by rw [hf]; exact hj)]; rfl
 | x :: r, i + 1, j, h, hj => by
  rw [Kao, Kaz (by rw [hf, Kcq]; omega), hf, Kcq]
  have e : i * n + 1 * n + j - n = i * n + j := by omega
  rw [e]
  exact Z3e hf r i j (by simpa using h) hj
end
end
section
open Go.RowKit
def Z8V (p : Stp × Value) : List Value := [.int .i64 p.1.grams, p.2]
abbrev Z3j (w : World) (v : Value) (l : List Stp) : Prop := RdX 2 Z8V (fun s : Stp => s.cents) w v l
def RatAt (w : World) (g o : Nat) (r : Rat) (sv : Value) : Prop := w.cell? ⟨g, o, none⟩ = some (.int .u8 r.cls) /\ w.cell? ⟨g, o + 1, none⟩ = some sv /\ w.cell? ⟨g, o + 2, none⟩ = some (.int .i64 r.bar)
def RdRates (w : World) (v : Value) (l : List Rat) : Prop :=
 ∃ a cap, v = .slice a l.length cap /\ (0 < l.length -> ∃ g off, a = some ⟨g, off, none⟩ /\ g < w.1.size /\ ∀ i (h : i < l.length), ∃ sv, Z3j w sv l[i].steps /\ RatAt w g (off + i * 3) l[i] sv)
def ZnAt (w : World) (g o : Nat) (z : Zn) : Prop := w.cell? ⟨g, o, none⟩ = some (.string z.fr) /\ w.cell? ⟨g, o + 1, none⟩ = some (.string z.till) /\ w.cell? ⟨g, o + 2, none⟩ = some (.int .i64 z.zone)
def RdZones (w : World) (v : Value) (l : List Zn) : Prop :=
 ∃ a cap, v = .slice a l.length cap /\ (0 < l.length -> ∃ g off, a = some ⟨g, off, none⟩ /\ g < w.1.size /\ ∀ i (h : i < l.length), ZnAt w g (off + i * 3) l[i])
theorem RatAt.below {w w' : World} {g o B : Nat} {r : Rat} {sv : Value} (h : RatAt w g o r sv) (hb : Below B w w') (hg : g < B) : RatAt w' g o r sv :=
 ⟨(hb.cell (p := ⟨g, o, none⟩) hg).trans h.1, (hb.cell (p := ⟨g, o + 1, none⟩) hg).trans h.2.1, (hb.cell (p := ⟨g, o + 2, none⟩) hg).trans h.2.2⟩
theorem ZnAt.below {w w' : World} {g o B : Nat} {z : Zn} (h : ZnAt w g o z) (hb : Below B w w') (hg : g < B) : ZnAt w' g o z :=
 ⟨(hb.cell (p := ⟨g, o, none⟩) hg).trans h.1, (hb.cell (p := ⟨g, o + 1, none⟩) hg).trans h.2.1, (hb.cell (p := ⟨g, o + 2, none⟩) hg).trans h.2.2⟩
theorem RdRates.below {w w' : World} {v : Value} {l : List Rat} (h : RdRates w v l) (hb : Below w.1.size w w') : RdRates w' v l := by
 obtain ⟨a, cap, hv, hc⟩ := h
 exact ⟨a, cap, hv, fun h0 => by
  obtain ⟨g, off, ha, hg, pB⟩ := hc h0
  exact ⟨g, off, ha, ZH hg hb.size, fun i h => by
   obtain ⟨sv, h1, h2⟩ := pB i h
   exact ⟨sv, h1.below hb, h2.below hb hg⟩⟩⟩
theorem RdZones.below {w w' : World} {v : Value} {l : List Zn} (h : RdZones w v l) (hb : Below w.1.size w w') : RdZones w' v l := by
 obtain ⟨a, cap, hv, hc⟩ := h
 exact ⟨a, cap, hv, fun h0 => by
  obtain ⟨g, off, ha, hg, pB⟩ := hc h0
  exact ⟨g, off, ha, ZH hg hb.size, fun i h => (pB i h).below hb hg⟩⟩
structure RdTar (w : World) (vr vz : Value) (T : Tar) : Prop where
 r : RdRates w vr T.rates
 z : RdZones w vz T.zones
theorem RdTar.below {w w' : World} {vr vz : Value} {T : Tar} (h : RdTar w vr vz T) (hb : Below w.1.size w w') : RdTar w' vr vz T := ⟨h.r.below hb, h.z.below hb⟩
structure Ln where
 level : Int
 pieces : Int
 barred : Int
 grams : Int
 base : Int
 bar : Int
 saved : Int
 cents : Int
deriving DecidableEq
def lnC (x : Ln) : List Value := [.int .i64 x.level, .int .i64 x.pieces, .int .i64 x.barred, .int .i64 x.grams, .int .i64 x.base, .int .i64 x.bar, .int .i64 x.saved, .int .i64 x.cents]
def lnA (x : Ln) : Value := .agg #[.int .i64 x.level, .int .i64 x.pieces, .int .i64 x.barred, .int .i64 x.grams, .int .i64 x.base, .int .i64 x.bar, .int .i64 x.saved, .int .i64 x.cents]
def Z33 (s x : Ln) : Ln := ⟨s.level, s.pieces + x.pieces, s.barred + x.barred, s.grams + x.grams, s.base + x.base, s.bar + x.bar, s.saved + x.saved, s.cents + x.cents⟩
def Z1m (lv : Int) : Ln := ⟨lv, 0, 0, 0, 0, 0, 0, 0⟩
def Z1r (lv : Int) (l : List Ln) : Ln := l.foldl Z33 (Z1m lv)
structure LnIn (m : Int) (x : Ln) : Prop where
 pieces : 0 <= x.pieces /\ x.pieces <= m
 barred : 0 <= x.barred /\ x.barred <= m
 grams : 0 <= x.grams /\ x.grams <= m
 base : 0 <= x.base /\ x.base <= m
 bar : 0 <= x.bar /\ x.bar <= m
 saved : 0 <= x.saved /\ x.saved <= m
 cents : 0 <= x.cents /\ x.cents <= m
theorem Zdm (lv : Int) (l : List Ln) (x : Ln) : Z1r lv (l ++ [x]) = Z33 (Z1r lv l) x := by unfold Z1r; rw [Kbs]; rfl
theorem Z8C : ∀ (l : List Ln) (s : Ln), (l.foldl Z33 s).level = s.level
 | [], _ => rfl
 | x :: r, s => by rw [List.foldl_cons, Z8C r]; rfl
theorem Z44 (lv : Int) (l : List Ln) : (Z1r lv l).level = lv := Z8C l _
theorem Zij {M m : Int} {s x : Ln} (h : LnIn M s) (k : LnIn m x) : LnIn (M + m) (Z33 s x) := by
 obtain ⟨a1, a2, a3, a4, a5, a6, a7⟩ := h
 obtain ⟨b1, b2, b3, b4, b5, b6, b7⟩ := k
 refine ⟨?_, ?_, ?_, ?_, ?_, ?_, ?_⟩ <;> (unfold Z33; dsimp only; omega)
theorem Zg1 {m : Int} : ∀ (l : List Ln) (s : Ln) (M : Int), LnIn M s -> (∀ x ∈ l, LnIn m x) -> LnIn (M + l.length * m) (l.foldl Z33 s)
 | [], s, M, h, _ => by simpa using h
 | x :: r, s, M, h, hx => by
  have h2 := Zg1 r (Z33 s x) (M + m) (Zij h (hx x Kaf)) (fun y hy => hx y (Kaj _ hy))
  rw [List.foldl_cons, Ka9]
  have e : M + ((r.length + 1 : Nat) : Int) * m = M + m + r.length * m := by rw [Kc3, Int.add_mul]; simp; omega
  rw [e]; exact h2
theorem Z6e {m : Int} (lv : Int) {l : List Ln} (h : ∀ x ∈ l, LnIn m x) : LnIn (l.length * m) (Z1r lv l) := by
 have := Zg1 l (Z1m lv) 0 ⟨⟨Kbi _, Kbi _⟩, ⟨Kbi _, Kbi _⟩, ⟨Kbi _, Kbi _⟩, ⟨Kbi _, Kbi _⟩, ⟨Kbi _, Kbi _⟩, ⟨Kbi _, Kbi _⟩, ⟨Kbi _, Kbi _⟩⟩ h
 rwa [Int.zero_add] at this
structure Man where
 lines : List Ln
 total : Ln
 buns : Int
 tras : Int
 cons : Int
def RdLns (w : World) (v : Value) (l : List Ln) : Prop :=
 ∃ a cap, v = .slice a l.length cap /\ (0 < l.length -> ∃ g off, a = some ⟨g, off, none⟩ /\ g < w.1.size /\ ∀ i (h : i < l.length), ∀ j u, (lnC l[i])[j]? = some u -> w.cell? ⟨g, off + i * 8 + j, none⟩ = some u)
theorem RdLns.below {w w' : World} {v : Value} {l : List Ln} (h : RdLns w v l) (hb : Below w.1.size w w') : RdLns w' v l := by
 obtain ⟨a, cap, hv, hc⟩ := h
 exact ⟨a, cap, hv, fun h0 => by
  obtain ⟨g, off, ha, hg, pB⟩ := hc h0
  exact ⟨g, off, ha, ZH hg hb.size, fun i h j u hu => (hb.cell (p := ⟨g, off + i * 8 + j, none⟩) hg).trans (pB i h j u hu)⟩⟩
abbrev OwnsLn (w : World) (base : Nat) (v : Value) (l : List Ln) : Prop := w.ownsRow base 42 8 v l.length (l.flatMap lnC)
theorem Z5A (x : Ln) : (lnC x).length = 8 := rfl
theorem OwnsLn.rd {w : World} {base : Nat} {v : Value} {l : List Ln} (h : OwnsLn w base v l) : RdLns w v l := by
 rcases Joins.ownsRow_forms h with ⟨rfl, hp⟩ | ⟨g, cap, rfl⟩
 ·exact ⟨none, 0, by rw [hp], fun h0 => by omega⟩
 ·refine ⟨_, cap, rfl, fun h0 => ⟨g, 0, rfl, (h.lt g rfl).2, fun i hi j u hj => ?_⟩⟩
  have qI : j < 8 := (Kam.1 hj).1
  rw [Ka0, h.cellAt _ (by omega), Z3e Z5A l i j hi qI]
  exact hj
def Z6p (x : Man) (v : Value) : Value := .agg #[v, .int .i64 x.total.level, .int .i64 x.total.pieces, .int .i64 x.total.barred, .int .i64 x.total.grams, .int .i64 x.total.base, .int .i64 x.total.bar, .int .i64 x.total.saved, .int .i64 x.total.cents, .int .i64 x.buns, .int .i64 x.tras, .int .i64 x.cons]
theorem Zeu {z : Nat} {T : Tar} (hT : TarOk z T) {w : World} {vr vz : Value} (h : RdTar w vr vz T) :
 ∃ ga oa ca gs os ns cs av cv, vr = .slice (some ⟨ga, oa, none⟩) T.rates.length ca /\ ga < w.1.size /\ w.cell? ⟨ga, oa + 1, none⟩ = some (.slice (some ⟨gs, os, none⟩) ns cs) /\ 1 <= ns /\ ns <= 20 /\ gs < w.1.size /\ w.cell? ⟨gs, os + 1, none⟩ = some (.slice av z cv) := by
 obtain ⟨a, ca, rfl, hc⟩ := h.r
 have h1 := hT.rates.1
 obtain ⟨g, off, rfl, hg, pB⟩ := hc (by omega)
 obtain ⟨sv, hs, pL⟩ := pB 0 (by omega)
 have wC := hT.rate _ (Z4 (show 0 < T.rates.length by omega))
 obtain ⟨asx, cs, rfl, wD⟩ := hs
 have h2 := wC.2.2.some_
 obtain ⟨gs, os, rfl, tU, wE⟩ := wD (by omega)
 obtain ⟨cv, wF, pH⟩ := wE 0 (by omega)
 obtain ⟨av, cv', rfl, _⟩ := wF
 have h3 := hT.first _ (Z3 (by omega)) _ (Z3 (by omega))
 have h4 := pH 1 _ rfl
 rw [Kc1, Kdc] at h4
 refine ⟨g, off, ca, gs, os, _, cs, av, cv', rfl, hg, ?_, h2.1, h2.2, tU, by rw [<- h3]; exact h4⟩
 have := pL.2.1
 rwa [Kc1, Kdc] at this
theorem Zge {z : Nat} {T : Tar} (hT : TarOk z T) {vr vz : Value} (w : World) (h : RdTar w vr vz T) :
 Calls Tryz.prog 107 #[.agg #[vr, vz]] w fun e w' => e = .returned (.int .i64 (z : Nat)) /\ Below w.1.size w w' := by
 obtain ⟨ga, oa, ca, gs, os, ns, cs, av, cv, rfl, xF, c1, n1, n20, tU, c2⟩ := Zeu hT h
 have hz := hT.zn
 have hr := hT.rates
 obtain ⟨az, cz, rfl, _⟩ := h.z
 have hB : Below w.1.size w (w.alloc (.cells #[.slice (some ⟨ga, oa, none⟩) T.rates.length ca, .slice az T.zones.length cz] 29)) := (Z9 _ w).alloc (Z1 _) _
 have HB := Z0 hB
 clear h hB
 obtain ⟨r1, r2⟩ := hr
 obtain ⟨z1, z2⟩ := hz
 clear hT
 generalize T.rates.length = nr at r1 r2 HB ⊢
 generalize T.zones.length = nz at HB ⊢
 have e1 : ((nr : Int) == 0) = false := by rw [beq_eq_false_iff_ne]; omega
 have e2 : ((ns : Int) == 0) = false := by rw [beq_eq_false_iff_ne]; omega
 go_enter Tryz.func107, Tryz.ntmps107
 go_wp2_with fail
 go_ret
 exact ⟨rfl, HB.out⟩
theorem Z8c {s : ByteArray} (w : World) (h : s.size = 0 \/ Z0G s = true) : Calls Tryz.prog 136 #[.string s] w fun e w' => e = .returned (.bool true) /\ Below w.1.size w w' := by
 have qD : s.size <= maxLen := by
  rcases h with h | h
  ·rw [h]; exact ZE _
  ·have := Z0w h; unfold maxLen; omega
 have sM := ba_eq s ⟨#[]⟩
 by_cases h0 : s = ⟨#[]⟩
 ·rw [Kac h0] at sM
  clear h
  go_enter Tryz.func136, Tryz.ntmps136
  go_wp2_with fail
  go_ret
  exact ⟨rfl, Z9 _ _⟩
 ·rw [Kad h0] at sM
  have hc : Z0G s = true := by
   rcases h with h | h
   ·exfalso
    apply h0
    cases s with
    | mk d =>
     have : d.size = 0 := h
     rw [Array.size_eq_zero_iff] at this
     rw [this]
   ·exact h
  have HC := Z0 (fun W => Z6u s W qD)
  rw [hc] at HC
  have xG : s.toList.isEmpty = false := by
   rw [List.isEmpty_eq_false_iff]
   intro hn
   exact h0 (Z7B (by rw [<- ByteArray.toList_eq, hn]))
  clear h hc sM
  go_enter Tryz.func136, Tryz.ntmps136
  go_wp2_with (go_at_call 74; refine (HC.out _).mono ?_; rintro e w1 ⟨rfl, pF⟩)
  go_ret
  exact ⟨rfl, pF⟩
def ZfW (l : List Stp) (i : Nat) : Int := (l.getD i ⟨0, []⟩).grams
def Z7s (l : List Stp) (k : Nat) : Int := if k = 0 then 0 else ZfW l (k - 1)
theorem Zhm {z : Nat} {r : Rat} (hr : RatOk z r) {v : Value} (w : World) (hv : Z3j w v r.steps) (hz : z <= 20) (hc : 1 <= r.cls /\ r.cls <= 255) :
 Calls Tryz.prog 108 #[.agg #[.int .u8 r.cls, v, .int .i64 r.bar], .int .i64 (z : Nat)] w fun e w' => e = .returned (.bool true) /\ Below w.1.size w w' := by
 obtain ⟨s1, s20⟩ := hr.some_
 obtain ⟨b0, b1⟩ := hr.bar
 have tV := Z0 hr.up
 have tW := Z0 hr.cents
 clear hr
 obtain ⟨a, ca, rfl, pB⟩ := hv
 obtain ⟨g, off, rfl, hg, pH⟩ := pB (by omega)
 have tX := Z0 pH
 clear pB pH
 have hB : Below w.1.size w (w.alloc (.cells #[.int .u8 r.cls, .slice (some ⟨g, off, none⟩) r.steps.length ca, .int .i64 r.bar] 60)) := (Z9 _ w).alloc (Z1 _) _
 have HB := Z0 hB
 clear hB
 go_enter Tryz.func108, Tryz.ntmps108
 go_wp2_with fail
 go_loopw [5, 33] (fun b i wr => ∃ k : Nat, k <= r.steps.length /\ i = .int .i64 k /\ b = .int .i64 (Z7s r.steps k) /\ Below w.1.size w wr) (fun _ i _ => r.steps.length - (intOf i).toNat)
 case atStart => exact ⟨0, ZE _, rfl, rfl, HB.out⟩
 case round =>
  obtain ⟨k, hk, rfl, rfl, hb⟩ := hrel
  by_cases pA : k < r.steps.length
  ·obtain ⟨sv, hsv, qP⟩ := tX.out k pA
   obtain ⟨u1, u2⟩ := tV.out k pA
   obtain ⟨q1, q2⟩ := tW.out _ (Z4 pA)
   obtain ⟨ax, cx, rfl, tY⟩ := hsv
   have c0 : wr.cell? ⟨g, off + k * 2, none⟩ = some (.int .i64 r.steps[k].grams) := (hb.cell (p := ⟨g, off + k * 2, none⟩) hg).trans (qP 0 _ rfl)
   have c1 : wr.cell? ⟨g, off + k * 2 + 1, none⟩ = some (.slice ax r.steps[k].cents.length cx) := (hb.cell (p := ⟨g, off + k * 2 + 1, none⟩) hg).trans (qP 1 _ rfl)
   have sH : g < wr.1.size := by have := hb.size; omega
   have tZ : Z7s r.steps (k + 1) = r.steps[k].grams := by
    unfold Z7s ZfW
    rw [if_neg (by omega), Kcx, Z2, Z3 pA]; rfl
   have uA : (if k = 0 then 0 else (r.steps.getD (k - 1) ⟨0, []⟩).grams) = Z7s r.steps k := rfl
   have sN : (r.steps.getD k ⟨0, []⟩).grams = r.steps[k].grams := by rw [Z2, Z3 pA]; rfl
   rw [uA, sN] at u1
   rw [sN] at u2
   have uB := Z0 tZ
   have HQ := Z0 q2
   have sO : Hid (∀ j (hj : j < r.steps[k].cents.length), ∃ gc oc, ax = some ⟨gc, oc, none⟩ /\ gc < wr.1.size /\ wr.cell? ⟨gc, oc + j, none⟩ = some (.int .i64 r.steps[k].cents[j])) := fun j hj => by
    obtain ⟨gc, oc, h1, h2, h3⟩ := tY (by omega)
    exact ⟨gc, oc, h1, by have := hb.size; omega, (hb.cell (p := ⟨gc, oc + j, none⟩) h2).trans (h3 j hj)⟩
   have uC := Z0 hb
   clear tZ uA sN q2 tY qP tX tV tW hb
   generalize r.steps[k] = st at c0 c1 u1 u2 q1 uB HQ sO
   generalize Z7s r.steps k = gb at u1 ⊢
   have d1 : decide (st.grams <= gb) = false := Kad (by omega)
   have d2 : decide ((50000 : Int) < st.grams) = false := Kad (by omega)
   have d3 : ((st.cents.length : Int) != (z : Int)) = false := by rw [q1]; simp
   have d4 : decide ((k : Int) < (r.steps.length : Int)) = true := Kac (by omega)
   go_wp2_with fail
   go_loop [58] (fun i => ∃ j : Nat, j <= st.cents.length /\ i = .int .i64 j) (fun i => st.cents.length - (intOf i).toNat)
   case atStart => exact ⟨0, ZE _, rfl⟩
   case round =>
    obtain ⟨j, hj, rfl⟩ := hrel
    by_cases pO : j < st.cents.length
    ·obtain ⟨gc, oc, rfl, h2, h3⟩ := sO.out j pO
     obtain ⟨h4, h5⟩ := HQ.out _ (Z4 pO)
     clear sO HQ
     generalize st.cents[j] = cj at h3 h4 h5
     have d5 : decide (cj < 0) = false := Kad (by omega)
     have d6 : decide ((1000000 : Int) < cj) = false := Kad (by omega)
     have d7 : decide ((j : Int) < (st.cents.length : Int)) = true := Kac (by omega)
     go_wp2_with fail
     go_round
     case rel => exact ⟨j + 1, by omega, by go_num⟩
     case measure => simp [intOf]; omega
    ·obtain rfl : j = st.cents.length := by omega
     go_wp2_with fail
     go_roundw
     case rel => exact ⟨k + 1, by omega, by go_num, by rw [uB.out], uC.out.alloc uC.out.size _⟩
     case measure => simp [intOf]; omega
  ·obtain rfl : k = r.steps.length := by omega
   go_wp2_with fail
   go_ret
   exact ⟨rfl, hb⟩
open Classical in
noncomputable def Z48 (l : List Zn) (k : Nat) : ByteArray × ByteArray -> Option Bool := fun p => if ∃ j, j < k /\ ∃ h : j < l.length, (l[j].fr, l[j].till) = p then some true else none
theorem Zdu (l : List Zn) : Z48 l 0 = fun _ => none := by
 funext p
 unfold Z48
 rw [if_neg (fun ⟨j, hj, _⟩ => absurd hj (Ka2 _))]
theorem ZeW {l : List Zn} (ha : l.Pairwise (fun a b => ¬ (a.fr = b.fr /\ a.till = b.till))) {k : Nat} (hk : k < l.length) : Z48 l k (l[k].fr, l[k].till) = none := by
 unfold Z48
 rw [if_neg]
 rintro ⟨j, hj, h, e⟩
 exact Kb1.1 ha j k h hk hj ⟨Kah Prod.fst e, Kah Prod.snd e⟩
theorem Zh9 {l : List Zn} {k : Nat} (hk : k < l.length) : Z48 l (k + 1) (l[k].fr, l[k].till) = some true := by
 unfold Z48
 rw [if_pos ⟨k, Ka4 k, hk, rfl⟩]
theorem Zh8 {l : List Zn} {k : Nat} (hk : k < l.length) (u : ByteArray × ByteArray) (h : u ≠ (l[k].fr, l[k].till)) : Z48 l (k + 1) u = Z48 l k u := by
 unfold Z48
 by_cases e : ∃ j, j < k /\ ∃ h : j < l.length, (l[j].fr, l[j].till) = u
 ·obtain ⟨j, h1, h2, h3⟩ := e
  rw [if_pos ⟨j, by omega, h2, h3⟩, if_pos ⟨j, h1, h2, h3⟩]
 ·rw [if_neg e, if_neg]
  rintro ⟨j, h1, h2, h3⟩
  by_cases e2 : j = k
  ·subst e2; exact h h3.symm
  ·exact e ⟨j, by omega, h2, h3⟩
theorem ZgH {p : ByteArray} (h : p.size = 0) : p = ⟨#[]⟩ := by
 cases p with
 | mk d =>
  have : d.size = 0 := h
  rw [Array.size_eq_zero_iff] at this
  rw [this]
theorem ZeX {l : List Zn} (h : ∃ r ∈ l, r.fr.size = 0 /\ r.till.size = 0) : Z48 l l.length (⟨#[]⟩, ⟨#[]⟩) = some true := by
 obtain ⟨r, hr, h1, h2⟩ := h
 obtain ⟨j, hj, rfl⟩ := List.getElem_of_mem hr
 unfold Z48
 rw [if_pos ⟨j, hj, hj, by rw [ZgH h1, ZgH h2]⟩]
theorem Zcs {s : ByteArray} (h : s.size = 0 \/ Z0G s = true) : s.size <= maxLen := by
 rcases h with h | h
 ·rw [h]; exact ZE _
 ·have := Z0w h; unfold maxLen; omega
abbrev ZiO (w : World) (B n : Nat) (f : ByteArray × ByteArray -> Option Bool) : Prop := OwnsK TSS 4 (fun x : ByteArray × ByteArray => x.1.size <= maxLen /\ x.2.size <= maxLen) Zkz Lit.bool w B n f
theorem Z25 {w W : World} {A B : Obj} (h : W = (w.alloc A).alloc B) : W.1[w.1.size]? = some A /\ W.1[w.1.size + 1]? = some B /\ W.1.size = w.1.size + 2 /\ Below w.1.size w W := by
 subst h
 have e : (w.alloc A).1.size = w.1.size + 1 := by simp
 refine ⟨(ZB _ _ _ (by omega)).trans (Z02 w A), ?_, by simp, ((Z9 _ w).alloc (Z1 _) A).alloc (by simp) B⟩
 rw [<- e]; exact Z02 _ _
theorem Z4r {w w2 : World} {A B : Obj} (h : Below ((w.alloc A).alloc B).1.size ((w.alloc A).alloc B) w2) : w2.1[w.1.size]? = some A /\ w2.1[w.1.size + 1]? = some B /\ w.1.size + 2 <= w2.1.size /\ Below w.1.size w w2 := by
 obtain ⟨a, b, c, d⟩ := Z25 (w := w) (A := A) (B := B) rfl
 exact ⟨(h.block _ (by omega)).trans a, (h.block _ (by omega)).trans b, by rw [<- c]; exact h.size, d.trans (h.mono (by omega))⟩
theorem Zh7 {z : Nat} {l : List Zn} (pM : ∀ r ∈ l, (r.fr.size = 0 \/ Z0G r.fr = true) /\ (r.till.size = 0 \/ Z0G r.till = true) /\ 1 <= r.zone /\ r.zone <= z) (rF : l.Pairwise (fun a b => ¬ (a.fr = b.fr /\ a.till = b.till)))
 (rK : ∃ r ∈ l, r.fr.size = 0 /\ r.till.size = 0) (hl : l.length <= 500) {v : Value} (w : World) (hv : RdZones w v l) (hz : z <= 20) :
 Calls Tryz.prog 109 #[v, .int .i64 (z : Nat)] w fun e w' => e = .returned (.bool true) /\ Below w.1.size w w' := by
 have rS := Z0 pM
 have qW := Z0 rF
 have wG := Z0 (ZeX rK)
 obtain ⟨a, ca, rfl, pB⟩ := hv
 have HC := Z0 pB
 clear pM rF rK pB
 have qX : ZiO (w.alloc (.map #[] 0)) w.1.size 0 (Z48 l 0) := by rw [Zdu]; exact OwnsK.made w
 have wH := Z0 qX
 have qY : Below w.1.size w (w.alloc (.map #[] 0)) := (Z9 _ w).alloc (Z1 _) _
 have sP := Z0 qY
 clear qX qY
 have sQ : (Instr.makeMap 230 none).run Tryz.prog w = .ok (.map (some w.1.size)) (w.alloc (.map #[] 0)) := by
  simp only [Instr.makeMap]
  rfl
 go_enter Tryz.func109, Tryz.ntmps109
 go_wp2_with fail
 go_loopw [12] (fun i wr => ∃ k : Nat, k <= l.length /\ i = .int .i64 k /\ Below w.1.size w wr /\ ZiO wr w.1.size k (Z48 l k)) (fun i _ => l.length - (intOf i).toNat)
 case atStart => exact ⟨0, ZE _, rfl, sP.out, wH.out⟩
 case round =>
  obtain ⟨k, hk, rfl, hb, hO⟩ := hrel
  by_cases pA : k < l.length
  ·obtain ⟨g, off, rfl, hg, pH⟩ := HC.out (by omega)
   obtain ⟨c0, c1, c2⟩ := (pH k pA).below hb hg
   obtain ⟨p1, p2, p3, p4⟩ := rS.out _ (Z4 pA)
   have sH : g < wr.1.size := by have := hb.size; omega
   have qZ := Z0 (ZeW qW.out pA)
   have rA := Z0 (Zh9 pA)
   have rB := Z0 (Zh8 pA)
   have sR := Z0 (Zcs p1)
   have sS := Z0 (Zcs p2)
   have uD := Z0 (fun W => Z8c W p1)
   have uE := Z0 (fun W => Z8c W p2)
   clear pH HC rS qW p1 p2
   generalize l[k] = r at c0 c1 c2 p3 p4 qZ rA rB sR sS uD uE
   have d1 : decide (r.zone < 1) = false := Kad (by omega)
   have d2 : decide ((z : Int) < r.zone) = false := Kad (by omega)
   have d4 : decide ((k : Int) < (l.length : Int)) = true := Kac (by omega)
   have HB := Z0 hb
   have HO := Z0 hO
   have wI := hO.lt
   clear hb hO
   go_wp2_with (first
    | (go_at_call 136; refine (uE.out _).mono ?_; rintro e w3 ⟨rfl, pC⟩; have j1 := (pC.block _ (by omega)).trans k1; have j2 := (pC.block _ (by omega)).trans k2; have q2 := Kaa _ _ 2 _ _ _ j1; have p0 := Kaa _ _ 0 _ _ _ j2; have p1 := Kaa _ _ 1 _ _ _ j2; have uF := Z01 HB.out HB.out.size (k4.trans (pC.mono (by omega))); have sT := HO.out.below (k4.trans (pC.mono (by omega))); have vM := pC.size; have pU := sT.look Zjj Z3K (t := 230) Tryz.underlying230 (s := (r.fr, r.till)) ⟨sR.out, sS.out⟩; rw [qZ.out] at pU; have rC := Z0 uF; have sU := Z0 sT; clear uF sT pC)
    | (go_at_call 136; refine (uD.out _).mono ?_; rintro e w2 ⟨rfl, pG⟩; obtain ⟨k1, k2, k3, k4⟩ := Z4r pG; have q1 := Kaa _ _ 1 _ _ _ k1; clear pG)
    | (refine Z3r Zjj Z3K _ rfl _ _ _ _ rfl Tryz.underlying230 w.1.size k (Z48 l k) (Z48 l (k + 1)) rfl sU.out (by unfold maxLen; omega) (r.fr, r.till) ⟨sR.out, sS.out⟩ rfl true trivial rfl rA.out rB.out ?_; intro w5 sV pT))
   go_roundw
   case rel => exact ⟨k + 1, by omega, by go_num, rC.out.grown pT rC.out.size (fun r e => by rw [<- Kav e]; exact Z1 _), sV⟩
   case measure => simp [intOf]; omega
  ·obtain rfl : k = l.length := by omega
   have pU := hO.look Zjj Z3K (t := 230) Tryz.underlying230 (s := (⟨#[]⟩, ⟨#[]⟩)) ⟨ZE _, ZE _⟩
   rw [wG.out] at pU
   go_wp2_with fail
   go_ret
   exact ⟨rfl, hb⟩
open Classical in
noncomputable def Ze6 (l : List Rat) (k : Nat) : Int -> Option Bool := fun p => if ∃ j, j < k /\ ∃ h : j < l.length, l[j].cls = p then some true else none
theorem Zgn (l : List Rat) : Ze6 l 0 = fun _ => none := by
 funext p
 unfold Ze6
 rw [if_neg (fun ⟨j, hj, _⟩ => absurd hj (Ka2 _))]
theorem Zi7 {l : List Rat} (ha : l.Pairwise (fun a b => a.cls ≠ b.cls)) {k : Nat} (hk : k < l.length) : Ze6 l k l[k].cls = none := by
 unfold Ze6
 rw [if_neg]
 rintro ⟨j, hj, h, e⟩
 exact Kb1.1 ha j k h hk hj e
theorem ZjC {l : List Rat} {k : Nat} (hk : k < l.length) : Ze6 l (k + 1) l[k].cls = some true := by
 unfold Ze6
 rw [if_pos ⟨k, Ka4 k, hk, rfl⟩]
theorem ZjB {l : List Rat} {k : Nat} (hk : k < l.length) (u : Int) (h : u ≠ l[k].cls) : Ze6 l (k + 1) u = Ze6 l k u := by
 unfold Ze6
 by_cases e : ∃ j, j < k /\ ∃ h : j < l.length, l[j].cls = u
 ·obtain ⟨j, h1, h2, h3⟩ := e
  rw [if_pos ⟨j, by omega, h2, h3⟩, if_pos ⟨j, h1, h2, h3⟩]
 ·rw [if_neg e, if_neg]
  rintro ⟨j, h1, h2, h3⟩
  by_cases e2 : j = k
  ·subst e2; exact h h3.symm
  ·exact e ⟨j, by omega, h2, h3⟩
abbrev ZiN (w : World) (B n : Nat) (f : Int -> Option Bool) : Prop := OwnsK 5 4 (fun n : Int => (Lit.int .u8 n).wf = true) (Lit.int .u8) Lit.bool w B n f
theorem Zk0 : ∀ m : Fin 256, (Lit.int .u8 (m.val : Int)).wf = true := by decide
theorem ZkE {n : Int} (h : 1 <= n /\ n <= 255) : (Lit.int .u8 n).wf = true := by
 obtain ⟨h1, h2⟩ := h
 obtain ⟨m, rfl⟩ : ∃ m : Nat, n = m := ⟨n.toNat, by omega⟩
 exact Zk0 ⟨m, by omega⟩
theorem Z4N {w w2 : World} {A : Obj} (h : Below (w.alloc A).1.size (w.alloc A) w2) : w2.1[w.1.size]? = some A /\ w.1.size + 1 <= w2.1.size /\ Below w.1.size w w2 := by
 have e : (w.alloc A).1.size = w.1.size + 1 := by simp
 exact ⟨(h.block _ (by omega)).trans (Z02 w A), by rw [<- e]; exact h.size, ((Z9 _ w).alloc (Z1 _) A).trans (h.mono (by omega))⟩
theorem Z80 {z : Nat} {T : Tar} (hT : TarOk z T) {vr vz : Value} (w : World) (h : RdTar w vr vz T) :
 Calls Tryz.prog 72 #[.agg #[vr, vz]] w fun e w' => e = .returned (.bool true) /\ Below w.1.size w w' := by
 have uG : Hid (∀ W, Below w.1.size w W -> Calls Tryz.prog 107 #[.agg #[vr, vz]] W fun e w' => e = .returned (.int .i64 (z : Nat)) /\ Below W.1.size W w') := fun W hW => Zge hT W (h.below hW)
 have wJ : Hid (∀ W, Below w.1.size w W -> Calls Tryz.prog 109 #[vz, .int .i64 (z : Nat)] W fun e w' => e = .returned (.bool true) /\ Below W.1.size W w') := fun W hW => Zh7 hT.row hT.rows hT.all hT.zones.2 W (h.z.below hW) hT.zn.2
 have uH : Hid (∀ W sv (i : Nat) (hi : i < T.rates.length), Z3j W sv T.rates[i].steps -> Calls Tryz.prog 108 #[.agg #[.int .u8 T.rates[i].cls, sv, .int .i64 T.rates[i].bar], .int .i64 (z : Nat)] W fun e w' => e = .returned (.bool true) /\ Below W.1.size W w') := fun W sv i hi hs => by
  obtain ⟨q1, q2, q3⟩ := hT.rate _ (Z4 hi)
  exact Zhm q3 W hs hT.zn.2 ⟨q1, q2⟩
 have uI : Hid (∀ i (hi : i < T.rates.length), 1 <= T.rates[i].cls /\ T.rates[i].cls <= 255) := fun i hi => by
  obtain ⟨q1, q2, _⟩ := hT.rate _ (Z4 hi)
  exact ⟨q1, q2⟩
 have qW := Z0 hT.apart
 obtain ⟨r1, r20⟩ := hT.rates
 obtain ⟨n1, n500⟩ := hT.zones
 obtain ⟨z1, z20⟩ := hT.zn
 obtain ⟨a, ca, rfl, pB⟩ := h.r
 obtain ⟨az, cz, rfl, _⟩ := h.z
 have HC := Z0 pB
 clear pB h hT
 have qY : Below w.1.size w (w.alloc (.cells #[.slice a T.rates.length ca, .slice az T.zones.length cz] 29)) := (Z9 _ w).alloc (Z1 _) _
 have sP := Z0 qY
 clear qY
 have sQ : ∀ W, (Instr.makeMap 205 none).run Tryz.prog W = .ok (.map (some W.1.size)) (W.alloc (.map #[] 0)) := fun W => by
  simp only [Instr.makeMap]
  rfl
 go_enter Tryz.func72, Tryz.ntmps72
 go_wp2_with (go_at_call 107; refine (uG.out _ sP.out).mono ?_; rintro e w1 ⟨rfl, pF⟩; obtain ⟨k1, k2, k3⟩ := Z4N pF; have wK := sQ w1; have x0 := Kaa w1 w.1.size 0 _ _ _ k1; have wL : w.1.size < w1.1.size := k2; clear pF)
 have qX : ZiN (w1.alloc (.map #[] 0)) w1.1.size 0 (Ze6 T.rates 0) := by rw [Zgn]; exact OwnsK.made w1
 have k1' := (ZB w1 (.map #[] 0) _ wL).trans k1
 have wM := Z0 (k3.alloc k3.size (.map #[] 0))
 clear k1 k2 k3 uG sQ wK x0
 go_loopw [41] (fun i wr => ∃ k : Nat, k <= T.rates.length /\ i = .int .i64 k /\ Below w.1.size w wr /\ wr.1[w.1.size]? = some (.cells #[.slice a T.rates.length ca, .slice az T.zones.length cz] 29 (0, 0)) /\ ZiN wr w1.1.size k (Ze6 T.rates k)) (fun i _ => T.rates.length - (intOf i).toNat)
 case atStart => exact ⟨0, ZE _, rfl, wM.out, k1', qX⟩
 case round =>
  clear k1' qX
  obtain ⟨k, hk, rfl, hb, sW, hO⟩ := hrel
  by_cases pA : k < T.rates.length
  ·obtain ⟨g, off, rfl, hg, pH⟩ := HC.out (by omega)
   obtain ⟨sv, hsv, pL⟩ := pH k pA
   obtain ⟨c0, c1, c2⟩ := pL.below hb hg
   have sH : g < wr.1.size := by have := hb.size; omega
   have qZ := Z0 (Zi7 qW.out pA)
   have rA := Z0 (ZjC pA)
   have rB := Z0 (ZjB pA)
   obtain ⟨cl1, cl2⟩ := uI.out k pA
   have HU := Z0 (ZkE ⟨cl1, cl2⟩)
   have uJ : Hid (∀ W, Below w.1.size w W -> Calls Tryz.prog 108 #[.agg #[.int .u8 T.rates[k].cls, sv, .int .i64 T.rates[k].bar], .int .i64 (z : Nat)] W fun e w' => e = .returned (.bool true) /\ Below W.1.size W w') := fun W hW => uH.out W sv k pA (hsv.below hW)
   obtain ⟨sa, sc, rfl, _⟩ := hsv
   have HB := Z0 hb
   have HO := Z0 hO
   have wN := Z0 sW
   have wI := hO.lt
   clear pH HC uH uI qW pL hb hO sW
   have pU := (HO.out.below ((Z9 _ wr).alloc (Z1 _) (.cells #[.int .u8 T.rates[k].cls, .slice sa T.rates[k].steps.length sc, .int .i64 T.rates[k].bar] 60))).look Zkg Z3K (t := 205) Tryz.underlying205 (s := T.rates[k].cls) HU.out
   rw [qZ.out] at pU
   generalize T.rates[k] = r at c0 c1 c2 cl1 cl2 qZ rA rB HU uJ pU
   have d1 : decide (r.cls < 1) = false := Kad (by omega)
   have d4 : decide ((k : Int) < (T.rates.length : Int)) = true := Kac (by omega)
   go_wp2_with (first
    | (go_at_call 108; refine (uJ.out _ (HB.out.alloc HB.out.size _)).mono ?_; rintro e w3 ⟨rfl, pC⟩; obtain ⟨j1, j2, j3⟩ := Z4N pC; have q0 := Kaa _ _ 0 _ _ _ j1; have rC := Z0 (Z01 HB.out HB.out.size j3); have sU := Z0 (HO.out.below j3); have wO := Z0 ((j3.block _ (by omega)).trans wN.out); clear pC j3)
    | (refine Z3r Zkg Z3K _ rfl _ _ _ _ rfl Tryz.underlying205 w1.1.size k (Ze6 T.rates k) (Ze6 T.rates (k + 1)) rfl sU.out (by unfold maxLen; omega) r.cls HU.out rfl true trivial rfl rA.out rB.out ?_; intro w5 sV pT))
   go_roundw
   case rel => exact ⟨k + 1, by omega, by go_num, rC.out.grown pT rC.out.size (fun r e => by rw [<- Kav e]; omega), (pT.block _ (by omega) (by intro e; have := Kav e; omega)).trans wO.out, sV⟩
   case measure => simp [intOf]; omega
  ·obtain rfl : k = T.rates.length := by omega
   have x1 := Kaa _ _ 1 _ _ _ sW
   go_wp2_with (go_at_call 109; refine (wJ.out _ hb).mono ?_; rintro e w7 ⟨rfl, wP⟩)
   go_ret
   exact ⟨rfl, Z01 hb hb.size wP⟩
end
end Go.Proofs.YtlgajongmkhcnaaGreatDoor
