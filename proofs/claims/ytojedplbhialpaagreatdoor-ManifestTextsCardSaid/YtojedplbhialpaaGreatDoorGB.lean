import Derived.Test.YtojedplbhialpaaGreatDoorGA
import Derived.Maps.AppendAt
import Derived.Lib.SmallJoins
import Derived.Test.YtojedplbhialpaaGreatDoorLay
import Derived.Maps.OwnRows
import Derived.Maps.GroupsBeside
import Derived.Sort.KeysCollected
import Derived.BigQuiet
/-! SA -/
namespace Go.Proofs.YtojedplbhialpaaGreatDoor
open Go.RowKit Go.Maps
set_option linter.unusedVariables false
set_option maxRecDepth 100000
theorem codeB_size {c : ByteArray} (h : codeB c = true) : 1 ≤ c.size ∧ c.size ≤ 10 := by unfold codeB at h; simp at h; exact h.1
theorem right_len {ls : List Lev} (h : rightB ls = true) : 1 ≤ ls.length ∧ ls.length ≤ 6 := ⟨(rightB_iff.1 h).1, (rightB_iff.1 h).2.1⟩
theorem right_level {ls : List Lev} (h : rightB ls = true) (i : Nat) (hi : i < ls.length) : sortedB ls[i].labs ∧ (∀ x ∈ ls[i].labs, (x.pre.size : Int) = ls[i].pre) ∧ 0 ≤ ls[i].pre ∧ ls[i].pre ≤ 10 :=
  level_facts ((rightB_iff.1 h).2.2.1.2.1 i hi hi)
theorem right_mono {ls : List Lev} (h : rightB ls = true) (i : Nat) (hi : i < ls.length) : ls[i].pre ≤ (ls[0]'(by omega)).pre := by
  induction i with
  | zero => exact Int.le_refl _
  | succ i ih =>
    have := (rightB_iff.1 h).2.2.1.2.2.2 (i + 1) hi hi i rfl (by omega)
    have := ih (by omega)
    omega
abbrev OwnsT (w : World) (base : Nat) (v : Value) (l : List ByteArray) : Prop := w.ownsRow base 9 1 v l.length (l.map Value.string)
theorem OwnsT.nil (w : World) (base : Nat) : OwnsT w base (.slice none 0 0) [] := World.ownsRow_nil _ _ _ _
end Go.Proofs.YtojedplbhialpaaGreatDoor

/-! SB -/
namespace Go.Proofs
open Go.RowKit Go.Maps Go.Sort Go.Shelf
theorem Tryz.sorts174 (m : Nat) : AnyZ.SortsIn Tryz.prog Tryz.sorted174_ren Fence.wide m :=
  ⟨fun blk off cap ss W hH hblk hsz => callsIn_wide.2 (AnyM.slices_Sort_string Tryz.sort209 blk off cap ss W hH hblk hsz),
   fun p cap W => callsIn_wide.2 (AnyM.slices_Sort_string_none Tryz.sort209 p cap W)⟩
theorem Tryz.maps_Keys_175 (mb : Option Nat) (W : World) : CallsIn Fence.wide 5 Tryz.prog 175 #[.map mb] W fun e w' => e = .returned (.func (.func 210) #[] #[.pointer (some ⟨W.heap.size, 0, none⟩)]) ∧ w' = W.alloc (.cells #[.map mb] 224) :=
  AnyZ.keys_in Tryz.keys175 Fence.wide 5 trivial rfl mb W
set_option maxHeartbeats 1000000 in
theorem Tryz.slices_Sorted_keys {H : Type} (b nn : Nat) (D0 : DataW H) (R : Value → Option (DataW H × List MemPlace)) (w : World) (hown : w.ownsMap Tryz.prog 9 R b nn D0) (hmax : Maps.size D0 ≤ maxLen) (hbytes : Maps.size D0 * 16 ≤ 140737488355328) :
    CallsIn Fence.wide 5 Tryz.prog 174 #[.func (.func 210) #[] #[.pointer (some ⟨w.heap.size, 0, none⟩)]] (w.alloc (.cells #[.map (some b)] 224)) fun e w' => ∃ (v : Value) (ss : List (List UInt8)), e = .returned v ∧ ss.Perm (strKeys D0) ∧
      w'.ownsRow (w.alloc (.cells #[.map (some b)] 224)).heap.size 9 1 v ss.length ((ss.mergeSort (fun x y => decide (x ≤ y))).map encStr) ∧ (v = .slice none 0 0 ↔ ss = []) ∧ Below (w.alloc (.cells #[.map (some b)] 224)).heap.size (w.alloc (.cells #[.map (some b)] 224)) w' := by
  have hbl := hown.lt
  have hseq : SeqGives Fence.wide 2 Tryz.prog 210 #[.pointer (some ⟨w.heap.size, 0, none⟩)] encStr (fun ss => ss.Perm (strKeys D0)) (Maps.size D0) (w.alloc (.cells #[.map (some b)] 224)) :=
    AnyZ.keys_gives (ρ := Tryz.keys175_ren) { Tryz.keys175 with } Fence.wide _ trivial rfl (by omega) w.heap.size b nn D0 _ (by simp) (by simp) (by
      obtain ⟨es, clock, hb, Ft, hs, hD⟩ := hown
      exact ⟨es, clock, (Below.heap_alloc _ _ b hbl).trans hb, Ft, hs, hD⟩)
  exact AnyZ.sorted_in Tryz.sorted174 Fence.wide 5 trivial trivial trivial trivial rfl (by omega) (Tryz.sorts174 _) (enters_of Tryz.func209 (by kernel_rfl) rfl) 210 #[.pointer (some ⟨w.heap.size, 0, none⟩)] trivial (enters_of Tryz.func210 (by kernel_rfl) rfl) _ _ hmax hbytes _ hseq
end Go.Proofs
namespace Go.Proofs.YtojedplbhialpaaGreatDoor
open Go.RowKit Go.Maps Go.WideMaps Go.ChangeShapes Go.WideElems
set_option linter.unusedVariables false
set_option maxRecDepth 100000
def GrpsF (w : World) (base B n : Nat) (G : ByteArray → List Int) : Prop :=
  ∃ D : DataW Unit, w.ownsGroups Tryz.prog 9 base 3 .i64 B n D ∧ ∀ s, (G s = [] → Maps.has D (litK s) = false) ∧ (G s ≠ [] → Maps.has D (litK s) = true ∧ ∀ zd, D.atKey (litK s) zd = .slice (lits .i64 (G s)) [])
theorem GrpsF.made (w : World) : GrpsF (w.alloc (.map #[] 0)) (w.heap.size + 1) w.heap.size 0 (fun _ => []) :=
  ⟨.map [], World.ownsGroups_made _ _ _ _ _, fun s => ⟨fun _ => rfl, fun h => absurd rfl h⟩⟩
theorem GrpsF.below {w w' : World} {base B n : Nat} {G : ByteArray → List Int} (h : GrpsF w base B n G) (hb : Below w.heap.size w w') : GrpsF w' base B n G := by
  obtain ⟨D, hD, hG⟩ := h
  exact ⟨D, hD.kept (grown_none hb) (by simp) (fun _ _ _ x _ => Classical.em _), hG⟩
theorem GrpsF.lt {w : World} {base B n : Nat} {G : ByteArray → List Int} (h : GrpsF w base B n G) : B < w.heap.size ∧ B < base := by
  obtain ⟨D, ⟨es, clock, hb, _, _, _, hbb, _⟩, hG⟩ := h
  exact ⟨(Array.getElem?_eq_some_iff.1 hb).1, hbb⟩
theorem lits_inj {a b : List Int} (h : lits (H := Unit) .i64 a = lits .i64 b) : a = b := by
  unfold lits at h
  exact (List.map_inj_right (fun x y hxy => by simpa using hxy)).1 h
theorem rowDatum_eq {w : World} {base : Nat} {v : Value} {zs G : List Int} (ho : w.ownsInts base 3 .i64 v zs) (h : (G = [] ∧ rowDatum (H := Unit) .i64 v zs = .nil) ∨ rowDatum (H := Unit) .i64 v zs = .slice (lits .i64 G) []) : zs = G := by
  rcases ho.datum (H := Unit) with ⟨h1, h2⟩ | h1
  · rcases h with ⟨rfl, _⟩ | h
    · exact h2
    · rw [h1] at h; cases h
  · rcases h with ⟨_, h⟩ | h
    · rw [h1] at h; cases h
    · rw [h1] at h
      injection h with h _
      exact lits_inj h
def GBack (w : World) (base B n : Nat) (G : ByteArray → List Int) (s : ByteArray) (v : Value) : Prop :=
  ∀ (w1 : World) (v' : Value) (x : Int), w.grownBy w1 v.ownBlock → w1.ownsInts base 3 .i64 v' (G s ++ [x]) → (v'.ownBlock = v.ownBlock ∨ ∃ g, v'.ownBlock = some g ∧ w.heap.size ≤ g) →
    ∃ w2, (Instr.mapUpdate 224 (.map (some B)) (.string s) v').run Tryz.prog w1 = .ok () w2 ∧ GrpsF w2 base B (n + 1) (fun u => if u = s then G s ++ [x] else G u) ∧ w1.grownBy w2 (some B)
theorem GrpsF.at {w : World} {base B n : Nat} {G : ByteArray → List Int} (h : GrpsF w base B n G) (hn : n < maxLen) {s : ByteArray} (hs : s.size ≤ maxLen) :
    ∃ v, (Instr.lookup 224 (.map (some B)) (.string s) false).run Tryz.prog w = .ok v w ∧ w.ownsInts base 3 .i64 v (G s) ∧ (G s).length ≤ n ∧ GBack w base B n G s v := by
  obtain ⟨D, hD, hG⟩ := h
  obtain ⟨v, zs, hrun, hat, hoi, hzl, hback⟩ := hD.at keyed_str Tryz.underlying224 (show (zeroValue 30).run Tryz.prog w = _ by kernel_rfl) hn (keyOf_string_mk Tryz.underlying9 hs)
  have ez : zs = G s := rowDatum_eq hoi (by
    obtain ⟨h1, h2⟩ := hG s
    by_cases e : G s = []
    · refine .inl ⟨e, ?_⟩
      rw [← hat]
      exact atKey_of_not_has (h1 e) _
    · exact .inr (by rw [← hat]; exact (h2 e).2 _))
  subst ez
  refine ⟨v, hrun, hoi, hzl, fun w1 v' x hg hoi' hloc => ?_⟩
  obtain ⟨w2, hrun2, hown2, hg2⟩ := hback w1 v' (G s ++ [x]) hg hoi' (by simp; omega) hloc
  refine ⟨w2, hrun2, ⟨_, hown2, fun u => ?_⟩, hg2⟩
  have hm : IsMap D := by
    obtain ⟨es, clock, _, _, _, rfl, _⟩ := hD
    exact ⟨_, rfl⟩
  have hk : WideAt.IsKeyLit (litK s) := trivial
  dsimp only
  have hd := hoi'.datum_pos (H := Unit) (by simp)
  rw [hd]
  by_cases e : u = s
  · subst e
    rw [if_pos rfl]
    exact ⟨fun h => absurd h (by simp), fun _ => ⟨has_put_same hm hk _, fun zd => atKey_put_same hm hk _ zd⟩⟩
  · rw [if_neg e]
    have hne : litK u ≠ litK s := fun h => e (litK_inj h)
    exact ⟨fun h => by rw [← (hG u).1 h]; exact has_put_other hne _, fun hy => ⟨by rw [← ((hG u).2 hy).1]; exact has_put_other hne _, fun zd => by rw [← ((hG u).2 hy).2 zd]; exact atKey_put_other hne _ _⟩⟩
def RowI (w : World) (v : Value) (zs : List Int) : Prop := ∃ g cap cur, v = .slice (some ⟨g, 0, none⟩) zs.length cap ∧ w.heap[g]? = some (.cells cur 3 (0, 0)) ∧ cur.toList.take zs.length = zs.map (Value.int .i64)
theorem RowI.grown {w w' : World} {v : Value} {zs : List Int} {row : Option Nat} (h : RowI w v zs) (hg : w.grownBy w' row) (hne : ∀ g, row = some g → ∀ cur fr, w.heap[g]? ≠ some (.cells cur 3 fr)) : RowI w' v zs := by
  obtain ⟨g, cap, cur, hv, hh, ht⟩ := h
  exact ⟨g, cap, cur, hv, (hg.block g (Array.getElem?_eq_some_iff.1 hh).1 (fun e => hne g e.symm _ _ hh)).trans hh, ht⟩
theorem RowI.below {w w' : World} {v : Value} {zs : List Int} (h : RowI w v zs) (hb : Below w.heap.size w w') : RowI w' v zs := h.grown (grown_none hb) (fun g e => by cases e)
theorem RowI.cell {w : World} {g cap i : Nat} {zs : List Int} (h : RowI w (.slice (some ⟨g, 0, none⟩) zs.length cap) zs) (hi : i < zs.length) : w.cell? ⟨g, i, none⟩ = some (.int .i64 zs[i]) := by
  obtain ⟨g', cap', cur, hv, hh, ht⟩ := h
  simp only [Value.slice.injEq, Option.some.injEq, Addr.mk.injEq, and_true, true_and] at hv
  obtain ⟨rfl, rfl⟩ := hv
  rw [cell_of_row w g i _ _ _ hh]
  have : (cur.toList.take zs.length)[i]? = (zs.map (Value.int .i64))[i]? := by rw [ht]
  rw [List.getElem?_take_of_lt hi, List.getElem?_map, List.getElem?_eq_getElem hi, Array.getElem?_toList] at this
  exact this
theorem RowI.of_owns {w : World} {base : Nat} {v : Value} {zs : List Int} (h : w.ownsInts base 3 .i64 v zs) (hne : zs ≠ []) : RowI w v zs := by
  obtain ⟨⟨h1, h2 | ⟨g, cap, cur, hv, hb, hg, _, _, _, ht⟩⟩, _⟩ := h
  · exact absurd (List.length_eq_zero_iff.1 h2.2) hne
  · exact ⟨g, cap, cur, hv, hg, by rw [Nat.mul_one] at ht; exact ht⟩
theorem keys_apart {R : Value → Option (DataW Unit × List MemPlace)} {es : Array MapEntry} {clock : Nat} (F : Fit Tryz.prog 9 R es clock) : es.toList.Pairwise (fun x y => x.key ≠ y.key) := by
  refine (List.pairwise_map.1 (Maps.fit_apart keyed_str F)).imp_of_mem (fun {x y} hx hy hne e => hne ?_)
  obtain ⟨a, ha⟩ := F.reads x hx
  obtain ⟨b, hb⟩ := F.reads y hy
  have h1 := rd_key ha
  have h2 := rd_key hb
  rw [rg_of ha, rg_of hb]
  rw [e, h2] at h1
  exact (Option.some.inj h1).symm
theorem GrpsF.read {w : World} {base B n : Nat} {G : ByteArray → List Int} (h : GrpsF w base B n G) : ∀ s : ByteArray, s.size ≤ maxLen → ∃ v, (∀ W : World, W.heap[B]? = w.heap[B]? → (Instr.lookup 224 (.map (some B)) (.string s) false).run Tryz.prog W = .ok v W) ∧ (G s ≠ [] → RowI w v (G s)) := by
  obtain ⟨D, ⟨es, clock, hb, F, hs, rfl, hbb, hlen, hap⟩, hG⟩ := h
  intro s hs'
  have hkey := keyOf_string_mk Tryz.underlying9 hs'
  have look := fun (W : World) (hW : W.heap[B]? = w.heap[B]?) => Maps.fit_look (P := Tryz.prog) (t := 224) (w := W) (b := B) false keyed_str Tryz.underlying224 (show (zeroValue 30).run Tryz.prog W = .ok (.slice none 0 0) W by kernel_rfl) (hW.trans hb) F hkey
  rcases look w rfl with ⟨h1, h2, h3⟩ | ⟨e0, y, m0, k0, h1, h2, h3, _⟩
  · refine ⟨.slice none 0 0, fun W hW => ?_, fun hne => ?_⟩
    · rcases look W hW with ⟨a1, _⟩ | ⟨e1, _, m1, k1, _⟩
      · exact a1
      · exact absurd k1 (h2 e1 m1)
    · have := ((hG s).2 hne).2 .nil
      rw [show litK s = .string s.data.toList from rfl, h3] at this
      cases this
  · refine ⟨e0.val, fun W hW => ?_, fun hne => ?_⟩
    · rcases look W hW with ⟨_, a2, _⟩ | ⟨e1, _, m1, k1, a1, _⟩
      · exact absurd k0 (a2 e0 m0)
      · rw [entry_eq_of_key (keys_apart F) m0 m1 (k0.trans k1.symm)]; exact a1
    · obtain ⟨zs, ho, rfl⟩ := rowElem_inv h2
      have e := ((hG s).2 hne).2 .nil
      rw [show litK s = .string s.data.toList from rfl, h3] at e
      have ez := rowDatum_eq ho (.inr e)
      rw [← ez] at hne ⊢
      exact RowI.of_owns ho hne
end Go.Proofs.YtojedplbhialpaaGreatDoor

/-! SC -/
namespace Go.Proofs.YtojedplbhialpaaGreatDoor
open Go.RowKit Go.Maps Go.WideMaps Go.ChangeShapes Go.WideElems
set_option linter.unusedVariables false
set_option maxRecDepth 100000
def StrictB (l : List ByteArray) : Prop := l.Pairwise (fun a b => ltB a b = true)
theorem StrictB.nodup {l : List ByteArray} (h : StrictB l) : l.Nodup := List.Pairwise.imp (fun hab => ltB_ne hab) h
theorem strict_eq {l m : List ByteArray} (hl : StrictB l) (hm : StrictB m) (h : ∀ s, s ∈ l ↔ s ∈ m) : l = m := by
  have hp : l.Perm m := (List.perm_ext_iff_of_nodup hl.nodup hm.nodup).2 h
  exact List.Perm.eq_of_pairwise (le := fun a b => ltB a b = true) (fun a b _ _ h1 h2 => by rw [ltB_asymm h1] at h2; cases h2) hl hm hp
def KeysAre (G : ByteArray → List Int) (names : List ByteArray) : Prop := StrictB names ∧ ∀ s, s ∈ names ↔ G s ≠ []
def baOf (l : List UInt8) : ByteArray := ⟨l.toArray⟩
theorem baOf_data (l : List UInt8) : (baOf l).data.toList = l := rfl
theorem baOf_self (s : ByteArray) : baOf s.data.toList = s := ba_inj rfl
theorem owns_map {w : World} {base B n : Nat} {G : ByteArray → List Int} (h : GrpsF w base B n G) : ∃ (D : DataW Unit) (R : Value → Option (DataW Unit × List MemPlace)), w.ownsMap Tryz.prog 9 R B n D ∧ ∀ s, (Maps.has D (litK s) = true ↔ G s ≠ []) := by
  obtain ⟨D, hD, hG⟩ := h
  obtain ⟨es, clock, hb, F, hs, rfl, hbb, hlen, hap⟩ := hD
  refine ⟨_, _, ⟨es, clock, hb, F, hs, rfl⟩, fun s => ⟨fun h e => ?_, fun h => ((hG s).2 h).1⟩⟩
  rw [(hG s).1 e] at h; cases h
theorem mem_strKeys {w : World} {B n : Nat} {D : DataW Unit} {R : Value → Option (DataW Unit × List MemPlace)} (h : w.ownsMap Tryz.prog 9 R B n D) : (strKeys D).Nodup ∧ ∀ x, x ∈ strKeys D ↔ Maps.has D (.string x) = true := by
  obtain ⟨es, hD, hpw, _⟩ := h.entries keyed_str
  obtain ⟨es', hD', hko⟩ := h.keysOf
  obtain rfl : es = es' := by rw [hD] at hD'; simpa using hD'
  subst hD
  have hk : ∀ p ∈ es, ∃ x, p.1 = .string x := fun p hp => by obtain ⟨v, hv⟩ := hko p hp; obtain ⟨x, _, hx, _⟩ := Maps.keyOf_str Tryz.underlying9 hv; exact ⟨x, hx⟩
  constructor
  · show (es.map fun p => strOf p.1).Nodup
    refine List.pairwise_map.2 (hpw.imp_of_mem fun {p q} hp' hq' hne e => hne ?_)
    obtain ⟨a, ha⟩ := hk p hp'
    obtain ⟨b, hb⟩ := hk q hq'
    rw [ha, hb] at e ⊢
    exact congrArg _ e
  · intro x
    rw [has_eq, List.any_eq_true]
    show x ∈ es.map (fun p => strOf p.1) ↔ _
    rw [List.mem_map]
    constructor
    · rintro ⟨p, hp', rfl⟩
      obtain ⟨a, ha⟩ := hk p hp'
      exact ⟨p, hp', by rw [ha]; simp [Lit.sameKey, strOf]⟩
    · rintro ⟨p, hp', hs⟩
      obtain ⟨a, ha⟩ := hk p hp'
      rw [ha] at hs
      exact ⟨p, hp', by rw [ha]; simpa [Lit.sameKey, strOf] using hs⟩
theorem keys_call (B : Nat) (W : World) : Calls Tryz.prog 175 #[.map (some B)] W fun e w' => e = .returned (.func (.func 210) #[] #[.pointer (some ⟨W.heap.size, 0, none⟩)]) ∧ W.alloc (.cells #[.map (some B)] 224) = w' :=
  (callsIn_wide.1 (Tryz.maps_Keys_175 (some B) W)).mono (fun e w' ⟨h1, h2⟩ => ⟨h1, h2.symm⟩)
theorem sorted_call {w : World} {base B n : Nat} {G : ByteArray → List Int} (h : GrpsF w base B n G) (hn : n ≤ 100000) :
    Calls Tryz.prog 174 #[.func (.func 210) #[] #[.pointer (some ⟨w.heap.size, 0, none⟩)]] (w.alloc (.cells #[.map (some B)] 224)) fun e w' => ∃ v names, e = .returned v ∧ KeysAre G names ∧ names.length ≤ n ∧ (∀ s ∈ names, s.size ≤ maxLen) ∧ OwnsT w' (w.heap.size + 1) v names ∧ Below w.heap.size w w' := by
  obtain ⟨D, R, hown, hG⟩ := owns_map h
  have hsz := hown.size_le
  refine (callsIn_wide.1 (Tryz.slices_Sorted_keys B n D R w hown (by unfold maxLen; omega) (by omega))).mono ?_
  rintro e w' ⟨v, ss, rfl, hp, hrow, hnil, hb⟩
  obtain ⟨hnd, hmem⟩ := mem_strKeys hown
  have hle := strKeys_le hown Tryz.underlying9
  have hpm : (ss.mergeSort (fun x y => decide (x ≤ y))).Perm (strKeys D) := (List.mergeSort_perm _ _).trans hp
  have hsorted : (ss.mergeSort (fun x y => decide (x ≤ y))).Pairwise (fun a b => a < b) := by
    have tr : ∀ a b c : List UInt8, decide (a ≤ b) = true → decide (b ≤ c) = true → decide (a ≤ c) = true := fun a b c h1 h2 => by simp only [decide_eq_true_eq] at *; exact List.le_trans h1 h2
    have tot : ∀ a b : List UInt8, (decide (a ≤ b) || decide (b ≤ a)) = true := fun a b => by simp only [Bool.or_eq_true, decide_eq_true_eq]; exact List.le_total a b
    have h1 := List.pairwise_mergeSort tr tot ss
    have h2 : (ss.mergeSort (fun x y => decide (x ≤ y))).Nodup := hpm.nodup_iff.2 hnd
    refine (h1.and h2).imp (fun {a b} hab => ?_)
    have hle' : a ≤ b := by simpa using hab.1
    rcases Classical.em (a < b) with hlt | hlt
    · exact hlt
    · exact absurd (List.le_antisymm hle' (List.not_lt.1 hlt)) hab.2
  refine ⟨v, (ss.mergeSort (fun x y => decide (x ≤ y))).map baOf, rfl, ⟨?_, fun s => ?_⟩, ?_, fun s hs => ?_, ?_, ?_⟩
  · unfold StrictB
    rw [List.pairwise_map]
    exact hsorted.imp (fun {a b} hab => by unfold ltB; rw [baOf_data, baOf_data]; exact decide_eq_true hab)
  · rw [List.mem_map]
    constructor
    · rintro ⟨l, hl, rfl⟩
      exact (hG _).1 ((hmem l).1 (hpm.mem_iff.1 hl))
    · intro hs
      exact ⟨s.data.toList, hpm.mem_iff.2 ((hmem _).2 ((hG s).2 hs)), baOf_self s⟩
  · rw [List.length_map, hpm.length_eq]
    have : (strKeys D).length = Maps.size D := by
      obtain ⟨es, rfl⟩ := hown.isMap
      simp [strKeys, Maps.size]
    omega
  · obtain ⟨l, hl, rfl⟩ := List.mem_map.1 hs
    have := hle l (hpm.mem_iff.1 hl)
    show l.toArray.size ≤ maxLen
    simpa using this
  · have e : ((ss.mergeSort (fun x y => decide (x ≤ y))).map baOf).map Value.string = (ss.mergeSort (fun x y => decide (x ≤ y))).map encStr := by
      rw [List.map_map]; rfl
    show w'.ownsRow _ _ _ _ _ _
    rw [e, List.length_map, (List.mergeSort_perm ss _).length_eq]
    have e2 : (w.alloc (.cells #[.map (some B)] 224)).heap.size = w.heap.size + 1 := by simp
    rw [← e2]
    exact hrow
  · exact below_ac (Below.refl _ w) (Nat.le_refl _) hb
def ReadsT (w : World) (v : Value) (ls : List ByteArray) : Prop :=
  ∃ a cap, v = .slice a ls.length cap ∧ (0 < ls.length → ∃ g off, a = some ⟨g, off, none⟩ ∧ g < w.heap.size ∧ ∀ i (h : i < ls.length), w.cell? ⟨g, off + i, none⟩ = some (.string ls[i]))
theorem ReadsT.below {w w' : World} {v : Value} {ls : List ByteArray} (h : ReadsT w v ls) (hb : Below w.heap.size w w') : ReadsT w' v ls := by
  obtain ⟨a, cap, hv, hc⟩ := h
  exact ⟨a, cap, hv, fun h0 => by
    obtain ⟨g, off, ha, hg, hcc⟩ := hc h0
    exact ⟨g, off, ha, Nat.lt_of_lt_of_le hg hb.size, fun i h => (hb.cell (p := ⟨g, off + i, none⟩) hg).trans (hcc i h)⟩⟩
theorem owns_cell {W : World} {base g cap k : Nat} {ls : List ByteArray} (ho : OwnsT W base (.slice (some ⟨g, 0, none⟩) ls.length cap) ls) (hk : k < ls.length) : W.cell? ⟨g, k, none⟩ = some (.string ls[k]) := by
  rw [ho.cellAt k (by omega), List.getElem?_map, List.getElem?_eq_getElem hk]; rfl
theorem ReadsT.of_row {w : World} {v : Value} {base : Nat} {ls : List ByteArray} (ho : OwnsT w base v ls) : ReadsT w v ls := by
  rcases Joins.ownsRow_forms ho with ⟨rfl, hp⟩ | ⟨g, cap, rfl⟩
  · obtain rfl : ls = [] := List.length_eq_zero_iff.1 hp
    exact ⟨none, 0, rfl, fun h => absurd h (by simp)⟩
  · exact ⟨_, cap, rfl, fun _ => ⟨g, 0, rfl, (ho.lt g rfl).2, fun i h => by rw [Nat.zero_add]; exact owns_cell ho h⟩⟩
theorem groups1_any (s : ByteArray) (w : World) (hs : s.size ≤ maxLen) : Calls Tryz.prog 170 #[.string s] w fun e w' => e = .returned (.bool (!codeB s)) ∧ Below w.heap.size w w' := by
  go_enter Tryz.func170, Tryz.ntmps170
  go_wp2_with (go_at_call 171; refine (code_any _ _ hs).mono ?_; rintro e w1 ⟨rfl, hb1⟩)
  go_ret
  exact ⟨rfl, hb1⟩
theorem groups2_any (s : ByteArray) (g off n cap X : Nat) (p : Int) (w : World) (hX : w.cell? ⟨X, 0, none⟩ = some (.slice (some ⟨g, off, none⟩) n cap)) (hn : 0 < n) (hn2 : n ≤ 1000) (hp : w.cell? ⟨g, off + 1, none⟩ = some (.int .i64 p)) (hs : s.size ≤ maxLen) :
    Calls Tryz.prog 172 #[.string s, .pointer (some ⟨X, 0, none⟩)] w fun e w' => e = .returned (.bool (decide ((s.size : Int) < p))) ∧ w = w' := by
  unfold maxLen at hs
  go_enter Tryz.func172, Tryz.ntmps172
  go_wp2_with fail
  go_ret
  exact ⟨rfl, rfl⟩
set_option maxHeartbeats 1000000 in
theorem index1_any (cs : List ByteArray) (v : Value) (q : ByteArray → Bool) (w : World) (hr : ReadsT w v cs) (hl : cs.length ≤ 100000) (hcl : ∀ W, Below w.heap.size w W → ∀ s ∈ cs, Calls Tryz.prog 170 #[.string s] W fun e w' => e = .returned (.bool (q s)) ∧ Below W.heap.size W w') :
    Calls Tryz.prog 207 #[v, .func (.func 170) #[] #[]] w fun e w' => ∃ i : Int, e = .returned (.int .i64 i) ∧ decide (0 ≤ i) = cs.any q ∧ Below w.heap.size w w' := by
  obtain ⟨a, cap, rfl, hc⟩ := hr
  have HC := Lib.hid hc
  have HCL := Lib.hid hcl
  clear hc hcl
  go_enter Tryz.func207, Tryz.ntmps207
  go_wp2_with fail
  go_loopw [8] (fun i wr => ∃ k : Nat, k ≤ cs.length ∧ i = .int .i64 k ∧ Hid (∀ j, j < k → ∀ h : j < cs.length, q cs[j] = false) ∧ Below w.heap.size w wr) (fun i _ => cs.length - (intOf i).toNat)
  case atStart => exact ⟨0, Nat.zero_le _, rfl, fun j h => by omega, Below.refl _ _⟩
  case round =>
    obtain ⟨k, hk, rfl, ha, hB⟩ := hrel
    by_cases hlt : k < cs.length
    · obtain ⟨g, off, rfl, hg, hcc⟩ := HC.out (by omega)
      have c : wr.cell? ⟨g, off + k, none⟩ = some (.string cs[k]) := (hB.cell (p := ⟨g, off + k, none⟩) hg).trans (hcc k hlt)
      have hn : Hid (q cs[k] = false → ∀ j, j < k + 1 → ∀ h : j < cs.length, q cs[j] = false) := fun h1 j hj h => by
        by_cases e : j = k
        · subst e; exact h1
        · exact ha j (by omega) h
      have hf : Hid (q cs[k] = true → cs.any q = true) := fun h1 => List.any_eq_true.2 ⟨_, List.getElem_mem hlt, h1⟩
      have H1 := Lib.hid (HCL.out wr hB cs[k] (List.getElem_mem hlt))
      clear HC HCL hcc
      generalize cs[k] = s at c hn hf H1
      cases hd : q s
      all_goals rw [hd] at H1
      all_goals go_wp2_with (go_at_call 170; refine H1.out.mono ?_; rintro e w2 ⟨rfl, hb2⟩)
      · go_roundw
        case rel => exact ⟨k + 1, by omega, by go_num, hn.out hd, below_c hB hB.size hb2⟩
        case measure => simp [intOf]; omega
      · go_ret
        exact ⟨_, rfl, by rw [hf.out hd]; simp, below_c hB hB.size hb2⟩
    · have hno : cs.any q = false := by
        rw [List.any_eq_false]
        intro x hx
        obtain ⟨j, hj, rfl⟩ := List.mem_iff_getElem.1 hx
        rw [ha j (by omega) hj]; simp
      have HNO := Lib.hid hno
      clear hno
      go_wp2_with fail
      go_ret
      exact ⟨_, rfl, by rw [HNO.out]; rfl, hB⟩
theorem contains1_any (cs : List ByteArray) (v : Value) (q : ByteArray → Bool) (w : World) (hr : ReadsT w v cs) (hl : cs.length ≤ 100000) (hcl : ∀ W, Below w.heap.size w W → ∀ s ∈ cs, Calls Tryz.prog 170 #[.string s] W fun e w' => e = .returned (.bool (q s)) ∧ Below W.heap.size W w') :
    Calls Tryz.prog 169 #[v, .func (.func 170) #[] #[]] w fun e w' => e = .returned (.bool (cs.any q)) ∧ Below w.heap.size w w' := by
  have H := Lib.hid (index1_any cs v q w hr hl hcl)
  clear hr hcl
  go_enter Tryz.func169, Tryz.ntmps169
  go_wp2_with (go_at_call 207; refine H.out.mono ?_; rintro e w' ⟨i, rfl, hi, hb⟩; have HI := Lib.hid hi; clear hi)
  go_ret
  exact ⟨ret_bool HI.out, hb⟩
set_option maxHeartbeats 1000000 in
theorem index2_any (cs : List ByteArray) (v : Value) (X : Nat) (q : ByteArray → Bool) (w : World) (hr : ReadsT w v cs) (hl : cs.length ≤ 100000) (hcl : ∀ W, Below w.heap.size w W → ∀ s ∈ cs, Calls Tryz.prog 172 #[.string s, .pointer (some ⟨X, 0, none⟩)] W fun e w' => e = .returned (.bool (q s)) ∧ Below W.heap.size W w') :
    Calls Tryz.prog 207 #[v, .func (.func 172) #[] #[.pointer (some ⟨X, 0, none⟩)]] w fun e w' => ∃ i : Int, e = .returned (.int .i64 i) ∧ decide (0 ≤ i) = cs.any q ∧ Below w.heap.size w w' := by
  obtain ⟨a, cap, rfl, hc⟩ := hr
  have HC := Lib.hid hc
  have HCL := Lib.hid hcl
  clear hc hcl
  go_enter Tryz.func207, Tryz.ntmps207
  go_wp2_with fail
  go_loopw [8] (fun i wr => ∃ k : Nat, k ≤ cs.length ∧ i = .int .i64 k ∧ Hid (∀ j, j < k → ∀ h : j < cs.length, q cs[j] = false) ∧ Below w.heap.size w wr) (fun i _ => cs.length - (intOf i).toNat)
  case atStart => exact ⟨0, Nat.zero_le _, rfl, fun j h => by omega, Below.refl _ _⟩
  case round =>
    obtain ⟨k, hk, rfl, ha, hB⟩ := hrel
    by_cases hlt : k < cs.length
    · obtain ⟨g, off, rfl, hg, hcc⟩ := HC.out (by omega)
      have c : wr.cell? ⟨g, off + k, none⟩ = some (.string cs[k]) := (hB.cell (p := ⟨g, off + k, none⟩) hg).trans (hcc k hlt)
      have hn : Hid (q cs[k] = false → ∀ j, j < k + 1 → ∀ h : j < cs.length, q cs[j] = false) := fun h1 j hj h => by
        by_cases e : j = k
        · subst e; exact h1
        · exact ha j (by omega) h
      have hf : Hid (q cs[k] = true → cs.any q = true) := fun h1 => List.any_eq_true.2 ⟨_, List.getElem_mem hlt, h1⟩
      have H1 := Lib.hid (HCL.out wr hB cs[k] (List.getElem_mem hlt))
      clear HC HCL hcc
      generalize cs[k] = s at c hn hf H1
      cases hd : q s
      all_goals rw [hd] at H1
      all_goals go_wp2_with (go_at_call 172; refine H1.out.mono ?_; rintro e w2 ⟨rfl, hb2⟩)
      · go_roundw
        case rel => exact ⟨k + 1, by omega, by go_num, hn.out hd, below_c hB hB.size hb2⟩
        case measure => simp [intOf]; omega
      · go_ret
        exact ⟨_, rfl, by rw [hf.out hd]; simp, below_c hB hB.size hb2⟩
    · have hno : cs.any q = false := by
        rw [List.any_eq_false]
        intro x hx
        obtain ⟨j, hj, rfl⟩ := List.mem_iff_getElem.1 hx
        rw [ha j (by omega) hj]; simp
      have HNO := Lib.hid hno
      clear hno
      go_wp2_with fail
      go_ret
      exact ⟨_, rfl, by rw [HNO.out]; rfl, hB⟩
theorem contains2_any (cs : List ByteArray) (v : Value) (X : Nat) (q : ByteArray → Bool) (w : World) (hr : ReadsT w v cs) (hl : cs.length ≤ 100000) (hcl : ∀ W, Below w.heap.size w W → ∀ s ∈ cs, Calls Tryz.prog 172 #[.string s, .pointer (some ⟨X, 0, none⟩)] W fun e w' => e = .returned (.bool (q s)) ∧ Below W.heap.size W w') :
    Calls Tryz.prog 169 #[v, .func (.func 172) #[] #[.pointer (some ⟨X, 0, none⟩)]] w fun e w' => e = .returned (.bool (cs.any q)) ∧ Below w.heap.size w w' := by
  have H := Lib.hid (index2_any cs v X q w hr hl hcl)
  clear hr hcl
  go_enter Tryz.func169, Tryz.ntmps169
  go_wp2_with (go_at_call 207; refine H.out.mono ?_; rintro e w' ⟨i, rfl, hi, hb⟩; have HI := Lib.hid hi; clear hi)
  go_ret
  exact ⟨ret_bool HI.out, hb⟩
end Go.Proofs.YtojedplbhialpaaGreatDoor

/-! SD -/
namespace Go.Proofs.YtojedplbhialpaaGreatDoor
open Go.RowKit
set_option linter.unusedVariables false
structure Grp where
  lvl : Int
  name : ByteArray
  up : Int
  items : List Int
def insB (x : ByteArray) : List ByteArray → List ByteArray
  | [] => [x]
  | y :: r => if ltB x y then x :: y :: r else if x = y then y :: r else y :: insB x r
theorem mem_insB {x s : ByteArray} {l : List ByteArray} : s ∈ insB x l ↔ s = x ∨ s ∈ l := by
  induction l with
  | nil => simp [insB]
  | cons y r ih =>
    unfold insB
    split
    · simp
    · split
      · rename_i h; subst h; simp
      · simp only [List.mem_cons, ih]
        constructor
        · rintro (h | h | h)
          · exact .inr (.inl h)
          · exact .inl h
          · exact .inr (.inr h)
        · rintro (h | h | h)
          · exact .inr (.inl h)
          · exact .inl h
          · exact .inr (.inr h)
theorem strict_insB {x : ByteArray} {l : List ByteArray} (h : StrictB l) : StrictB (insB x l) := by
  unfold StrictB at *
  induction l with
  | nil => simp [insB]
  | cons y r ih =>
    obtain ⟨h1, h2⟩ := List.pairwise_cons.1 h
    unfold insB
    split
    · rename_i hxy
      exact List.pairwise_cons.2 ⟨fun z hz => by
        rcases List.mem_cons.1 hz with rfl | hz
        · exact hxy
        · exact ltB_trans hxy (h1 z hz), h⟩
    · split
      · exact h
      · rename_i h3 h4
        refine List.pairwise_cons.2 ⟨fun z hz => ?_, ih h2⟩
        rcases mem_insB.1 hz with rfl | hz
        · rcases ltB_tri z y with h5 | h5 | h5
          · rw [h5] at h3; exact absurd rfl h3
          · exact absurd h5 h4
          · exact h5
        · exact h1 z hz
def sortB (l : List ByteArray) : List ByteArray := l.foldr insB []
theorem mem_sortB {s : ByteArray} {l : List ByteArray} : s ∈ sortB l ↔ s ∈ l := by
  unfold sortB
  induction l with
  | nil => simp
  | cons y r ih => rw [List.foldr_cons, mem_insB, ih, List.mem_cons]
theorem strict_sortB (l : List ByteArray) : StrictB (sortB l) := by
  unfold sortB
  induction l with
  | nil => exact List.Pairwise.nil
  | cons y r ih => rw [List.foldr_cons]; exact strict_insB ih
def namesOf (l : Lev) (cs : List ByteArray) : List ByteArray := sortB (cs.map (grpOf l))
def itemsTo (l : Lev) (cs : List ByteArray) (k : Nat) (u : ByteArray) : List Int := ((List.range k).filter (fun i => decide (grpOf l (cs.getD i ⟨#[]⟩) = u))).map Int.ofNat
theorem itemsTo_zero (l : Lev) (cs : List ByteArray) : itemsTo l cs 0 = fun _ => [] := rfl
theorem itemsTo_succ (l : Lev) (cs : List ByteArray) (k : Nat) (c : ByteArray) (hc : cs.getD k ⟨#[]⟩ = c) : itemsTo l cs (k + 1) = fun u => if u = grpOf l c then itemsTo l cs k (grpOf l c) ++ [(k : Int)] else itemsTo l cs k u := by
  funext u
  unfold itemsTo
  rw [List.range_succ, List.filter_append, List.map_append]
  by_cases e : u = grpOf l c
  · rw [if_pos e]
    subst e
    rw [List.filter_cons_of_pos (by rw [hc]; simp), List.filter_nil]
    rfl
  · rw [if_neg e]
    have : ¬ grpOf l (cs.getD k ⟨#[]⟩) = u := by rw [hc]; exact fun h => e h.symm
    rw [List.filter_cons_of_neg (by simpa using this), List.filter_nil, List.map_nil, List.append_nil]
theorem mem_itemsTo {l : Lev} {cs : List ByteArray} {k : Nat} {u : ByteArray} {x : Int} : x ∈ itemsTo l cs k u ↔ ∃ i : Nat, i < k ∧ grpOf l (cs.getD i ⟨#[]⟩) = u ∧ x = i := by
  unfold itemsTo
  simp only [List.mem_map, List.mem_filter, List.mem_range, decide_eq_true_eq]
  constructor
  · rintro ⟨i, ⟨h1, h2⟩, rfl⟩; exact ⟨i, h1, h2, rfl⟩
  · rintro ⟨i, h1, h2, rfl⟩; exact ⟨i, ⟨h1, h2⟩, rfl⟩
theorem itemsTo_len (l : Lev) (cs : List ByteArray) (k : Nat) (u : ByteArray) : (itemsTo l cs k u).length ≤ k := by
  unfold itemsTo
  rw [List.length_map]
  have := List.length_filter_le (fun i => decide (grpOf l (cs.getD i ⟨#[]⟩) = u)) (List.range k)
  rw [List.length_range] at this
  exact this
theorem names_keys (l : Lev) (cs : List ByteArray) : KeysAre (itemsTo l cs cs.length) (namesOf l cs) := by
  refine ⟨strict_sortB _, fun s => ?_⟩
  unfold namesOf
  rw [mem_sortB, List.mem_map]
  constructor
  · rintro ⟨c, hc, rfl⟩ he
    obtain ⟨i, hi, rfl⟩ := List.mem_iff_getElem.1 hc
    have : (i : Int) ∈ itemsTo l cs cs.length (grpOf l cs[i]) := mem_itemsTo.2 ⟨i, hi, by rw [List.getD_eq_getElem?_getD, List.getElem?_eq_getElem hi]; rfl, rfl⟩
    rw [he] at this
    cases this
  · intro h
    cases he : itemsTo l cs cs.length s with
    | nil => exact absurd he h
    | cons x r =>
      have : x ∈ itemsTo l cs cs.length s := by rw [he]; exact List.mem_cons_self
      obtain ⟨i, hi, h2, _⟩ := mem_itemsTo.1 this
      exact ⟨cs[i], List.getElem_mem hi, by rw [← h2, List.getD_eq_getElem?_getD, List.getElem?_eq_getElem hi]; rfl⟩
theorem keys_names {l : Lev} {cs : List ByteArray} {names : List ByteArray} (h : KeysAre (itemsTo l cs cs.length) names) : names = namesOf l cs :=
  strict_eq h.1 (names_keys l cs).1 (fun s => (h.2 s).trans ((names_keys l cs).2 s).symm)
def mkG (i : Nat) (l : Lev) (cs : List ByteArray) (n : ByteArray) : Grp := ⟨i, n, -1, itemsTo l cs cs.length n⟩
def idx (u : ByteArray) (l : List ByteArray) : Nat := l.findIdx (fun x => decide (x = u))
def upTo (l : Lev) (cs : List ByteArray) (start : Nat) (g : Grp) : Grp := { g with up := ((start + idx (grpOf l (cs.getD (g.items.headD 0).toNat ⟨#[]⟩)) (namesOf l cs) : Nat) : Int) }
def gStep (cs : List ByteArray) (st : List Grp × Nat × Nat) (l : Lev) : List Grp × Nat × Nat :=
  (st.1.take st.2.1 ++ (st.1.drop st.2.1).map (upTo l cs st.1.length) ++ (namesOf l cs).map (mkG st.2.2 l cs), st.1.length, st.2.2 + 1)
def gTo (ls : List Lev) (cs : List ByteArray) (k : Nat) : List Grp × Nat × Nat := (ls.take k).foldl (gStep cs) ([], 0, 0)
theorem gTo_succ (ls : List Lev) (cs : List ByteArray) (k : Nat) (h : k < ls.length) : gTo ls cs (k + 1) = gStep cs (gTo ls cs k) ls[k] := by
  unfold gTo; rw [List.take_succ_eq_append_getElem h, List.foldl_append]; rfl
theorem gTo_idx (ls : List Lev) (cs : List ByteArray) (k : Nat) (h : k ≤ ls.length) : (gTo ls cs k).2.2 = k := by
  induction k with
  | zero => rfl
  | succ k ih => rw [gTo_succ ls cs k h]; unfold gStep; dsimp only; rw [ih (by omega)]
theorem idx_getElem {l : List ByteArray} (hn : StrictB l) {j : Nat} (h : j < l.length) : idx l[j] l = j := by
  unfold idx
  rw [List.findIdx_eq h]
  refine ⟨by simp, fun i hi => ?_⟩
  have := List.pairwise_iff_getElem.1 hn i j (by omega) h hi
  simpa using ltB_ne this
def gCell (p : Grp × Value) : List Value := [.int .i64 p.1.lvl, .string p.1.name, .int .i64 p.1.up, p.2]
def OwnsG (w : World) (base : Nat) (v : Value) (gs : List Grp) : Prop :=
  ∃ L : List (Grp × Value), L.map Prod.fst = gs ∧ (∀ p ∈ L, RowI w p.2 p.1.items) ∧ w.ownsRow base 114 4 v L.length (L.flatMap gCell)
theorem OwnsG.nil (w : World) (base : Nat) : OwnsG w base (.slice none 0 0) [] := ⟨[], rfl, by simp, World.ownsRow_nil _ _ _ _⟩
theorem gCells_get (L : List (Grp × Value)) (k j : Nat) (h : k < L.length) (hj : j < 4) : (L.flatMap gCell)[k * 4 + j]? = (gCell L[k])[j]? := by
  induction L generalizing k with
  | nil => simp at h
  | cons p r ih =>
    rw [List.flatMap_cons]
    have hl : (gCell p).length = 4 := rfl
    cases k with
    | zero => rw [Nat.zero_mul, Nat.zero_add, List.getElem?_append_left (by omega)]; rfl
    | succ k =>
      rw [List.getElem?_append_right (by rw [hl]; omega), hl, show (k + 1) * 4 + j - 4 = k * 4 + j by omega]
      exact ih k (by simpa using h)
theorem gCells_set (L : List (Grp × Value)) (k : Nat) (h : k < L.length) (x : Int) : (L.flatMap gCell).set (k * 4 + 2) (.int .i64 x) = (L.set k ({ L[k].1 with up := x }, L[k].2)).flatMap gCell := by
  induction L generalizing k with
  | nil => simp at h
  | cons p r ih =>
    cases k with
    | zero => rfl
    | succ k =>
      have hl : (gCell p).length = 4 := rfl
      rw [List.flatMap_cons, List.set_append_right _ _ (by rw [hl]; omega), hl, show (k + 1) * 4 + 2 - 4 = k * 4 + 2 by omega, ih k (by simpa using h)]
      rfl
theorem OwnsG.len {w : World} {base : Nat} {v : Value} {gs : List Grp} (h : OwnsG w base v gs) : ∃ a cap, v = .slice a gs.length cap := by
  obtain ⟨L, rfl, _, ho⟩ := h
  rw [List.length_map]
  rcases Joins.ownsRow_forms ho with ⟨rfl, hp⟩ | ⟨g, cap, rfl⟩
  · exact ⟨none, 0, by rw [hp]⟩
  · exact ⟨_, cap, rfl⟩
theorem OwnsG.below {w w' : World} {base : Nat} {v : Value} {gs : List Grp} (h : OwnsG w base v gs) (hb : Below w.heap.size w w') : OwnsG w' base v gs := by
  obtain ⟨L, h1, h2, ho⟩ := h
  exact ⟨L, h1, fun p hp => (h2 p hp).below hb, ho.kept (grown_none hb) (Classical.em _)⟩
theorem OwnsG.grown {w w' : World} {base C : Nat} {v : Value} {gs : List Grp} (h : OwnsG w base v gs) (hg : w.grownBy w' (some C)) (hC : ∀ cur T fr, w.heap[C]? ≠ some (.cells cur T fr)) : OwnsG w' base v gs := by
  obtain ⟨L, h1, h2, ho⟩ := h
  refine ⟨L, h1, fun p hp => (h2 p hp).grown hg (fun g e cur fr => by cases e; exact hC cur _ fr), ho.kept hg (.inr (fun e => ?_))⟩
  obtain ⟨_, hv | ⟨g, cap, cur, rfl, _, hh, _⟩⟩ := ho
  · rw [hv.1] at e; cases e
  · cases e; exact hC _ _ _ hh
theorem owns_map_block {α : Type} {E : TypeId} {enc : α → Lit} {w : World} {B n : Nat} {f : ByteArray → Option α} (h : OwnsF E enc w B n f) : ∀ cur T fr, w.heap[B]? ≠ some (.cells cur T fr) := by
  obtain ⟨D, ⟨es, clock, hb, _⟩, _⟩ := h
  intro cur T fr e
  rw [hb] at e; cases e
end Go.Proofs.YtojedplbhialpaaGreatDoor

/-! SE -/
namespace Go.Proofs.YtojedplbhialpaaGreatDoor
open Go.RowKit
set_option linter.unusedVariables false
theorem Tryz.infoG : (Tryz.prog.info? 114).map (fun i => (i.zero, i.size, i.bytes)) = some (some (.agg #[.int .i64 0, .string ⟨#[]⟩, .int .i64 0, .slice none 0 0]), 4, 56) := by kernel_rfl
theorem Tryz.infoI : (Tryz.prog.info? 3).map (fun i => (i.zero, i.size, i.bytes)) = some (some (.int .i64 0), 1, 8) := by kernel_rfl
theorem cells_new (W : World) (cs : List Value) (T : TypeId) : ∀ j u, cs[j]? = some u → (W.alloc (.cells cs.toArray T)).cell? ((⟨W.heap.size, 0, none⟩ : Addr).add j) = some u := fun j u h => by
  have hadd : (⟨W.heap.size, 0, none⟩ : Addr).add j = ⟨W.heap.size, j, none⟩ := by unfold Addr.add; split <;> simp_all
  rw [hadd, cell_of_row _ W.heap.size j _ _ _ (alloc_new W _)]
  simpa using h
theorem insB_len (x : ByteArray) (l : List ByteArray) : (insB x l).length ≤ l.length + 1 := by
  induction l with
  | nil => simp [insB]
  | cons y r ih =>
    unfold insB
    split
    · simp
    · split
      · simp
      · simp; exact ih
theorem names_len (l : Lev) (cs : List ByteArray) : (namesOf l cs).length ≤ cs.length := by
  unfold namesOf sortB
  induction cs with
  | nil => simp
  | cons c r ih => rw [List.map_cons, List.foldr_cons]; have := insB_len (grpOf l c) (List.foldr insB [] (r.map (grpOf l))); simp only [List.length_cons]; omega
theorem gStep_len (cs : List ByteArray) (st : List Grp × Nat × Nat) (l : Lev) : (gStep cs st l).1.length = st.1.length + (namesOf l cs).length := by
  unfold gStep
  simp
  omega
theorem gTo_len (ls : List Lev) (cs : List ByteArray) (k : Nat) (h : k ≤ ls.length) : (gTo ls cs k).1.length ≤ k * cs.length ∧ (gTo ls cs k).2.1 ≤ (gTo ls cs k).1.length := by
  induction k with
  | zero => exact ⟨Nat.zero_le _, Nat.le_refl _⟩
  | succ k ih =>
    rw [gTo_succ ls cs k h, gStep_len]
    have := names_len ls[k] cs
    have := ih (by omega)
    refine ⟨by rw [Nat.add_mul]; omega, ?_⟩
    show (gTo ls cs k).1.length ≤ _
    omega
theorem gTo_items (ls : List Lev) (cs : List ByteArray) (k : Nat) (h : k ≤ ls.length) : ∀ g ∈ (gTo ls cs k).1, g.items ≠ [] ∧ ∀ x ∈ g.items, ∃ i : Nat, x = i ∧ i < cs.length := by
  induction k with
  | zero => intro g hg; cases hg
  | succ k ih =>
    rw [gTo_succ ls cs k h]
    intro g hg
    unfold gStep at hg
    simp only [List.append_assoc, List.mem_append, List.mem_map] at hg
    rcases hg with hg | ⟨g', hg, rfl⟩ | ⟨n, hn, rfl⟩
    · exact ih (by omega) g (List.mem_of_mem_take hg)
    · exact ih (by omega) g' (List.mem_of_mem_drop hg)
    · exact ⟨((names_keys ls[k] cs).2 n).1 hn, fun x hx => by
        obtain ⟨i, h1, _, h2⟩ := mem_itemsTo.1 hx
        exact ⟨i, h2, h1⟩⟩
theorem block_grown {w w' : World} {row : Option Nat} {b : Nat} {o : Obj} (hg : w.grownBy w' row) (h : w.heap[b]? = some o) (hne : ∀ g, row = some g → w.heap[g]? ≠ some o) : w'.heap[b]? = some o :=
  (hg.block b (Array.getElem?_eq_some_iff.1 h).1 (fun e => hne b e.symm h)).trans h
def boxL (l : Lev) (sv : Value) : Obj := .cells #[.string l.name, .int .i64 l.pre, sv, .int .i64 l.min, .int .i64 l.cents] 93 (0, 0)
theorem box_of {w : World} {X : Nat} {l : Lev} {sv : Value} (h : w.heap[X]? = some (boxL l sv)) : BoxLev w X l sv :=
  ⟨cell_of_row w X 0 _ _ _ h, cell_of_row w X 1 _ _ _ h, cell_of_row w X 2 _ _ _ h, cell_of_row w X 3 _ _ _ h, cell_of_row w X 4 _ _ _ h⟩
def R2 (wr : World) (l : Lev) (sv : Value) (cs : List ByteArray) (j : Nat) (w2 : World) : Prop :=
  Below wr.heap.size wr w2 ∧ w2.heap[wr.heap.size]? = some (boxL l sv) ∧ GrpsF w2 (wr.heap.size + 2) (wr.heap.size + 1) j (itemsTo l cs j)
theorem R2_start (wr : World) (l : Lev) (sv : Value) (cs : List ByteArray) : R2 wr l sv cs 0 ((wr.alloc (boxL l sv)).alloc (.map #[] 0)) := by
  have e : (wr.alloc (boxL l sv)).heap.size = wr.heap.size + 1 := by simp
  refine ⟨((Below.refl _ wr).alloc (Nat.le_refl _) _).alloc (by simp) _, ?_, ?_⟩
  · have h1 : (wr.alloc (boxL l sv)).heap[wr.heap.size]? = some (boxL l sv) := alloc_new _ _
    exact (((Below.refl _ (wr.alloc (boxL l sv))).alloc (Nat.le_refl _) _).block wr.heap.size (by simp)).trans h1
  · have := GrpsF.made (wr.alloc (boxL l sv))
    rw [e] at this
    rw [itemsTo_zero]
    exact this
theorem R2_next {wr w2 w3 w4 w5 : World} {l : Lev} {sv : Value} {cs : List ByteArray} {j : Nat} {c : ByteArray} {v : Value} (hj : cs.getD j ⟨#[]⟩ = c) (h : R2 wr l sv cs j w2) (hb3 : Below w2.heap.size w2 w3) (hoi : w3.ownsInts (wr.heap.size + 2) 3 .i64 v (itemsTo l cs j (grpOf l c)))
    (hg4 : w3.grownBy w4 v.ownBlock) (hg5 : w4.grownBy w5 (some (wr.heap.size + 1))) (ho : GrpsF w5 (wr.heap.size + 2) (wr.heap.size + 1) (j + 1) (fun u => if u = grpOf l c then itemsTo l cs j (grpOf l c) ++ [(j : Int)] else itemsTo l cs j u)) : R2 wr l sv cs (j + 1) w5 := by
  obtain ⟨h1, h2, h3⟩ := h
  have h3' := h3.lt
  have hw2 : wr.heap.size ≤ w2.heap.size := h1.size
  have a3 : Below wr.heap.size wr w3 := below_c h1 h1.size hb3
  have hlt : ∀ r, v.ownBlock = some r → wr.heap.size + 2 ≤ r := fun r e => (hoi.1.lt r e).1
  have a4 : Below wr.heap.size wr w4 := a3.grown hg4 a3.size (fun r e => by have := hlt r e; omega)
  have a5 : Below wr.heap.size wr w5 := below_row a4 hg5 a4.size (by omega)
  refine ⟨a5, ?_, by rw [itemsTo_succ l cs j c hj]; exact ho⟩
  have b3 : w3.heap[wr.heap.size]? = some (boxL l sv) := (hb3.block wr.heap.size (Array.getElem?_eq_some_iff.1 h2).1).trans h2
  have b4 : w4.heap[wr.heap.size]? = some (boxL l sv) := (hg4.block wr.heap.size (Array.getElem?_eq_some_iff.1 b3).1 (fun e => by have := hlt _ e.symm; omega)).trans b3
  exact (hg5.block wr.heap.size (Array.getElem?_eq_some_iff.1 b4).1 (fun e => by injection e with e; omega)).trans b4
open Classical in
noncomputable def atF (n : Nat) (names : List ByteArray) (j : Nat) (u : ByteArray) : Option Int := if u ∈ names.take j then some ((n + idx u names : Nat) : Int) else none
abbrev OwnsSI := OwnsF 3 (Lit.int .i64)
def R3 (w W2 : World) (X B2 : Nat) (k : Nat) (l : Lev) (sv : Value) (cs names : List ByteArray) (gs : List Grp) (vn : Value) (j : Nat) (v : Value) (w3 : World) : Prop :=
  Below w.heap.size w w3 ∧ w3.heap[X]? = some (boxL l sv) ∧ w3.heap[X + 1]? = W2.heap[X + 1]? ∧ (∃ es cl, W2.heap[X + 1]? = some (.map es cl)) ∧
  (∀ s ∈ names, ∃ u, (∀ W : World, W.heap[X + 1]? = W2.heap[X + 1]? → (Instr.lookup 224 (.map (some (X + 1))) (.string s) false).run Tryz.prog W = .ok u W) ∧ RowI w3 u (itemsTo l cs cs.length s)) ∧
  OwnsT w3 0 vn names ∧ OwnsG w3 w.heap.size v (gs ++ (names.take j).map (mkG k l cs)) ∧ OwnsSI w3 B2 j (atF gs.length names j) ∧ w.heap.size ≤ B2 ∧ X + 1 ≠ B2
theorem atF_next {n : Nat} {names : List ByteArray} {j : Nat} (hs : StrictB names) (hj : j < names.length) : (fun u => if u = names[j] then some ((n + j : Nat) : Int) else atF n names j u) = atF n names (j + 1) := by
  funext u
  unfold atF
  rw [List.take_succ_eq_append_getElem hj]
  by_cases e : u = names[j]
  · rw [if_pos e, if_pos (by rw [e]; exact List.mem_append_right _ (List.mem_singleton.2 rfl)), e, idx_getElem hs hj]
  · rw [if_neg e]
    by_cases e2 : u ∈ names.take j
    · rw [if_pos e2, if_pos (List.mem_append_left _ e2)]
    · rw [if_neg e2, if_neg (fun h => by rcases List.mem_append.1 h with h | h
                                         · exact e2 h
                                         · exact e (List.mem_singleton.1 h))]
theorem OwnsT.grown {w w' : World} {base C : Nat} {v : Value} {l : List ByteArray} (h : OwnsT w base v l) (hg : w.grownBy w' (some C)) (hC : ∀ cur fr, w.heap[C]? ≠ some (.cells cur 9 fr)) : OwnsT w' base v l := by
  refine h.kept hg (.inr (fun e => ?_))
  obtain ⟨_, hv | ⟨g, cap, cur, rfl, _, hh, _⟩⟩ := h
  · rw [hv.1] at e; cases e
  · cases e; exact hC _ _ hh
theorem R3_store {w W2 w3 w4 : World} {X B2 k : Nat} {l : Lev} {sv : Value} {cs names : List ByteArray} {gs : List Grp} {vn v : Value} {j : Nat} (h : R3 w W2 X B2 k l sv cs names gs vn j v w3) (hj : j < names.length) (hs : StrictB names) (hg : w3.grownBy w4 (some B2))
    (ho : OwnsSI w4 B2 (j + 1) (fun u => if u = names[j] then some ((gs.length + j : Nat) : Int) else atF gs.length names j u)) :
    Below w.heap.size w w4 ∧ w4.heap[X]? = some (boxL l sv) ∧ w4.heap[X + 1]? = W2.heap[X + 1]? ∧ (∀ s ∈ names, ∃ u, (∀ W : World, W.heap[X + 1]? = W2.heap[X + 1]? → (Instr.lookup 224 (.map (some (X + 1))) (.string s) false).run Tryz.prog W = .ok u W) ∧ RowI w4 u (itemsTo l cs cs.length s)) ∧
    OwnsT w4 0 vn names ∧ OwnsG w4 w.heap.size v (gs ++ (names.take j).map (mkG k l cs)) ∧ OwnsSI w4 B2 (j + 1) (atF gs.length names (j + 1)) := by
  obtain ⟨h1, h2, h3, ⟨es, cl, hm⟩, h4, h5, h6, h7, h8, h9⟩ := h
  have hC := owns_map_block h7
  refine ⟨below_row h1 hg h1.size h8, block_grown hg h2 (fun g e => by cases e; exact hC _ _ _), ?_, fun s hs => ?_, h5.grown hg (fun cur fr => hC cur _ fr), h6.grown hg hC, by rw [← atF_next hs hj]; exact ho⟩
  · rw [← h3]
    have hx := h3.trans hm
    exact hg.block _ (Array.getElem?_eq_some_iff.1 hx).1 (fun e => h9 (by injection e))
  · obtain ⟨u, hu, hr⟩ := h4 s hs
    exact ⟨u, hu, hr.grown hg (fun g e cur fr => by cases e; exact hC _ _ _)⟩
theorem own_not {w : World} {base : Nat} {e : TypeId} {size : Nat} {v : Value} {n : Nat} {xs : List Value} (h : w.ownsRow base e size v n xs) {T : TypeId} (hT : T ≠ e) : ∀ g, v.ownBlock = some g → ∀ cur fr, w.heap[g]? ≠ some (.cells cur T fr) := by
  intro g hg cur fr e'
  obtain ⟨_, hv | ⟨g', cap, cur', rfl, _, hh, _⟩⟩ := h
  · rw [hv.1] at hg; cases hg
  · cases hg
    rw [hh] at e'
    injection e' with e'
    injection e' with _ e' _
    exact hT e'.symm
theorem own_not_map {w : World} {base : Nat} {e : TypeId} {size : Nat} {v : Value} {n : Nat} {xs : List Value} (h : w.ownsRow base e size v n xs) : ∀ g, v.ownBlock = some g → ∀ es cl, w.heap[g]? ≠ some (.map es cl) := by
  intro g hg cur fr e'
  obtain ⟨_, hv | ⟨g', cap, cur', rfl, _, hh, _⟩⟩ := h
  · rw [hv.1] at hg; cases hg
  · cases hg
    rw [hh] at e'
    cases e'
theorem R3_next {w W2 w4 w5 : World} {X B2 k : Nat} {l : Lev} {sv : Value} {cs names : List ByteArray} {gs : List Grp} {vn v v' su : Value} {j : Nat} {L : List (Grp × Value)} (hj : j < names.length) (hm : ∃ es cl, W2.heap[X + 1]? = some (.map es cl))
    (h1 : Below w.heap.size w w4) (h2 : w4.heap[X]? = some (boxL l sv)) (h3 : w4.heap[X + 1]? = W2.heap[X + 1]?) (h4 : ∀ s ∈ names, ∃ u, (∀ W : World, W.heap[X + 1]? = W2.heap[X + 1]? → (Instr.lookup 224 (.map (some (X + 1))) (.string s) false).run Tryz.prog W = .ok u W) ∧ RowI w4 u (itemsTo l cs cs.length s))
    (h5 : OwnsT w4 0 vn names) (h7 : OwnsSI w4 B2 (j + 1) (atF gs.length names (j + 1))) (h8 : w.heap.size ≤ B2) (h9 : X + 1 ≠ B2)
    (hL : L.map Prod.fst = gs ++ (names.take j).map (mkG k l cs)) (hLr : ∀ p ∈ L, RowI w4 p.2 p.1.items) (hLo : w4.ownsRow w.heap.size 114 4 v L.length (L.flatMap gCell)) (hsu : RowI w4 su (itemsTo l cs cs.length names[j]))
    {o : Obj} (hg : (w4.alloc o).grownBy w5 v.ownBlock) (ho : w5.ownsRow w.heap.size 114 4 v' (L.length + 1) (L.flatMap gCell ++ gCell (mkG k l cs names[j], su))) : R3 w W2 X B2 k l sv cs names gs vn (j + 1) v' w5 := by
  have hbA : Below w4.heap.size w4 (w4.alloc o) := (Below.refl _ w4).alloc (Nat.le_refl _) o
  have hLo' := hLo.alloc o
  have nI := own_not hLo' (T := 3) (by decide)
  have nS := own_not hLo' (T := 9) (by decide)
  have nL := own_not hLo' (T := 93) (by decide)
  have nM := own_not_map hLo'
  have a1 : (w4.alloc o).heap[X]? = some (boxL l sv) := (hbA.block X (Array.getElem?_eq_some_iff.1 h2).1).trans h2
  obtain ⟨es, cl, hm⟩ := hm
  have x1 := h3.trans hm
  have a2 : (w4.alloc o).heap[X + 1]? = some (.map es cl) := (hbA.block (X + 1) (Array.getElem?_eq_some_iff.1 x1).1).trans x1
  have h7' := h7.alloc o
  have kR : ∀ {u : Value} {zs : List Int}, RowI w4 u zs → RowI w5 u zs := fun hr => (hr.below hbA).grown hg (fun g e cur fr => nI g e cur fr)
  refine ⟨?_, block_grown hg a1 (fun g e => nL g e _ _), ?_, ⟨es, cl, hm⟩, fun s hs => ?_, ?_, ⟨L ++ [(mkG k l cs names[j], su)], ?_, ?_, ?_⟩, ?_, h8, h9⟩
  · exact (h1.alloc h1.size o).grown hg (by have := h1.size; simp; omega) (fun r e => (hLo.lt r e).1)
  · rw [hm]; exact block_grown hg a2 (fun g e => nM g e _ _)
  · obtain ⟨u, hu, hr⟩ := h4 s hs
    exact ⟨u, hu, kR hr⟩
  · have := h5.alloc o
    cases hv : v.ownBlock with
    | none => rw [hv] at hg; exact this.kept hg (Classical.em _)
    | some g => rw [hv] at hg; exact OwnsT.grown this hg (fun cur fr => nS g hv cur fr)
  · rw [List.map_append, hL, List.take_succ_eq_append_getElem hj, List.map_append]; simp
  · intro p hp
    rcases List.mem_append.1 hp with hp | hp
    · exact kR (hLr p hp)
    · rw [List.mem_singleton.1 hp]; exact kR hsu
  · rw [List.flatMap_append, List.length_append]; simpa using ho
  · refine h7'.kept hg (fun e => ?_)
    obtain ⟨D, ⟨es', cl', hb, _⟩, _⟩ := h7'
    exact nM B2 e.symm _ _ hb
def upd (gs : List Grp) (b j : Nat) (f : Grp → Grp) : List Grp := gs.mapIdx (fun i g => if b ≤ i ∧ i < j then f g else g)
theorem upd_len (gs : List Grp) (b j : Nat) (f : Grp → Grp) : (upd gs b j f).length = gs.length := by unfold upd; simp
theorem upd_start (gs : List Grp) (b : Nat) (f : Grp → Grp) : upd gs b b f = gs := by
  apply List.ext_getElem?
  intro i
  unfold upd
  rw [List.getElem?_mapIdx]
  cases gs[i]? with
  | none => rfl
  | some g => simp; intro h1 h2; omega
theorem upd_get (gs : List Grp) (b j : Nat) (f : Grp → Grp) (hj : j < gs.length) : (upd gs b j f)[j]? = some gs[j] := by
  unfold upd
  rw [List.getElem?_mapIdx, List.getElem?_eq_getElem hj]
  simp
theorem upd_next (gs : List Grp) (b j : Nat) (f : Grp → Grp) (hj : j < gs.length) (hb : b ≤ j) : (upd gs b j f).set j (f gs[j]) = upd gs b (j + 1) f := by
  apply List.ext_getElem?
  intro i
  rw [List.getElem?_set]
  by_cases e : j = i
  · subst e
    rw [if_pos rfl, if_pos (by rw [upd_len]; exact hj)]
    unfold upd
    rw [List.getElem?_mapIdx, List.getElem?_eq_getElem hj]
    simp
    omega
  · rw [if_neg e]
    unfold upd
    rw [List.getElem?_mapIdx, List.getElem?_mapIdx]
    cases gs[i]? with
    | none => rfl
    | some g =>
      have : (b ≤ i ∧ i < j) ↔ (b ≤ i ∧ i < j + 1) := by omega
      simp [this]
theorem upd_end (gs : List Grp) (b : Nat) (f : Grp → Grp) (hb : b ≤ gs.length) : upd gs b gs.length f = gs.take b ++ (gs.drop b).map f := by
  apply List.ext_getElem?
  intro i
  unfold upd
  rw [List.getElem?_mapIdx]
  by_cases hi : i < b
  · rw [List.getElem?_append_left (by simp; omega), List.getElem?_take_of_lt hi, List.getElem?_eq_getElem (by omega)]
    simp
    omega
  · rw [List.getElem?_append_right (by simp; omega), List.getElem?_map, List.getElem?_drop]
    have e : b + (i - (gs.take b).length) = i := by simp; omega
    rw [e]
    cases hg : gs[i]? with
    | none => rfl
    | some g =>
      have : i < gs.length := (List.getElem?_eq_some_iff.1 hg).1
      simp
      omega
def R4 (w : World) (X B2 k : Nat) (l : Lev) (sv : Value) (cs names : List ByteArray) (gs : List Grp) (b j : Nat) (v : Value) (w4 : World) : Prop :=
  Below w.heap.size w w4 ∧ w4.heap[X]? = some (boxL l sv) ∧ OwnsG w4 w.heap.size v (upd gs b j (upTo l cs gs.length) ++ names.map (mkG k l cs)) ∧ OwnsSI w4 B2 names.length (atF gs.length names names.length)
theorem R4_start {w W2 w3 : World} {X B2 k : Nat} {l : Lev} {sv : Value} {cs names : List ByteArray} {gs : List Grp} {vn v : Value} {b j : Nat} (h : R3 w W2 X B2 k l sv cs names gs vn j v w3) (hj : j = names.length) : R4 w X B2 k l sv cs names gs b b v w3 := by
  obtain ⟨h1, h2, h3, hm, h4, h5, h6, h7, h8, h9⟩ := h
  subst hj
  rw [List.take_of_length_le (Nat.le_refl _)] at h6
  exact ⟨h1, h2, by rw [upd_start]; exact h6, h7⟩
theorem OwnsG.slot {w : World} {base g cap n j : Nat} {GS : List Grp} (h : OwnsG w base (.slice (some ⟨g, 0, none⟩) n cap) GS) (hj : j < GS.length) :
    ∃ su, w.cell? ⟨g, j * 4, none⟩ = some (.int .i64 GS[j].lvl) ∧ w.cell? ⟨g, j * 4 + 1, none⟩ = some (.string GS[j].name) ∧ w.cell? ⟨g, j * 4 + 2, none⟩ = some (.int .i64 GS[j].up) ∧ w.cell? ⟨g, j * 4 + 3, none⟩ = some su ∧ RowI w su GS[j].items ∧ (∀ o, w.frozen? ⟨g, o, none⟩ = false) ∧ base ≤ g ∧ g < w.heap.size ∧ n = GS.length ∧
      ∀ x, OwnsG (w.setCell ⟨g, j * 4 + 2, none⟩ (.int .i64 x)) base (.slice (some ⟨g, 0, none⟩) n cap) (GS.set j { GS[j] with up := x }) ∧ w.grownBy (w.setCell ⟨g, j * 4 + 2, none⟩ (.int .i64 x)) (some g) ∧ ∀ T, T ≠ 114 → ∀ cur fr, w.heap[g]? ≠ some (.cells cur T fr) := by
  obtain ⟨L, rfl, hr, ho⟩ := h
  rw [List.length_map] at hj
  have hn : n = L.length := by
    obtain ⟨_, hv | ⟨g', cap', cur, hv, _⟩⟩ := ho
    · cases hv.1
    · injection hv
  subst hn
  have hlt := ho.lt g rfl
  refine ⟨L[j].2, ?_, ?_, ?_, ?_, by simpa using hr _ (List.getElem_mem hj), fun o => ho.frozenAt o, hlt.1, hlt.2, by simp, fun x => ?_⟩
  · rw [ho.cellAt _ (by omega), show j * 4 = j * 4 + 0 from rfl, gCells_get L j 0 hj (by omega)]; simp [gCell]
  · rw [ho.cellAt _ (by omega), gCells_get L j 1 hj (by omega)]; simp [gCell]
  · rw [ho.cellAt _ (by omega), gCells_get L j 2 hj (by omega)]; simp [gCell]
  · rw [ho.cellAt _ (by omega), gCells_get L j 3 hj (by omega)]; simp [gCell]
  · obtain ⟨s1, s2⟩ := ho.stored (j * 4 + 2) (.int .i64 x)
    have nI := own_not ho (T := 3) (by decide) g rfl
    refine ⟨⟨L.set j ({ L[j].1 with up := x }, L[j].2), ?_, ?_, ?_⟩, s2, fun T hT => own_not ho hT g rfl⟩
    · rw [List.map_set]; simp
    · intro p hp
      have key : ∀ {u : Value} {zs : List Int}, RowI w u zs → RowI (w.setCell ⟨g, j * 4 + 2, none⟩ (.int .i64 x)) u zs := fun hrr => hrr.grown s2 (fun g' e cur fr => by cases e; exact nI cur fr)
      rcases List.mem_or_eq_of_mem_set hp with hp | rfl
      · exact key (hr p hp)
      · exact key (hr L[j] (List.getElem_mem hj))
    · rw [← gCells_set L j hj x, List.length_set]; exact s1
theorem R4_next {w w4 w5 : World} {X B2 k : Nat} {l : Lev} {sv : Value} {cs names : List ByteArray} {gs : List Grp} {b j g n cap : Nat} (hb5 : Below w.heap.size w w5) (hX : w5.heap[X]? = some (boxL l sv)) (hG : OwnsG w5 w.heap.size (.slice (some ⟨g, 0, none⟩) n cap) (upd gs b j (upTo l cs gs.length) ++ names.map (mkG k l cs)))
    (hA : OwnsSI w5 B2 names.length (atF gs.length names names.length)) (hj : j < gs.length) (hbj : b ≤ j) {x : Int} (hx : { gs[j] with up := x } = upTo l cs gs.length gs[j]) : R4 w X B2 k l sv cs names gs b (j + 1) (.slice (some ⟨g, 0, none⟩) n cap) (w5.setCell ⟨g, j * 4 + 2, none⟩ (.int .i64 x)) := by
  have hjl : j < (upd gs b j (upTo l cs gs.length) ++ names.map (mkG k l cs)).length := by rw [List.length_append, upd_len]; omega
  obtain ⟨su, c0, c1, c2, c3, hr, hfz, hbg, hgl, hn, hst⟩ := hG.slot hjl
  obtain ⟨s1, s2, s3⟩ := hst x
  have hget : (upd gs b j (upTo l cs gs.length) ++ names.map (mkG k l cs))[j] = gs[j] := by
    have e := upd_get gs b j (upTo l cs gs.length) hj
    rw [List.getElem_append_left (by rw [upd_len]; exact hj)]
    exact (List.getElem?_eq_some_iff.1 e).2
  refine ⟨below_row hb5 s2 hb5.size hbg, block_grown s2 hX (fun g' e => by cases e; exact s3 _ (by decide) _ _), ?_, hA.kept s2 (fun e => ?_)⟩
  · rw [hget, hx, List.set_append_left _ _ (by rw [upd_len]; exact hj), upd_next gs b j _ hj hbj] at s1
    exact s1
  · obtain ⟨D, ⟨es', cl', hb, _⟩, _⟩ := hA
    injection e with e
    subst e
    obtain ⟨L, _, _, ho⟩ := hG
    exact own_not_map ho B2 rfl _ _ hb
theorem mem_names {l : Lev} {cs : List ByteArray} {i : Nat} (h : i < cs.length) : grpOf l cs[i] ∈ namesOf l cs := by
  unfold namesOf; rw [mem_sortB]; exact List.mem_map.2 ⟨_, List.getElem_mem h, rfl⟩
theorem OwnsT.zero {w : World} {base : Nat} {v : Value} {l : List ByteArray} (h : OwnsT w base v l) : OwnsT w 0 v l := by
  obtain ⟨h1, h2 | ⟨g, cap, cur, hv, hb, r⟩⟩ := h
  · exact ⟨h1, .inl h2⟩
  · exact ⟨h1, .inr ⟨g, cap, cur, hv, Nat.zero_le _, r⟩⟩
theorem R3_start {w wo W2 w3 : World} {k : Nat} {l : Lev} {sv : Value} {cs names : List ByteArray} {gs : List Grp} {vn v : Value} {base : Nat} (hB : Below w.heap.size w wo) (hG : OwnsG wo w.heap.size v gs) (h2 : R2 wo l sv cs cs.length W2) (hb3 : Below (W2.alloc (.map #[] 0)).heap.size (W2.alloc (.map #[] 0)) w3)
    (hk : KeysAre (itemsTo l cs cs.length) names) (hns : ∀ s ∈ names, s.size ≤ maxLen) (hot : OwnsT w3 base vn names) : R3 w W2 wo.heap.size W2.heap.size k l sv cs names gs vn 0 v w3 := by
  obtain ⟨q1, q2, q3⟩ := h2
  have b3 : Below W2.heap.size W2 w3 := below_ac (Below.refl _ W2) (Nat.le_refl _) hb3
  have hw := hB.size
  have hq := q1.size
  have hlt := q3.lt
  have bo : Below wo.heap.size wo w3 := q1.trans (b3.mono hq)
  refine ⟨hB.trans (bo.mono hw), (b3.block _ (Array.getElem?_eq_some_iff.1 q2).1).trans q2, b3.block _ hlt.1, ?_, fun s hs => ?_, hot.zero, ?_, ?_, by omega, by omega⟩
  · obtain ⟨D, ⟨es, cl, hb, _⟩, _⟩ := q3
    exact ⟨es, cl, hb⟩
  · obtain ⟨u, hu, hrow⟩ := q3.read s (hns s hs)
    exact ⟨u, hu, (hrow ((hk.2 s).1 hs)).below b3⟩
  · rw [List.take_zero, List.map_nil, List.append_nil]
    exact hG.below bo
  · have := (OwnsF.made (E := 3) (enc := Lit.int .i64) W2).below hb3
    have e : (fun _ : ByteArray => (none : Option Int)) = atF gs.length names 0 := by funext u; unfold atF; rw [if_neg (by simp)]
    rw [e] at this
    exact this
def R3M (w W2 : World) (X B2 : Nat) (k : Nat) (l : Lev) (sv : Value) (cs names : List ByteArray) (gs : List Grp) (vn : Value) (j : Nat) (v : Value) (w4 : World) : Prop :=
  Below w.heap.size w w4 ∧ w4.heap[X]? = some (boxL l sv) ∧ w4.heap[X + 1]? = W2.heap[X + 1]? ∧ (∀ s ∈ names, ∃ u, (∀ W : World, W.heap[X + 1]? = W2.heap[X + 1]? → (Instr.lookup 224 (.map (some (X + 1))) (.string s) false).run Tryz.prog W = .ok u W) ∧ RowI w4 u (itemsTo l cs cs.length s)) ∧
    OwnsT w4 0 vn names ∧ OwnsSI w4 B2 (j + 1) (atF gs.length names (j + 1)) ∧ w.heap.size ≤ B2 ∧ X + 1 ≠ B2 ∧ ∃ es cl, W2.heap[X + 1]? = some (.map es cl)
theorem R3_mid {w W2 w3 w4 : World} {X B2 k : Nat} {l : Lev} {sv : Value} {cs names : List ByteArray} {gs : List Grp} {vn v : Value} {j : Nat} {nm : ByteArray} (h : R3 w W2 X B2 k l sv cs names gs vn j v w3) (hj : j < names.length) (hnm : names[j] = nm) (hs : StrictB names) (hg : w3.grownBy w4 (some B2)) {y : Int} (hy : y = ((gs.length + j : Nat) : Int))
    (ho : OwnsSI w4 B2 (j + 1) (fun u => if u = nm then some y else atF gs.length names j u)) :
    ∃ gi ci, (Instr.lookup 224 (.map (some (X + 1))) (.string nm) false).run Tryz.prog w4 = .ok (.slice (some ⟨gi, 0, none⟩) (itemsTo l cs cs.length nm).length ci) w4 ∧ RowI w4 (.slice (some ⟨gi, 0, none⟩) (itemsTo l cs cs.length nm).length ci) (itemsTo l cs cs.length nm) ∧ R3M w W2 X B2 k l sv cs names gs vn j v w4 ∧
      ∃ L : List (Grp × Value), L.map Prod.fst = gs ++ (names.take j).map (mkG k l cs) ∧ (∀ p ∈ L, RowI w4 p.2 p.1.items) ∧ L.length = gs.length + j ∧ w4.ownsRow w.heap.size 114 4 v (gs.length + j) (L.flatMap gCell) := by
  subst hnm hy
  obtain ⟨s1, s2, s3, s4, s5, s6, s7⟩ := R3_store h hj hs hg ho
  obtain ⟨h1, h2, h3, hm, h4, h5, h6, h7, h8, h9⟩ := h
  obtain ⟨su, hsu, hrow⟩ := s4 names[j] (List.getElem_mem hj)
  have hrow' := hrow
  obtain ⟨gi, ci, cur, rfl, _, _⟩ := hrow'
  obtain ⟨L, hL, hLr, hLo⟩ := s6
  have hlen : L.length = gs.length + j := by
    rw [← List.length_map (f := Prod.fst), hL]; simp; omega
  exact ⟨gi, ci, hsu _ s3, hrow, ⟨s1, s2, s3, s4, s5, s7, h8, h9, hm⟩, L, hL, hLr, hlen, by rw [← hlen]; exact hLo⟩
theorem R3_last {w W2 w4 w5 : World} {X B2 k : Nat} {l : Lev} {sv : Value} {cs names : List ByteArray} {gs : List Grp} {vn v v' su : Value} {j : Nat} {nm : ByteArray} {L : List (Grp × Value)} (hj : j < names.length) (hnm : names[j] = nm) (hM : R3M w W2 X B2 k l sv cs names gs vn j v w4)
    (hL : L.map Prod.fst = gs ++ (names.take j).map (mkG k l cs)) (hLr : ∀ p ∈ L, RowI w4 p.2 p.1.items) (hlen : L.length = gs.length + j) (hLo : w4.ownsRow w.heap.size 114 4 v (gs.length + j) (L.flatMap gCell)) (hsu : RowI w4 su (itemsTo l cs cs.length nm))
    {o : Obj} (hg : (w4.alloc o).grownBy w5 v.ownBlock) (ho : w5.ownsRow w.heap.size 114 4 v' (gs.length + j + 1) (L.flatMap gCell ++ gCell (mkG k l cs nm, su))) : R3 w W2 X B2 k l sv cs names gs vn (j + 1) v' w5 := by
  subst hnm
  obtain ⟨s1, s2, s3, s4, s5, s7, h8, h9, hm⟩ := hM
  rw [← hlen] at hLo ho
  exact R3_next hj hm s1 s2 s3 s4 s5 s7 h8 h9 hL hLr hLo hsu hg ho
theorem headD_get {l : List Int} (h : 0 < l.length) : l.headD 0 = l[0] := by
  cases l with
  | nil => simp at h
  | cons x r => rfl
theorem R4_open {w w4 : World} {X B2 k : Nat} {l : Lev} {sv : Value} {cs names : List ByteArray} {gs : List Grp} {b j : Nat} {v : Value} (h : R4 w X B2 k l sv cs names gs b j v w4) (hj : j < gs.length) (hit : gs[j].items ≠ [] ∧ ∀ x ∈ gs[j].items, ∃ i : Nat, x = i ∧ i < cs.length) :
    ∃ g cap gi ci i n up, v = .slice (some ⟨g, 0, none⟩) (gs.length + names.length) cap ∧ i < cs.length ∧ (gs[j].items.headD 0).toNat = i ∧ 0 < n ∧ n ≤ cs.length + gs[j].items.length ∧ w4.cell? ⟨g, j * 4 + 3, none⟩ = some (.slice (some ⟨gi, 0, none⟩) n ci) ∧ w4.cell? ⟨gi, 0, none⟩ = some (.int .i64 ((i : Nat) : Int)) ∧
      w4.cell? ⟨g, j * 4 + 2, none⟩ = some (.int .i64 up) ∧ w4.frozen? ⟨g, j * 4 + 2, none⟩ = false ∧ g < w4.heap.size ∧ gi < w4.heap.size := by
  obtain ⟨h1, h2, h3, h4⟩ := h
  have hlen : (upd gs b j (upTo l cs gs.length) ++ names.map (mkG k l cs)).length = gs.length + names.length := by rw [List.length_append, upd_len, List.length_map]
  have hform : ∃ g cap, v = .slice (some ⟨g, 0, none⟩) (gs.length + names.length) cap := by
    obtain ⟨L, hL, _, ho⟩ := h3
    have hLl : L.length = gs.length + names.length := by rw [← List.length_map (f := Prod.fst), hL, hlen]
    rw [hLl] at ho
    exact Joins.ownsRow_form ho (by omega)
  obtain ⟨g, cap, rfl⟩ := hform
  have hjl : j < (upd gs b j (upTo l cs gs.length) ++ names.map (mkG k l cs)).length := by rw [hlen]; omega
  obtain ⟨su, c0, c1, c2, c3, hr, hfz, hbg, hgl, hn, hst⟩ := h3.slot hjl
  have hget : (upd gs b j (upTo l cs gs.length) ++ names.map (mkG k l cs))[j] = gs[j] := by
    have e := upd_get gs b j (upTo l cs gs.length) hj
    rw [List.getElem_append_left (by rw [upd_len]; exact hj)]
    exact (List.getElem?_eq_some_iff.1 e).2
  rw [hget] at hr c2
  have hr' := hr
  obtain ⟨gi, ci, cur, rfl, hh, _⟩ := hr'
  obtain ⟨hne, hall⟩ := hit
  have hpos : 0 < gs[j].items.length := List.length_pos_iff.2 hne
  have hcell := hr.cell hpos
  obtain ⟨i, hi, hil⟩ := hall _ (List.getElem_mem hpos)
  have hhd : gs[j].items.headD 0 = gs[j].items[0] := headD_get hpos
  exact ⟨g, cap, gi, ci, i, _, _, rfl, hil, by rw [hhd, hi]; rfl, hpos, by omega, c3, by rw [hcell, hi], c2, hfz _, hgl, (Array.getElem?_eq_some_iff.1 hh).1⟩
theorem R4_close {w w4 w5 : World} {X B2 k : Nat} {l : Lev} {sv : Value} {cs names : List ByteArray} {gs : List Grp} {b j g n cap i : Nat} (h : R4 w X B2 k l sv cs names gs b j (.slice (some ⟨g, 0, none⟩) n cap) w4) (hb : Below w4.heap.size w4 w5) (hj : j < gs.length) (hbj : b ≤ j) (hi : i < cs.length) (hhd : (gs[j].items.headD 0).toNat = i) (hnm : names = namesOf l cs) {nm : ByteArray} (hn : grpOf l cs[i] = nm) (hns : nm.size ≤ maxLen) :
    ∃ y, (Instr.lookup 226 (.map (some B2)) (.string nm) false).run Tryz.prog w5 = .ok (.int .i64 y) w5 ∧ R4 w X B2 k l sv cs names gs b (j + 1) (.slice (some ⟨g, 0, none⟩) n cap) (w5.setCell ⟨g, j * 4 + 2, none⟩ (.int .i64 y)) := by
  obtain ⟨h1, h2, h3, h4⟩ := h
  have hmem : nm ∈ names := by rw [hnm, ← hn]; exact mem_names hi
  have h4' := h4.below hb
  have hlk := h4'.look intLaw Tryz.underlying226 hns
  have hat : atF gs.length names names.length nm = some ((gs.length + idx nm names : Nat) : Int) := by
    unfold atF; rw [if_pos (by rw [List.take_of_length_le (Nat.le_refl _)]; exact hmem)]
  rw [hat] at hlk
  refine ⟨_, hlk, R4_next (w4 := w4) (below_c h1 h1.size hb) ((hb.block _ (Array.getElem?_eq_some_iff.1 h2).1).trans h2) (h3.below hb) h4' hj hbj ?_⟩
  have hgd : cs.getD i ⟨#[]⟩ = cs[i] := by rw [List.getD_eq_getElem?_getD, List.getElem?_eq_getElem hi]; rfl
  unfold upTo
  rw [hhd, hgd, hn, hnm]
  rfl
theorem R4_done {w w4 : World} {X B2 k : Nat} {l : Lev} {sv : Value} {cs names : List ByteArray} {st : List Grp × Nat × Nat} {b : Nat} {v : Value} (h : R4 w X B2 k l sv cs names st.1 b st.1.length v w4) (hnm : names = namesOf l cs) (hb : b = st.2.1) (hle : st.2.1 ≤ st.1.length) (hk : st.2.2 = k) : OwnsG w4 w.heap.size v (gStep cs st l).1 := by
  obtain ⟨h1, h2, h3, h4⟩ := h
  subst hb hk hnm
  rw [upd_end _ _ _ hle] at h3
  exact h3
end Go.Proofs.YtojedplbhialpaaGreatDoor

/-! SF -/
namespace Go.Proofs.YtojedplbhialpaaGreatDoor
open Go.RowKit
set_option linter.unusedVariables false
set_option maxRecDepth 100000
def GroupsPost (ls : List Lev) (cs : List ByteArray) (w : World) (gs : List Grp) (err : Int) (e : Ending) (w' : World) : Prop :=
  ∃ v, e = .returned (.tuple #[v, .int .i64 err]) ∧ Below w.heap.size w w' ∧ OwnsG w' w.heap.size v gs
theorem OwnsT.form {w : World} {base : Nat} {v : Value} {l : List ByteArray} (h : OwnsT w base v l) : ∃ a cap, v = .slice a l.length cap := by
  rcases Joins.ownsRow_forms h with ⟨rfl, hp⟩ | ⟨g, cap, rfl⟩
  · exact ⟨none, 0, by rw [hp]⟩
  · exact ⟨_, cap, rfl⟩
theorem OwnsT.at {w : World} {base : Nat} {a : Option Addr} {n cap : Nat} {l : List ByteArray} (h : OwnsT w base (.slice a n cap) l) {j : Nat} (hj : j < l.length) : ∃ g, a = some ⟨g, 0, none⟩ ∧ g < w.heap.size ∧ w.cell? ⟨g, j, none⟩ = some (.string l[j]) ∧ n = l.length := by
  rcases Joins.ownsRow_forms h with ⟨_, hp⟩ | ⟨g, cap', e⟩
  · omega
  · injection e with e1 e2 e3
    subst e1 e2 e3
    exact ⟨g, rfl, (h.lt g rfl).2, owns_cell h hj, rfl⟩
theorem sorted_call2 {W2 : World} {o : Obj} {base B n : Nat} {G : ByteArray → List Int} (h : GrpsF W2 base B n G) (hn : n ≤ 100000) :
    Calls Tryz.prog 174 #[.func (.func 210) #[] #[.pointer (some ⟨W2.heap.size + 1, 0, none⟩)]] ((W2.alloc o).alloc (.cells #[.map (some B)] 224)) fun e w' => ∃ v names, e = .returned v ∧ KeysAre G names ∧ names.length ≤ n ∧ (∀ s ∈ names, s.size ≤ maxLen) ∧ OwnsT w' (W2.heap.size + 2) v names ∧ Below (W2.alloc o).heap.size (W2.alloc o) w' := by
  have := sorted_call (w := W2.alloc o) (h.below ((Below.refl _ W2).alloc (Nat.le_refl _) _)) hn
  have e : (W2.alloc o).heap.size = W2.heap.size + 1 := by simp
  rw [e] at this
  rw [e]
  exact this
set_option maxHeartbeats 16000000 in
theorem groups_main (ls : List Lev) (v vc : Value) (cs : List ByteArray) (w : World) (hr : RdLevs w v ls) (hf : ∀ l ∈ ls, LevFits l) (hri : rightB ls = true) (hrc : ReadsT w vc cs) (hc2 : cs.length ≤ 2000) (hcode : ∀ c ∈ cs, codeB c = true) (hpre : ∀ c ∈ cs, ∀ h : 0 < ls.length, ls[0].pre ≤ c.size) :
    Calls Tryz.prog 101 #[v, vc] w (GroupsPost ls cs w (gTo ls cs ls.length).1 0) := by
  obtain ⟨hl1, hl6⟩ := right_len hri
  have hmm := @run_makeMap Tryz.prog
  have HR := Lib.hid (fun W (h : Below w.heap.size w W) => right_any ls v W (hr.below h) hf (by unfold maxLen; omega))
  have HC1 : Hid (∀ W, Below w.heap.size w W → Calls Tryz.prog 169 #[vc, .func (.func 170) #[] #[]] W fun e w' => e = .returned (.bool false) ∧ Below W.heap.size W w') := fun W hW => by
    refine (contains1_any cs vc (fun c => !codeB c) W (hrc.below hW) (by omega) (fun W' _ s hs => groups1_any s W' (by have := codeB_size (hcode s hs); unfold maxLen; omega))).mono ?_
    rintro e w' ⟨rfl, hb⟩
    refine ⟨ret_bool ?_, hb⟩
    rw [List.any_eq_false]
    intro c hc
    rw [hcode c hc]; simp
  obtain ⟨a, cap, rfl, hc⟩ := hr
  obtain ⟨g, off, rfl, hg, hcc⟩ := hc (by omega)
  have HCC := Lib.hid hcc
  have HF := Lib.hid hf
  obtain ⟨sv0, _, hat0⟩ := hcc 0 (by omega)
  have hp0 : w.cell? ⟨g, off + 1, none⟩ = some (.int .i64 (ls[0]'(by omega)).pre) := by simpa using hat0.2.1
  have HC2 : Hid (∀ W, Below w.heap.size w W → W.cell? ⟨w.heap.size, 0, none⟩ = some (.slice (some ⟨g, off, none⟩) ls.length cap) → w.heap.size < W.heap.size → Calls Tryz.prog 169 #[vc, .func (.func 172) #[] #[.pointer (some ⟨w.heap.size, 0, none⟩)]] W fun e w' => e = .returned (.bool false) ∧ Below W.heap.size W w') := fun W hW hx hz => by
    refine (contains2_any cs vc w.heap.size (fun c => decide ((c.size : Int) < (ls[0]'(by omega)).pre)) W (hrc.below hW) (by omega) (fun W' hW' s hs => ?_)).mono ?_
    · refine (groups2_any s g off ls.length cap w.heap.size (ls[0]'(by omega)).pre W' ((hW'.cell (p := ⟨w.heap.size, 0, none⟩) hz).trans hx) (by omega) (by omega) (((hW'.cell (p := ⟨g, off + 1, none⟩) (by have := hW.size; show g < _; omega)).trans (hW.cell (p := ⟨g, off + 1, none⟩) hg)).trans hp0) (by have := codeB_size (hcode s hs); unfold maxLen; omega)).mono ?_
      rintro e w' ⟨rfl, rfl⟩
      exact ⟨rfl, Below.refl _ _⟩
    · rintro e w' ⟨rfl, hb⟩
      refine ⟨ret_bool ?_, hb⟩
      rw [List.any_eq_false]
      intro c hc
      have := hpre c hc (by omega)
      simp
      omega
  obtain ⟨ac, capc, rfl, hcx⟩ := hrc
  have HX := Lib.hid hcx
  have HCO := Lib.hid hcode
  have HPR := Lib.hid hpre
  have HLV := Lib.hid (right_level hri)
  have HMO := Lib.hid (right_mono hri)
  rw [hri] at HR
  obtain ⟨i0, hi⟩ := info_parts Tryz.infoG
  have HI := Lib.hid hi
  obtain ⟨j0, hj⟩ := info_parts Tryz.infoI
  have HJ := Lib.hid hj
  clear hi hj hcx hcode hpre hri hc hcc hat0 hf hp0
  go_enter Tryz.func101, Tryz.ntmps101
  go_wp2_with (first
    | (go_at_call 51; refine (HR.out _ ((Below.refl _ w).alloc (Nat.le_refl _) _)).mono ?_; rintro e w1 ⟨rfl, hb1⟩; have hB1 := below_ac (Below.refl _ w) (Nat.le_refl _) hb1; have hx1 : w1.cell? ⟨w.heap.size, 0, none⟩ = some (.slice (some ⟨g, off, none⟩) ls.length cap) := (hb1.cell (p := ⟨w.heap.size, 0, none⟩) (by simp)).trans (by simp [go_sem]); have hz1 : w.heap.size < w1.heap.size := Nat.lt_of_lt_of_le (by simp) hb1.size; clear hb1)
    | (go_at_call 169; refine (HC1.out _ hB1).mono ?_; rintro e w2 ⟨rfl, hb2⟩; replace hx1 := (hb2.cell (p := ⟨w.heap.size, 0, none⟩) hz1).trans hx1; replace hB1 := below_c hB1 hB1.size hb2; replace hz1 := Nat.lt_of_lt_of_le hz1 hb2.size; clear hb2 HC1)
    | (go_at_call 169; refine (HC2.out _ hB1 hx1 hz1).mono ?_; rintro e w3 ⟨rfl, hb3⟩; replace hx1 := (hb3.cell (p := ⟨w.heap.size, 0, none⟩) hz1).trans hx1; replace hB1 := below_c hB1 hB1.size hb3; clear hb3))
  go_loopw [6, 7, 34] (fun v b i wr => ∃ k : Nat, k ≤ ls.length ∧ i = .int .i64 k ∧ b = .int .i64 ((gTo ls cs k).2.1 : Nat) ∧ Below w.heap.size w wr ∧ OwnsG wr w.heap.size v (gTo ls cs k).1) (fun _ _ i _ => ls.length - (intOf i).toNat)
  case atStart => exact ⟨0, Nat.zero_le _, rfl, rfl, hB1, OwnsG.nil _ _⟩
  case round =>
    clear hB1 hx1 hz1
    obtain ⟨k, hk, rfl, rfl, hB, hG⟩ := hrel
    by_cases hlt : k < ls.length
    · obtain ⟨ga, gcap, rfl⟩ := hG.len
      obtain ⟨wo, hwo⟩ : ∃ wo : World, wo = wr := ⟨_, rfl⟩
      rw [← hwo] at hB hG ⊢
      clear hwo
      obtain ⟨sv, hlab, hat⟩ := HCC.out k hlt
      obtain ⟨r1, r2, r3, r4⟩ := HLV.out k hlt
      have HGR : Hid (∀ W, Below w.heap.size w W → ∀ c ∈ cs, Calls Tryz.prog 173 #[lvA ls[k] sv, .string c] W fun e w' => e = .returned (.string (grpOf ls[k] c)) ∧ Below W.heap.size W w') := fun W hW c hc =>
        group_any ls[k] c sv W (HF.out _ (List.getElem_mem hlt)) (hlab.below hW) r1 r3 (by have := HMO.out k hlt; have := HPR.out c hc (by omega); omega) (by have := codeB_size (HCO.out c hc); unfold maxLen; omega)
      have HSZ : Hid (∀ c ∈ cs, (grpOf ls[k] c).size ≤ maxLen) := fun c hc => grp_size (HF.out _ (List.getElem_mem hlt)) (by have := codeB_size (HCO.out c hc); unfold maxLen; omega)
      have HGT := Lib.hid (gTo_succ ls cs k hlt)
      have HIX := Lib.hid (gTo_idx ls cs k hk)
      obtain ⟨hln1, hln2⟩ := gTo_len ls cs k hk
      have HIT := Lib.hid (gTo_items ls cs k hk)
      obtain ⟨st, hst⟩ : ∃ st, gTo ls cs k = st := ⟨_, rfl⟩
      rw [hst] at hG HGT HIX hln1 hln2 HIT ⊢
      clear hst
      have hgsl : st.1.length ≤ 12000 := Nat.le_trans hln1 (Nat.le_trans (Nat.mul_le_mul (show k ≤ 6 by omega) hc2) (by decide))
      clear hln1
      obtain ⟨la, lc, rfl, _⟩ := hlab
      have hgr : g < wo.heap.size := Nat.lt_of_lt_of_le hg hB.size
      obtain ⟨t0, t1, t2, t3, t4⟩ := hat.below hB hg
      clear hat r1 r2 r3 r4
      unfold lvA at HGR
      generalize ls[k] = l at t0 t1 t2 t3 t4 HGR HSZ HGT
      have hwo := hB.size
      go_wp2_with fail
      go_loopw [42] (fun i w2 => ∃ j : Nat, j ≤ cs.length ∧ i = .int .i64 j ∧ R2 wo l (.slice la l.labs.length lc) cs j w2) (fun i _ => cs.length - (intOf i).toNat)
      case atStart => exact ⟨0, Nat.zero_le _, rfl, R2_start wo l _ cs⟩
      case round =>
        clear t0 t1 t2 t3 t4
        obtain ⟨j, hj, rfl, hR2⟩ := hrel
        by_cases hjl : j < cs.length
        · clear hmm
          obtain ⟨gc, oc, rfl, hgc, hccx⟩ := HX.out (by omega)
          have hR2' := hR2
          obtain ⟨q1, q2, q3⟩ := hR2'
          have bw : Below w.heap.size w wr := hB.trans (q1.mono hB.size)
          have cj : wr.cell? ⟨gc, oc + j, none⟩ = some (.string cs[j]) := (bw.cell (p := ⟨gc, oc + j, none⟩) hgc).trans (hccx j hjl)
          obtain ⟨x0, x1, x2, x3, x4⟩ := box_of q2
          have hgd : cs.getD j ⟨#[]⟩ = cs[j] := by rw [List.getD_eq_getElem?_getD, List.getElem?_eq_getElem hjl]; rfl
          have HGD := Lib.hid hgd
          have H1 := Lib.hid (HGR.out wr bw cs[j] (List.getElem_mem hjl))
          have hsz := HSZ.out cs[j] (List.getElem_mem hjl)
          have HR2 := Lib.hid hR2
          have HQ3 := Lib.hid q3
          clear hR2 q2 hgd HX hccx q3
          generalize cs[j] = c at cj HGD H1 hsz
          have hwq := q1.size
          have HQ1 := Lib.hid q1
          clear q1
          go_wp2_with (first
            | (go_at_call 173; refine H1.out.mono ?_; rintro e w3 ⟨rfl, hb3⟩; obtain ⟨v3, hrun, hoi, hlen, hback⟩ := (HQ3.out.below hb3).at (by unfold maxLen; omega) hsz; have HBK := Lib.hid hback; have hz3 := hb3.size; clear hback)
            | (at_builtin; refine wpList_append_own_at _ rfl _ _ 30 rfl (wo.heap.size + 2) 3 j0 (.int .i64 0) 1 8 Tryz.underlying30 HJ.out.1 HJ.out.2.1 HJ.out.2.2.1 HJ.out.2.2.2 rfl (by decide) _ _ _ rfl (hoi.1.alloc _) ⟨w3.heap.size, 0, none⟩ 1 1 [.int .i64 (j : Int)] rfl rfl (cell_one_new _ _ _) (by simp [Value.oneCell']) (by unfold maxLen; omega) (by omega) (by have := HQ3.out.lt; simp; omega) ?_; intro v' w4 hown' hgrow hnil hloc; obtain ⟨w5, hrun5, ho5, hg5⟩ := HBK.out w4 v' j ((World.grownBy_alloc _ _ _).trans hgrow) (hoi.appended hown' (WalkArith.wf_i64 (by omega))) (hloc.imp id (fun h => ⟨_, h, by simp⟩))))
          go_roundw
          case rel => exact ⟨j + 1, by omega, by go_num, R2_next HGD.out HR2.out hb3 hoi ((World.grownBy_alloc _ _ _).trans hgrow) hg5 ho5⟩
          case measure => simp [intOf]; omega
        · obtain ⟨W2, hW2⟩ : ∃ W2 : World, W2 = wr := ⟨_, rfl⟩
          rw [← hW2] at hR2 ⊢
          clear hW2
          have hje : j = cs.length := by omega
          have hR2 : R2 wo l (.slice la l.labs.length lc) cs cs.length W2 := hje ▸ hR2
          have HR2 := Lib.hid hR2
          have q3 := hR2.2.2
          clear hR2
          go_wp2_with (first
            | (go_at_call 175; refine (keys_call _ _).mono ?_; rintro e w' ⟨rfl, rfl⟩)
            | (go_at_call 174; refine (sorted_call2 q3 (by omega)).mono ?_; rintro e w3 ⟨vn, names, rfl, hky, hnl, hns, hot, hb3⟩; obtain ⟨an, capn, rfl⟩ := OwnsT.form hot))
          clear q3
          have hstr := hky.1
          have HNM := Lib.hid (keys_names hky)
          have HR3 := Lib.hid (R3_start (k := k) hB hG HR2.out hb3 hky hns hot)
          have HNS := Lib.hid hns
          have HSTR := Lib.hid hstr
          clear hky hns hot hb3 hstr hmm
          go_loopw [6, 66] (fun v i w3 => ∃ j : Nat, j ≤ names.length ∧ i = .int .i64 j ∧ R3 w W2 wo.heap.size W2.heap.size k l (.slice la l.labs.length lc) cs names st.1 (.slice an names.length capn) j v w3) (fun _ i _ => names.length - (intOf i).toNat)
          case atStart => exact ⟨0, Nat.zero_le _, rfl, HR3.out⟩
          case round =>
            clear HR3
            obtain ⟨j, hj3, rfl, hR3⟩ := hrel
            by_cases hjn : j < names.length
            · have hG3 := hR3.2.2.2.2.2.2.1
              obtain ⟨a3, cap3, hv3⟩ := hG3.len
              have hl3 : (st.1 ++ (names.take j).map (mkG k l cs)).length = st.1.length + j := by simp; omega
              rw [hl3] at hv3
              subst hv3
              clear hl3 hG3
              obtain ⟨gn, hgn, hgn2, cn, _⟩ := OwnsT.at hR3.2.2.2.2.2.1 hjn
              subst hgn
              have hnz := HNS.out _ (List.getElem_mem hjn)
              obtain ⟨nm, hnm⟩ : ∃ nm, names[j] = nm := ⟨_, rfl⟩
              rw [hnm] at cn hnz
              have HNJ := Lib.hid hnm
              clear hnm
              have h7 := hR3.2.2.2.2.2.2.2.1
              have HR3 := Lib.hid hR3
              have hw3 := hR3.1.size
              clear hR3
              go_wp2_with (first
                | (at_mapUpdate; refine wpList_update_F intLaw _ rfl _ _ _ 226 rfl Tryz.underlying226 W2.heap.size j _ rfl h7 (by unfold maxLen; omega) nm hnz rfl _ (WalkArith.wf_i64 (by omega)) rfl ?_; intro w4 ho4 hg4; obtain ⟨gi, ci, hrun, hrow, hM, L, hL, hLr, hLl, hLo⟩ := R3_mid HR3.out hjn HNJ.out HSTR.out hg4 (by first | rfl | simp) ho4; have HM := Lib.hid hM; have HL := Lib.hid hL; have HLR := Lib.hid hLr; have HROW := Lib.hid hrow; have HLL := Lib.hid hLl; have hw4 := hM.1.size; clear hM hL hLr hrow hLl ho4 hg4 h7)
                | (at_builtin; refine wpList_append_own _ rfl _ _ 110 rfl w.heap.size 114 i0 (.agg #[.int .i64 0, .string ⟨#[]⟩, .int .i64 0, .slice none 0 0]) 4 56 Tryz.underlying110 HI.out.1 HI.out.2.1 HI.out.2.2.1 HI.out.2.2.2 rfl (by decide) _ _ _ rfl (hLo.alloc _) ⟨w4.heap.size, 0, none⟩ 1 1 (gCell (mkG k l cs nm, .slice (some ⟨gi, 0, none⟩) (itemsTo l cs cs.length nm).length ci)) rfl rfl (cells_new _ _ _) (by simp [Value.oneCell', gCell]) (by unfold maxLen; omega) (by omega) (by simp; omega) ?_; intro v' w5 hown' hgrow _))
              go_roundw
              case rel => exact ⟨j + 1, by omega, by go_num, R3_last hjn HNJ.out HM.out HL.out HLR.out HLL.out hLo HROW.out hgrow hown'⟩
              case measure => simp [intOf]; omega
            · have hR4 : R4 w wo.heap.size W2.heap.size k l (.slice la l.labs.length lc) cs names st.1 st.2.1 st.2.1 _ wr := R4_start hR3 (by omega)
              clear hR3
              go_wp2_with fail
              go_loopw [18] (fun i w4 => ∃ j : Nat, st.2.1 ≤ j ∧ j ≤ st.1.length ∧ i = .int .i64 j ∧ R4 w wo.heap.size W2.heap.size k l (.slice la l.labs.length lc) cs names st.1 st.2.1 j u6 w4) (fun i _ => st.1.length - (intOf i).toNat)
              case atStart => exact ⟨st.2.1, Nat.le_refl _, hln2, rfl, hR4⟩
              case round =>
                clear hR4
                obtain ⟨j, hj1, hj2, rfl, hR4⟩ := hrel
                by_cases hjs : j < st.1.length
                · obtain ⟨g4, cap4, gi, ci, i, n, up, hv, hil, hhd, hn0, hnl, c3, ci0, c2, fz, hg4, hgi⟩ := R4_open hR4 hjs (HIT.out _ (List.getElem_mem hjs))
                  subst hv
                  obtain ⟨gc, oc, rfl, hgc, hccx⟩ := HX.out (by omega)
                  have cj : wr.cell? ⟨gc, oc + i, none⟩ = some (.string cs[i]) := (hR4.1.cell (p := ⟨gc, oc + i, none⟩) hgc).trans (hccx i hil)
                  obtain ⟨x0, x1, x2, x3, x4⟩ := box_of hR4.2.1
                  have hww := hR4.1.size
                  have HCL : Hid (∀ W, Below wr.heap.size wr W → Calls Tryz.prog 173 #[.agg #[.string l.name, .int .i64 l.pre, .slice la l.labs.length lc, .int .i64 l.min, .int .i64 l.cents], .string cs[i]] W fun e w5 => ∃ nm y, e = .returned (.string nm) ∧ (Instr.lookup 226 (.map (some W2.heap.size)) (.string nm) false).run Tryz.prog w5 = .ok (.int .i64 y) w5 ∧
                      R4 w wo.heap.size W2.heap.size k l (.slice la l.labs.length lc) cs names st.1 st.2.1 (j + 1) (.slice (some ⟨g4, 0, none⟩) (st.1.length + names.length) cap4) (w5.setCell ⟨g4, j * 4 + 2, none⟩ (.int .i64 y)) ∧ w5.cell? ⟨g4, j * 4 + 2, none⟩ = some (.int .i64 up) ∧ w5.frozen? ⟨g4, j * 4 + 2, none⟩ = false) := fun W hW => by
                    refine (HGR.out W (below_c hR4.1 hR4.1.size hW) cs[i] (List.getElem_mem hil)).mono ?_
                    rintro e w5 ⟨rfl, hb5⟩
                    have hb := below_c hW hW.size hb5
                    obtain ⟨y, hy1, hy2⟩ := R4_close hR4 hb hjs hj1 hil hhd HNM.out rfl (HSZ.out _ (List.getElem_mem hil))
                    exact ⟨_, y, rfl, hy1, hy2, (hb.cell (p := ⟨g4, _, none⟩) hg4).trans c2, (hb.frozen (p := ⟨g4, _, none⟩) hg4).trans fz⟩
                  clear HGR HSZ HX hccx hR4 hhd hnl
                  generalize cs[i] = c at cj HCL
                  go_wp2_with fail
                  go_region_with (go_at_call 173; refine (HCL.out _ (Below.refl _ wr).drew).mono ?_; rintro e w5 ⟨nm, y, rfl, hlk5, hR5, d2, dz⟩; have HR5 := Lib.hid hR5; clear hR5)
                  all_goals
                    go_wp2_with fail
                    go_roundw
                    case rel => exact ⟨j + 1, by omega, by omega, by go_num, HR5.out⟩
                    case measure => simp [intOf]; omega
                · have HOW : Hid (OwnsG wr w.heap.size u6 (gTo ls cs (k + 1)).1) := by
                    rw [HGT.out]
                    obtain rfl : j = st.1.length := by omega
                    exact R4_done hR4 HNM.out rfl hln2 HIX.out
                  have HBE : Hid (Value.int .i64 (st.1.length : Int) = .int .i64 ((gTo ls cs (k + 1)).2.1 : Nat)) := by rw [HGT.out]; exact rfl
                  have hBB := hR4.1
                  clear hR4
                  go_wp2_with fail
                  go_roundw
                  case rel => exact ⟨k + 1, by omega, by go_num, HBE.out, hBB, HOW.out⟩
                  case measure => simp [intOf]; omega
    · have HE : Hid (OwnsG wr w.heap.size u6 (gTo ls cs ls.length).1) := by
        have e : k = ls.length := by omega
        rw [e] at hG
        exact hG
      clear hG
      go_wp2_with fail
      go_ret2
      exact ⟨_, rfl, hB, HE.out⟩
end Go.Proofs.YtojedplbhialpaaGreatDoor

/-! SG -/
namespace Go.Proofs.YtojedplbhialpaaGreatDoor
open Go.RowKit
set_option linter.unusedVariables false
set_option maxRecDepth 100000
def shortB (ls : List Lev) (c : ByteArray) : Bool := match ls with | [] => false | l :: _ => decide ((c.size : Int) < l.pre)
open Classical in
noncomputable def groupsR (ls : List Lev) (cs : List ByteArray) : List Grp × Int :=
  if 2000 < cs.length then ([], 5) else if rightB ls = true ∧ (∀ c ∈ cs, codeB c = true) then (if cs.any (shortB ls) then ([], 6) else ((gTo ls cs ls.length).1, 0)) else ([], 2)
theorem shortB_eq {ls : List Lev} (h : 0 < ls.length) (c : ByteArray) : shortB ls c = decide ((c.size : Int) < ls[0].pre) := by
  cases ls with
  | nil => simp at h
  | cons l r => rfl
set_option maxHeartbeats 4000000 in
theorem groups_any (ls : List Lev) (v vc : Value) (cs : List ByteArray) (w : World) (hr : RdLevs w v ls) (hf : ∀ l ∈ ls, LevFits l) (hl : ls.length ≤ maxLen) (hrc : ReadsT w vc cs) (hcl : cs.length ≤ maxLen) (hcz : ∀ c ∈ cs, c.size ≤ maxLen) :
    Calls Tryz.prog 101 #[v, vc] w (GroupsPost ls cs w (groupsR ls cs).1 (groupsR ls cs).2) := by
  unfold maxLen at hcl hl
  by_cases h2 : 2000 < cs.length
  · have e : groupsR ls cs = ([], 5) := by unfold groupsR; rw [if_pos h2]
    rw [e]
    obtain ⟨a, cap, rfl, _⟩ := hr
    obtain ⟨ac, capc, rfl, _⟩ := hrc
    clear e hf hcz
    go_enter Tryz.func101, Tryz.ntmps101
    go_wp2_with fail
    go_ret2
    exact ⟨_, rfl, (Below.refl _ w).alloc (Nat.le_refl _) _, OwnsG.nil _ _⟩
  · cases hri : rightB ls
    · have e : groupsR ls cs = ([], 2) := by unfold groupsR; rw [if_neg h2, if_neg (by simp [hri])]
      rw [e]
      have HR := Lib.hid (fun W (h : Below w.heap.size w W) => right_any ls v W (hr.below h) hf hl)
      rw [hri] at HR
      obtain ⟨a, cap, rfl, _⟩ := hr
      obtain ⟨ac, capc, rfl, _⟩ := hrc
      clear e hf hcz hri
      go_enter Tryz.func101, Tryz.ntmps101
      go_wp2_with (go_at_call 51; refine (HR.out _ ((Below.refl _ w).alloc (Nat.le_refl _) _)).mono ?_; rintro e w1 ⟨rfl, hb1⟩)
      go_ret2
      exact ⟨_, rfl, below_ac (Below.refl _ w) (Nat.le_refl _) hb1, OwnsG.nil _ _⟩
    · obtain ⟨hl1, hl6⟩ := right_len hri
      have HR := Lib.hid (fun W (h : Below w.heap.size w W) => right_any ls v W (hr.below h) hf hl)
      rw [hri] at HR
      have HC1 : Hid (∀ W, Below w.heap.size w W → Calls Tryz.prog 169 #[vc, .func (.func 170) #[] #[]] W fun e w' => e = .returned (.bool (cs.any (fun c => !codeB c))) ∧ Below W.heap.size W w') := fun W hW =>
        contains1_any cs vc (fun c => !codeB c) W (hrc.below hW) (by omega) (fun W' _ s hs => groups1_any s W' (hcz s hs))
      by_cases hco : ∀ c ∈ cs, codeB c = true
      · cases hsh : cs.any (shortB ls)
        · have e : groupsR ls cs = ((gTo ls cs ls.length).1, 0) := by unfold groupsR; rw [if_neg h2, if_pos ⟨hri, hco⟩, hsh]; rfl
          rw [e]
          refine groups_main ls v vc cs w hr hf hri hrc (by omega) hco (fun c hc h => ?_)
          rw [List.any_eq_false] at hsh
          have := hsh c hc
          rw [shortB_eq h] at this
          simpa using this
        · have e : groupsR ls cs = ([], 6) := by unfold groupsR; rw [if_neg h2, if_pos ⟨hri, hco⟩, hsh]; rfl
          rw [e]
          have hany : cs.any (fun c => !codeB c) = false := by
            rw [List.any_eq_false]
            intro c hc
            rw [hco c hc]; simp
          rw [hany] at HC1
          obtain ⟨a, cap, rfl, hc⟩ := hr
          obtain ⟨g, off, rfl, hg, hcc⟩ := hc (by omega)
          obtain ⟨sv0, _, hat0⟩ := hcc 0 (by omega)
          have hp0 : w.cell? ⟨g, off + 1, none⟩ = some (.int .i64 (ls[0]'(by omega)).pre) := by simpa using hat0.2.1
          have HC2 : Hid (∀ W, Below w.heap.size w W → W.cell? ⟨w.heap.size, 0, none⟩ = some (.slice (some ⟨g, off, none⟩) ls.length cap) → w.heap.size < W.heap.size → Calls Tryz.prog 169 #[vc, .func (.func 172) #[] #[.pointer (some ⟨w.heap.size, 0, none⟩)]] W fun e w' => e = .returned (.bool true) ∧ Below W.heap.size W w') := fun W hW hx hz => by
            refine (contains2_any cs vc w.heap.size (shortB ls) W (hrc.below hW) (by omega) (fun W' hW' s hs => ?_)).mono ?_
            · refine (groups2_any s g off ls.length cap w.heap.size (ls[0]'(by omega)).pre W' ((hW'.cell (p := ⟨w.heap.size, 0, none⟩) hz).trans hx) (by omega) (by omega) (((hW'.cell (p := ⟨g, off + 1, none⟩) (by have := hW.size; show g < _; omega)).trans (hW.cell (p := ⟨g, off + 1, none⟩) hg)).trans hp0) (hcz s hs)).mono ?_
              rintro e w' ⟨rfl, rfl⟩
              exact ⟨ret_bool (shortB_eq (by omega) s).symm, Below.refl _ _⟩
            · rintro e w' ⟨rfl, hb⟩
              exact ⟨ret_bool hsh, hb⟩
          obtain ⟨ac, capc, rfl, _⟩ := hrc
          clear e hf hcz hri hco hsh hany hcc hat0 hp0 hc
          go_enter Tryz.func101, Tryz.ntmps101
          go_wp2_with (first
            | (go_at_call 51; refine (HR.out _ ((Below.refl _ w).alloc (Nat.le_refl _) _)).mono ?_; rintro e w1 ⟨rfl, hb1⟩; have hB1 := below_ac (Below.refl _ w) (Nat.le_refl _) hb1; have hx1 : w1.cell? ⟨w.heap.size, 0, none⟩ = some (.slice (some ⟨g, off, none⟩) ls.length cap) := (hb1.cell (p := ⟨w.heap.size, 0, none⟩) (by simp)).trans (by simp [go_sem]); have hz1 : w.heap.size < w1.heap.size := Nat.lt_of_lt_of_le (by simp) hb1.size; clear hb1)
            | (go_at_call 169; refine (HC1.out _ hB1).mono ?_; rintro e w2 ⟨rfl, hb2⟩; replace hx1 := (hb2.cell (p := ⟨w.heap.size, 0, none⟩) hz1).trans hx1; replace hB1 := below_c hB1 hB1.size hb2; replace hz1 := Nat.lt_of_lt_of_le hz1 hb2.size; clear hb2 HC1)
            | (go_at_call 169; refine (HC2.out _ hB1 hx1 hz1).mono ?_; rintro e w3 ⟨rfl, hb3⟩; replace hB1 := below_c hB1 hB1.size hb3; clear hb3))
          go_ret2
          exact ⟨_, rfl, hB1, OwnsG.nil _ _⟩
      · have e : groupsR ls cs = ([], 2) := by unfold groupsR; rw [if_neg h2, if_neg (fun h => hco h.2)]
        rw [e]
        have hany : cs.any (fun c => !codeB c) = true := by
          rw [List.any_eq_true]
          obtain ⟨c, hc⟩ := Classical.not_forall.1 hco
          obtain ⟨hc1, hc2⟩ := Classical.not_imp.1 hc
          exact ⟨c, hc1, by simpa using hc2⟩
        rw [hany] at HC1
        obtain ⟨a, cap, rfl, _⟩ := hr
        obtain ⟨ac, capc, rfl, _⟩ := hrc
        clear e hf hcz hri hco hany
        go_enter Tryz.func101, Tryz.ntmps101
        go_wp2_with (first
          | (go_at_call 51; refine (HR.out _ ((Below.refl _ w).alloc (Nat.le_refl _) _)).mono ?_; rintro e w1 ⟨rfl, hb1⟩; have hB1 := below_ac (Below.refl _ w) (Nat.le_refl _) hb1; clear hb1)
          | (go_at_call 169; refine (HC1.out _ hB1).mono ?_; rintro e w2 ⟨rfl, hb2⟩; replace hB1 := below_c hB1 hB1.size hb2; clear hb2))
        go_ret2
        exact ⟨_, rfl, hB1, OwnsG.nil _ _⟩
end Go.Proofs.YtojedplbhialpaaGreatDoor

/-! SH -/
namespace Go.Proofs.YtojedplbhialpaaGreatDoor
open Go.RowKit
set_option linter.unusedVariables false
set_option maxRecDepth 100000
def RdInts (w : World) (v : Value) (zs : List Int) : Prop :=
  ∃ a cap, v = .slice a zs.length cap ∧ (0 < zs.length → ∃ g off, a = some ⟨g, off, none⟩ ∧ g < w.heap.size ∧ ∀ i (h : i < zs.length), w.cell? ⟨g, off + i, none⟩ = some (.int .i64 zs[i]))
theorem RdInts.below {w w' : World} {v : Value} {zs : List Int} (h : RdInts w v zs) (hb : Below w.heap.size w w') : RdInts w' v zs := by
  obtain ⟨a, cap, hv, hc⟩ := h
  exact ⟨a, cap, hv, fun h0 => by
    obtain ⟨g, off, ha, hg, hcc⟩ := hc h0
    exact ⟨g, off, ha, Nat.lt_of_lt_of_le hg hb.size, fun i h => (hb.cell (p := ⟨g, off + i, none⟩) hg).trans (hcc i h)⟩⟩
theorem RdInts.of_row {w : World} {v : Value} {zs : List Int} (h : RowI w v zs) : RdInts w v zs := by
  have h' := h
  obtain ⟨g, cap, cur, rfl, hh, ht⟩ := h'
  exact ⟨_, cap, rfl, fun _ => ⟨g, 0, rfl, (Array.getElem?_eq_some_iff.1 hh).1, fun i hi => by rw [Nat.zero_add]; exact h.cell hi⟩⟩
def GrpAt (w : World) (g o : Nat) (x : Grp) (sv : Value) : Prop :=
  w.cell? ⟨g, o, none⟩ = some (.int .i64 x.lvl) ∧ w.cell? ⟨g, o + 1, none⟩ = some (.string x.name) ∧ w.cell? ⟨g, o + 2, none⟩ = some (.int .i64 x.up) ∧ w.cell? ⟨g, o + 3, none⟩ = some sv
def RdGrps (w : World) (v : Value) (gs : List Grp) : Prop :=
  ∃ a cap, v = .slice a gs.length cap ∧ (0 < gs.length → ∃ g off, a = some ⟨g, off, none⟩ ∧ g < w.heap.size ∧ ∀ i (h : i < gs.length), ∃ sv, RdInts w sv gs[i].items ∧ GrpAt w g (off + i * 4) gs[i] sv)
theorem GrpAt.below {w w' : World} {g o : Nat} {x : Grp} {sv : Value} {B : Nat} (h : GrpAt w g o x sv) (hb : Below B w w') (hg : g < B) : GrpAt w' g o x sv :=
  ⟨(hb.cell (p := ⟨g, o, none⟩) hg).trans h.1, (hb.cell (p := ⟨g, o + 1, none⟩) hg).trans h.2.1, (hb.cell (p := ⟨g, o + 2, none⟩) hg).trans h.2.2.1, (hb.cell (p := ⟨g, o + 3, none⟩) hg).trans h.2.2.2⟩
theorem RdGrps.below {w w' : World} {v : Value} {gs : List Grp} (h : RdGrps w v gs) (hb : Below w.heap.size w w') : RdGrps w' v gs := by
  obtain ⟨a, cap, hv, hc⟩ := h
  exact ⟨a, cap, hv, fun h0 => by
    obtain ⟨g, off, ha, hg, hcc⟩ := hc h0
    exact ⟨g, off, ha, Nat.lt_of_lt_of_le hg hb.size, fun i h => by
      obtain ⟨sv, h1, h2⟩ := hcc i h
      exact ⟨sv, h1.below hb, h2.below hb hg⟩⟩⟩
theorem RdGrps.of_owns {w : World} {base : Nat} {v : Value} {gs : List Grp} (h : OwnsG w base v gs) : RdGrps w v gs := by
  have h' := h
  obtain ⟨L, hL, _, ho⟩ := h'
  have hl : L.length = gs.length := by rw [← hL, List.length_map]
  rw [hl] at ho
  rcases Joins.ownsRow_forms ho with ⟨rfl, hp⟩ | ⟨g, cap, rfl⟩
  · obtain rfl : gs = [] := List.length_eq_zero_iff.1 hp
    exact ⟨none, 0, rfl, fun h => absurd h (by simp)⟩
  · exact ⟨_, cap, rfl, fun _ => ⟨g, 0, rfl, (ho.lt g rfl).2, fun i hi => by
      obtain ⟨su, c0, c1, c2, c3, hr, _⟩ := h.slot hi
      rw [Nat.zero_add]
      exact ⟨su, RdInts.of_row hr, c0, c1, c2, c3⟩⟩⟩
end Go.Proofs.YtojedplbhialpaaGreatDoor

/-! RX -/
namespace Go.Proofs.YtojedplbhialpaaGreatDoor
open Go.RowKit Go.Sort
set_option linter.unusedVariables false
set_option maxRecDepth 100000
def RdX {α : Type} (n : Nat) (cf : α × Value → List Value) (ids : α → List Int) (w : World) (v : Value) (xs : List α) : Prop :=
  ∃ a cap, v = .slice a xs.length cap ∧ (0 < xs.length → ∃ g off, a = some ⟨g, off, none⟩ ∧ g < w.heap.size ∧ ∀ i (h : i < xs.length), ∃ s, RdInts w s (ids xs[i]) ∧ ∀ j u, (cf (xs[i], s))[j]? = some u → w.cell? ⟨g, off + i * n + j, none⟩ = some u)
section
variable {α : Type} {n : Nat} {cf : α × Value → List Value} {ids : α → List Int} {w w' : World} {v : Value} {xs : List α}
theorem RdX.below (h : RdX n cf ids w v xs) (hb : Below w.heap.size w w') : RdX n cf ids w' v xs := by
  obtain ⟨a, cap, hv, hc⟩ := h
  refine ⟨a, cap, hv, fun h0 => ?_⟩
  obtain ⟨g, off, ha, hg, hcc⟩ := hc h0
  refine ⟨g, off, ha, Nat.lt_of_lt_of_le hg hb.size, fun i hi => ?_⟩
  obtain ⟨s, h1, h2⟩ := hcc i hi
  exact ⟨s, h1.below hb, fun j u hj => (hb.cell (p := ⟨g, off + i * n + j, none⟩) hg).trans (h2 j u hj)⟩
theorem flat_at {β : Type} {f : β → List Value} {n : Nat} (hf : ∀ x, (f x).length = n) : ∀ (L : List β) (i j : Nat) (h : i < L.length), j < n → (L.flatMap f)[i * n + j]? = (f L[i])[j]?
  | [], i, j, h, _ => by simp at h
  | x :: r, 0, j, h, hj => by
    rw [List.flatMap_cons, Nat.zero_mul, Nat.zero_add, List.getElem?_append_left (by rw [hf]; exact hj)]; rfl
  | x :: r, i + 1, j, h, hj => by
    rw [List.flatMap_cons, List.getElem?_append_right (by rw [hf, Nat.add_mul]; omega), hf, Nat.add_mul]
    have e : i * n + 1 * n + j - n = i * n + j := by omega
    rw [e]
    exact flat_at hf r i j (by simpa using h) hj
end
end Go.Proofs.YtojedplbhialpaaGreatDoor

/-! MA -/
namespace Go.Proofs.YtojedplbhialpaaGreatDoor
open Go.RowKit
set_option linter.unusedVariables false
set_option maxRecDepth 100000
def stpCell (p : Stp × Value) : List Value := [.int .i64 p.1.grams, p.2]
abbrev RdSteps (w : World) (v : Value) (l : List Stp) : Prop := RdX 2 stpCell (fun s : Stp => s.cents) w v l
def RatAt (w : World) (g o : Nat) (r : Rat) (sv : Value) : Prop := w.cell? ⟨g, o, none⟩ = some (.int .u8 r.cls) ∧ w.cell? ⟨g, o + 1, none⟩ = some sv ∧ w.cell? ⟨g, o + 2, none⟩ = some (.int .i64 r.bar)
def RdRates (w : World) (v : Value) (l : List Rat) : Prop :=
  ∃ a cap, v = .slice a l.length cap ∧ (0 < l.length → ∃ g off, a = some ⟨g, off, none⟩ ∧ g < w.heap.size ∧ ∀ i (h : i < l.length), ∃ sv, RdSteps w sv l[i].steps ∧ RatAt w g (off + i * 3) l[i] sv)
def ZnAt (w : World) (g o : Nat) (z : Zn) : Prop := w.cell? ⟨g, o, none⟩ = some (.string z.fr) ∧ w.cell? ⟨g, o + 1, none⟩ = some (.string z.till) ∧ w.cell? ⟨g, o + 2, none⟩ = some (.int .i64 z.zone)
def RdZones (w : World) (v : Value) (l : List Zn) : Prop :=
  ∃ a cap, v = .slice a l.length cap ∧ (0 < l.length → ∃ g off, a = some ⟨g, off, none⟩ ∧ g < w.heap.size ∧ ∀ i (h : i < l.length), ZnAt w g (off + i * 3) l[i])
theorem RatAt.below {w w' : World} {g o B : Nat} {r : Rat} {sv : Value} (h : RatAt w g o r sv) (hb : Below B w w') (hg : g < B) : RatAt w' g o r sv :=
  ⟨(hb.cell (p := ⟨g, o, none⟩) hg).trans h.1, (hb.cell (p := ⟨g, o + 1, none⟩) hg).trans h.2.1, (hb.cell (p := ⟨g, o + 2, none⟩) hg).trans h.2.2⟩
theorem ZnAt.below {w w' : World} {g o B : Nat} {z : Zn} (h : ZnAt w g o z) (hb : Below B w w') (hg : g < B) : ZnAt w' g o z :=
  ⟨(hb.cell (p := ⟨g, o, none⟩) hg).trans h.1, (hb.cell (p := ⟨g, o + 1, none⟩) hg).trans h.2.1, (hb.cell (p := ⟨g, o + 2, none⟩) hg).trans h.2.2⟩
theorem RdRates.below {w w' : World} {v : Value} {l : List Rat} (h : RdRates w v l) (hb : Below w.heap.size w w') : RdRates w' v l := by
  obtain ⟨a, cap, hv, hc⟩ := h
  exact ⟨a, cap, hv, fun h0 => by
    obtain ⟨g, off, ha, hg, hcc⟩ := hc h0
    exact ⟨g, off, ha, Nat.lt_of_lt_of_le hg hb.size, fun i h => by
      obtain ⟨sv, h1, h2⟩ := hcc i h
      exact ⟨sv, h1.below hb, h2.below hb hg⟩⟩⟩
theorem RdZones.below {w w' : World} {v : Value} {l : List Zn} (h : RdZones w v l) (hb : Below w.heap.size w w') : RdZones w' v l := by
  obtain ⟨a, cap, hv, hc⟩ := h
  exact ⟨a, cap, hv, fun h0 => by
    obtain ⟨g, off, ha, hg, hcc⟩ := hc h0
    exact ⟨g, off, ha, Nat.lt_of_lt_of_le hg hb.size, fun i h => (hcc i h).below hb hg⟩⟩
structure RdTar (w : World) (vr vz : Value) (T : Tar) : Prop where
  r : RdRates w vr T.rates
  z : RdZones w vz T.zones
theorem RdTar.below {w w' : World} {vr vz : Value} {T : Tar} (h : RdTar w vr vz T) (hb : Below w.heap.size w w') : RdTar w' vr vz T := ⟨h.r.below hb, h.z.below hb⟩
end Go.Proofs.YtojedplbhialpaaGreatDoor

/-! M1 -/
namespace Go.Proofs.YtojedplbhialpaaGreatDoor
open Go.RowKit
set_option linter.unusedVariables false
set_option maxRecDepth 100000
structure Ln where
  level : Int
  pieces : Int
  barred : Int
  grams : Int
  base : Int
  bar : Int
  saved : Int
  cents : Int
deriving DecidableEq
def lnC (x : Ln) : List Value := [.int .i64 x.level, .int .i64 x.pieces, .int .i64 x.barred, .int .i64 x.grams, .int .i64 x.base, .int .i64 x.bar, .int .i64 x.saved, .int .i64 x.cents]
def lnA (x : Ln) : Value := .agg #[.int .i64 x.level, .int .i64 x.pieces, .int .i64 x.barred, .int .i64 x.grams, .int .i64 x.base, .int .i64 x.bar, .int .i64 x.saved, .int .i64 x.cents]
def addLn (s x : Ln) : Ln := ⟨s.level, s.pieces + x.pieces, s.barred + x.barred, s.grams + x.grams, s.base + x.base, s.bar + x.bar, s.saved + x.saved, s.cents + x.cents⟩
def zeroLn (lv : Int) : Ln := ⟨lv, 0, 0, 0, 0, 0, 0, 0⟩
def sumLn (lv : Int) (l : List Ln) : Ln := l.foldl addLn (zeroLn lv)
structure LnIn (m : Int) (x : Ln) : Prop where
  pieces : 0 ≤ x.pieces ∧ x.pieces ≤ m
  barred : 0 ≤ x.barred ∧ x.barred ≤ m
  grams : 0 ≤ x.grams ∧ x.grams ≤ m
  base : 0 ≤ x.base ∧ x.base ≤ m
  bar : 0 ≤ x.bar ∧ x.bar ≤ m
  saved : 0 ≤ x.saved ∧ x.saved ≤ m
  cents : 0 ≤ x.cents ∧ x.cents ≤ m
theorem sumLn_snoc (lv : Int) (l : List Ln) (x : Ln) : sumLn lv (l ++ [x]) = addLn (sumLn lv l) x := by unfold sumLn; rw [List.foldl_append]; rfl
theorem addLn_in {M m : Int} {s x : Ln} (h : LnIn M s) (k : LnIn m x) : LnIn (M + m) (addLn s x) := by
  obtain ⟨a1, a2, a3, a4, a5, a6, a7⟩ := h
  obtain ⟨b1, b2, b3, b4, b5, b6, b7⟩ := k
  refine ⟨?_, ?_, ?_, ?_, ?_, ?_, ?_⟩ <;> (unfold addLn; dsimp only; omega)
theorem fold_in {m : Int} : ∀ (l : List Ln) (s : Ln) (M : Int), LnIn M s → (∀ x ∈ l, LnIn m x) → LnIn (M + l.length * m) (l.foldl addLn s)
  | [], s, M, h, _ => by simpa using h
  | x :: r, s, M, h, hx => by
    have h2 := fold_in r (addLn s x) (M + m) (addLn_in h (hx x List.mem_cons_self)) (fun y hy => hx y (List.mem_cons_of_mem _ hy))
    rw [List.foldl_cons, List.length_cons]
    have e : M + ((r.length + 1 : Nat) : Int) * m = M + m + r.length * m := by rw [Int.natCast_add, Int.add_mul]; simp; omega
    rw [e]; exact h2
theorem sumLn_in {m : Int} (lv : Int) {l : List Ln} (h : ∀ x ∈ l, LnIn m x) : LnIn (l.length * m) (sumLn lv l) := by
  have := fold_in l (zeroLn lv) 0 ⟨⟨Int.le_refl _, Int.le_refl _⟩, ⟨Int.le_refl _, Int.le_refl _⟩, ⟨Int.le_refl _, Int.le_refl _⟩, ⟨Int.le_refl _, Int.le_refl _⟩, ⟨Int.le_refl _, Int.le_refl _⟩, ⟨Int.le_refl _, Int.le_refl _⟩, ⟨Int.le_refl _, Int.le_refl _⟩⟩ h
  rwa [Int.zero_add] at this
structure Man where
  lines : List Ln
  total : Ln
  buns : Int
  tras : Int
  cons : Int
def RdLns (w : World) (v : Value) (l : List Ln) : Prop :=
  ∃ a cap, v = .slice a l.length cap ∧ (0 < l.length → ∃ g off, a = some ⟨g, off, none⟩ ∧ g < w.heap.size ∧ ∀ i (h : i < l.length), ∀ j u, (lnC l[i])[j]? = some u → w.cell? ⟨g, off + i * 8 + j, none⟩ = some u)
theorem RdLns.below {w w' : World} {v : Value} {l : List Ln} (h : RdLns w v l) (hb : Below w.heap.size w w') : RdLns w' v l := by
  obtain ⟨a, cap, hv, hc⟩ := h
  exact ⟨a, cap, hv, fun h0 => by
    obtain ⟨g, off, ha, hg, hcc⟩ := hc h0
    exact ⟨g, off, ha, Nat.lt_of_lt_of_le hg hb.size, fun i h j u hu => (hb.cell (p := ⟨g, off + i * 8 + j, none⟩) hg).trans (hcc i h j u hu)⟩⟩
abbrev OwnsLn (w : World) (base : Nat) (v : Value) (l : List Ln) : Prop := w.ownsRow base 42 8 v l.length (l.flatMap lnC)
theorem lnC_len (x : Ln) : (lnC x).length = 8 := rfl
theorem OwnsLn.rd {w : World} {base : Nat} {v : Value} {l : List Ln} (h : OwnsLn w base v l) : RdLns w v l := by
  rcases Joins.ownsRow_forms h with ⟨rfl, hp⟩ | ⟨g, cap, rfl⟩
  · exact ⟨none, 0, by rw [hp], fun h0 => by omega⟩
  · refine ⟨_, cap, rfl, fun h0 => ⟨g, 0, rfl, (h.lt g rfl).2, fun i hi j u hj => ?_⟩⟩
    have hjn : j < 8 := (List.getElem?_eq_some_iff.1 hj).1
    rw [Nat.zero_add, h.cellAt _ (by omega), flat_at lnC_len l i j hi hjn]
    exact hj
def manA (x : Man) (v : Value) : Value := .agg #[v, .int .i64 x.total.level, .int .i64 x.total.pieces, .int .i64 x.total.barred, .int .i64 x.total.grams, .int .i64 x.total.base, .int .i64 x.total.bar, .int .i64 x.total.saved, .int .i64 x.total.cents, .int .i64 x.buns, .int .i64 x.tras, .int .i64 x.cons]
end Go.Proofs.YtojedplbhialpaaGreatDoor

/-! MB -/
namespace Go.Proofs.YtojedplbhialpaaGreatDoor
open Go.RowKit
set_option linter.unusedVariables false
set_option maxRecDepth 100000
theorem tar_first {z : Nat} {T : Tar} (hT : TarOk z T) {w : World} {vr vz : Value} (h : RdTar w vr vz T) :
    ∃ ga oa ca gs os ns cs av cv, vr = .slice (some ⟨ga, oa, none⟩) T.rates.length ca ∧ ga < w.heap.size ∧ w.cell? ⟨ga, oa + 1, none⟩ = some (.slice (some ⟨gs, os, none⟩) ns cs) ∧ 1 ≤ ns ∧ ns ≤ 20 ∧ gs < w.heap.size ∧ w.cell? ⟨gs, os + 1, none⟩ = some (.slice av z cv) := by
  obtain ⟨a, ca, rfl, hc⟩ := h.r
  have h1 := hT.rates.1
  obtain ⟨g, off, rfl, hg, hcc⟩ := hc (by omega)
  obtain ⟨sv, hs, hat⟩ := hcc 0 (by omega)
  have hok := hT.rate _ (List.getElem_mem (show 0 < T.rates.length by omega))
  obtain ⟨asx, cs, rfl, hsc⟩ := hs
  have h2 := hok.2.2.some_
  obtain ⟨gs, os, rfl, hgs, hss⟩ := hsc (by omega)
  obtain ⟨cv, hcv, hst⟩ := hss 0 (by omega)
  obtain ⟨av, cv', rfl, _⟩ := hcv
  have h3 := hT.first _ (List.getElem?_eq_getElem (by omega)) _ (List.getElem?_eq_getElem (by omega))
  have h4 := hst 1 _ rfl
  rw [Nat.zero_mul, Nat.add_zero] at h4
  refine ⟨g, off, ca, gs, os, _, cs, av, cv', rfl, hg, ?_, h2.1, h2.2, hgs, by rw [← h3]; exact h4⟩
  have := hat.2.1
  rwa [Nat.zero_mul, Nat.add_zero] at this
set_option maxHeartbeats 4000000 in
theorem count_yes {z : Nat} {T : Tar} (hT : TarOk z T) {vr vz : Value} (w : World) (h : RdTar w vr vz T) :
    Calls Tryz.prog 201 #[.agg #[vr, vz]] w fun e w' => e = .returned (.int .i64 (z : Nat)) ∧ Below w.heap.size w w' := by
  obtain ⟨ga, oa, ca, gs, os, ns, cs, av, cv, rfl, hga, c1, n1, n20, hgs, c2⟩ := tar_first hT h
  have hz := hT.zn
  have hr := hT.rates
  obtain ⟨az, cz, rfl, _⟩ := h.z
  have hB : Below w.heap.size w (w.alloc (.cells #[.slice (some ⟨ga, oa, none⟩) T.rates.length ca, .slice az T.zones.length cz] 25)) := (Below.refl _ w).alloc (Nat.le_refl _) _
  have HB := Lib.hid hB
  clear h hB
  obtain ⟨r1, r2⟩ := hr
  obtain ⟨z1, z2⟩ := hz
  clear hT
  generalize T.rates.length = nr at r1 r2 HB ⊢
  generalize T.zones.length = nz at HB ⊢
  have e1 : ((nr : Int) == 0) = false := by rw [beq_eq_false_iff_ne]; omega
  have e2 : ((ns : Int) == 0) = false := by rw [beq_eq_false_iff_ne]; omega
  go_enter Tryz.func201, Tryz.ntmps201
  go_wp2_with fail
  go_ret
  exact ⟨rfl, HB.out⟩
theorem prefix_yes {s : ByteArray} (w : World) (h : s.size = 0 ∨ codeB s = true) : Calls Tryz.prog 224 #[.string s] w fun e w' => e = .returned (.bool true) ∧ Below w.heap.size w w' := by
  have hsz : s.size ≤ maxLen := by
    rcases h with h | h
    · rw [h]; exact Nat.zero_le _
    · have := codeB_size h; unfold maxLen; omega
  have hbe := ba_eq s ⟨#[]⟩
  by_cases h0 : s = ⟨#[]⟩
  · rw [decide_eq_true h0] at hbe
    clear h
    go_enter Tryz.func224, Tryz.ntmps224
    go_wp2_with fail
    go_ret
    exact ⟨rfl, Below.refl _ _⟩
  · rw [decide_eq_false h0] at hbe
    have hc : codeB s = true := by
      rcases h with h | h
      · exfalso
        apply h0
        cases s with
        | mk d =>
          have : d.size = 0 := h
          rw [Array.size_eq_zero_iff] at this
          rw [this]
      · exact h
    have HC := Lib.hid (fun W => code_any s W hsz)
    rw [hc] at HC
    have hie : s.toList.isEmpty = false := by
      rw [List.isEmpty_eq_false_iff]
      intro hn
      exact h0 (ba_inj (by rw [← ByteArray.toList_eq, hn]))
    clear h hc hbe
    go_enter Tryz.func224, Tryz.ntmps224
    go_wp2_with (go_at_call 171; refine (HC.out _).mono ?_; rintro e w1 ⟨rfl, hb1⟩)
    go_ret
    exact ⟨rfl, hb1⟩
def gramsAt (l : List Stp) (i : Nat) : Int := (l.getD i ⟨0, []⟩).grams
def gramsTo (l : List Stp) (k : Nat) : Int := if k = 0 then 0 else gramsAt l (k - 1)
set_option maxHeartbeats 8000000 in
theorem rate_yes {z : Nat} {r : Rat} (hr : RatOk z r) {v : Value} (w : World) (hv : RdSteps w v r.steps) (hz : z ≤ 20) (hc : 1 ≤ r.cls ∧ r.cls ≤ 255) :
    Calls Tryz.prog 202 #[.agg #[.int .u8 r.cls, v, .int .i64 r.bar], .int .i64 (z : Nat)] w fun e w' => e = .returned (.bool true) ∧ Below w.heap.size w w' := by
  obtain ⟨s1, s20⟩ := hr.some_
  obtain ⟨b0, b1⟩ := hr.bar
  have HUP := Lib.hid hr.up
  have HCE := Lib.hid hr.cents
  clear hr
  obtain ⟨a, ca, rfl, hcc⟩ := hv
  obtain ⟨g, off, rfl, hg, hst⟩ := hcc (by omega)
  have HST := Lib.hid hst
  clear hcc hst
  have hB : Below w.heap.size w (w.alloc (.cells #[.int .u8 r.cls, .slice (some ⟨g, off, none⟩) r.steps.length ca, .int .i64 r.bar] 98)) := (Below.refl _ w).alloc (Nat.le_refl _) _
  have HB := Lib.hid hB
  clear hB
  go_enter Tryz.func202, Tryz.ntmps202
  go_wp2_with fail
  go_loopw [5, 33] (fun b i wr => ∃ k : Nat, k ≤ r.steps.length ∧ i = .int .i64 k ∧ b = .int .i64 (gramsTo r.steps k) ∧ Below w.heap.size w wr) (fun _ i _ => r.steps.length - (intOf i).toNat)
  case atStart => exact ⟨0, Nat.zero_le _, rfl, rfl, HB.out⟩
  case round =>
    obtain ⟨k, hk, rfl, rfl, hb⟩ := hrel
    by_cases hlt : k < r.steps.length
    · obtain ⟨sv, hsv, hcell⟩ := HST.out k hlt
      obtain ⟨u1, u2⟩ := HUP.out k hlt
      obtain ⟨q1, q2⟩ := HCE.out _ (List.getElem_mem hlt)
      obtain ⟨ax, cx, rfl, hints⟩ := hsv
      have c0 : wr.cell? ⟨g, off + k * 2, none⟩ = some (.int .i64 r.steps[k].grams) := (hb.cell (p := ⟨g, off + k * 2, none⟩) hg).trans (hcell 0 _ rfl)
      have c1 : wr.cell? ⟨g, off + k * 2 + 1, none⟩ = some (.slice ax r.steps[k].cents.length cx) := (hb.cell (p := ⟨g, off + k * 2 + 1, none⟩) hg).trans (hcell 1 _ rfl)
      have hgr : g < wr.heap.size := by have := hb.size; omega
      have hgk : gramsTo r.steps (k + 1) = r.steps[k].grams := by
        unfold gramsTo gramsAt
        rw [if_neg (by omega), Nat.add_sub_cancel, List.getD_eq_getElem?_getD, List.getElem?_eq_getElem hlt]; rfl
      have hgk0 : (if k = 0 then 0 else (r.steps.getD (k - 1) ⟨0, []⟩).grams) = gramsTo r.steps k := rfl
      have hgk1 : (r.steps.getD k ⟨0, []⟩).grams = r.steps[k].grams := by rw [List.getD_eq_getElem?_getD, List.getElem?_eq_getElem hlt]; rfl
      rw [hgk0, hgk1] at u1
      rw [hgk1] at u2
      have HGK := Lib.hid hgk
      have HQ := Lib.hid q2
      have HINTS : Hid (∀ j (hj : j < r.steps[k].cents.length), ∃ gc oc, ax = some ⟨gc, oc, none⟩ ∧ gc < wr.heap.size ∧ wr.cell? ⟨gc, oc + j, none⟩ = some (.int .i64 r.steps[k].cents[j])) := fun j hj => by
        obtain ⟨gc, oc, h1, h2, h3⟩ := hints (by omega)
        exact ⟨gc, oc, h1, by have := hb.size; omega, (hb.cell (p := ⟨gc, oc + j, none⟩) h2).trans (h3 j hj)⟩
      have HB2 := Lib.hid hb
      clear hgk hgk0 hgk1 q2 hints hcell HST HUP HCE hb
      generalize r.steps[k] = st at c0 c1 u1 u2 q1 HGK HQ HINTS
      generalize gramsTo r.steps k = gb at u1 ⊢
      have d1 : decide (st.grams ≤ gb) = false := decide_eq_false (by omega)
      have d2 : decide ((50000 : Int) < st.grams) = false := decide_eq_false (by omega)
      have d3 : ((st.cents.length : Int) != (z : Int)) = false := by rw [q1]; simp
      have d4 : decide ((k : Int) < (r.steps.length : Int)) = true := decide_eq_true (by omega)
      go_wp2_with fail
      go_loop [58] (fun i => ∃ j : Nat, j ≤ st.cents.length ∧ i = .int .i64 j) (fun i => st.cents.length - (intOf i).toNat)
      case atStart => exact ⟨0, Nat.zero_le _, rfl⟩
      case round =>
        obtain ⟨j, hj, rfl⟩ := hrel
        by_cases hjl : j < st.cents.length
        · obtain ⟨gc, oc, rfl, h2, h3⟩ := HINTS.out j hjl
          obtain ⟨h4, h5⟩ := HQ.out _ (List.getElem_mem hjl)
          clear HINTS HQ
          generalize st.cents[j] = cj at h3 h4 h5
          have d5 : decide (cj < 0) = false := decide_eq_false (by omega)
          have d6 : decide ((1000000 : Int) < cj) = false := decide_eq_false (by omega)
          have d7 : decide ((j : Int) < (st.cents.length : Int)) = true := decide_eq_true (by omega)
          go_wp2_with fail
          go_round
          case rel => exact ⟨j + 1, by omega, by go_num⟩
          case measure => simp [intOf]; omega
        · obtain rfl : j = st.cents.length := by omega
          go_wp2_with fail
          go_roundw
          case rel => exact ⟨k + 1, by omega, by go_num, by rw [HGK.out], HB2.out.alloc HB2.out.size _⟩
          case measure => simp [intOf]; omega
    · obtain rfl : k = r.steps.length := by omega
      go_wp2_with fail
      go_ret
      exact ⟨rfl, hb⟩
-- The pairs that have been met.
open Classical in
noncomputable def rowsF (l : List Zn) (k : Nat) : ByteArray × ByteArray → Option Bool := fun p => if ∃ j, j < k ∧ ∃ h : j < l.length, (l[j].fr, l[j].till) = p then some true else none
theorem rowsF_zero (l : List Zn) : rowsF l 0 = fun _ => none := by
  funext p
  unfold rowsF
  rw [if_neg (fun ⟨j, hj, _⟩ => absurd hj (Nat.not_lt_zero _))]
theorem rowsF_new {l : List Zn} (ha : l.Pairwise (fun a b => ¬ (a.fr = b.fr ∧ a.till = b.till))) {k : Nat} (hk : k < l.length) : rowsF l k (l[k].fr, l[k].till) = none := by
  unfold rowsF
  rw [if_neg]
  rintro ⟨j, hj, h, e⟩
  exact List.pairwise_iff_getElem.1 ha j k h hk hj ⟨congrArg Prod.fst e, congrArg Prod.snd e⟩
theorem rowsF_at {l : List Zn} {k : Nat} (hk : k < l.length) : rowsF l (k + 1) (l[k].fr, l[k].till) = some true := by
  unfold rowsF
  rw [if_pos ⟨k, Nat.lt_succ_self k, hk, rfl⟩]
theorem rowsF_ne {l : List Zn} {k : Nat} (hk : k < l.length) (u : ByteArray × ByteArray) (h : u ≠ (l[k].fr, l[k].till)) : rowsF l (k + 1) u = rowsF l k u := by
  unfold rowsF
  by_cases e : ∃ j, j < k ∧ ∃ h : j < l.length, (l[j].fr, l[j].till) = u
  · obtain ⟨j, h1, h2, h3⟩ := e
    rw [if_pos ⟨j, by omega, h2, h3⟩, if_pos ⟨j, h1, h2, h3⟩]
  · rw [if_neg e, if_neg]
    rintro ⟨j, h1, h2, h3⟩
    by_cases e2 : j = k
    · subst e2; exact h h3.symm
    · exact e ⟨j, by omega, h2, h3⟩
theorem ba_zero {p : ByteArray} (h : p.size = 0) : p = ⟨#[]⟩ := by
  cases p with
  | mk d =>
    have : d.size = 0 := h
    rw [Array.size_eq_zero_iff] at this
    rw [this]
theorem rowsF_all {l : List Zn} (h : ∃ r ∈ l, r.fr.size = 0 ∧ r.till.size = 0) : rowsF l l.length (⟨#[]⟩, ⟨#[]⟩) = some true := by
  obtain ⟨r, hr, h1, h2⟩ := h
  obtain ⟨j, hj, rfl⟩ := List.getElem_of_mem hr
  unfold rowsF
  rw [if_pos ⟨j, hj, hj, by rw [ba_zero h1, ba_zero h2]⟩]
theorem pre_size {s : ByteArray} (h : s.size = 0 ∨ codeB s = true) : s.size ≤ maxLen := by
  rcases h with h | h
  · rw [h]; exact Nat.zero_le _
  · have := codeB_size h; unfold maxLen; omega
abbrev OwnsPP (w : World) (B n : Nat) (f : ByteArray × ByteArray → Option Bool) : Prop := OwnsK TSS 4 (fun x : ByteArray × ByteArray => x.1.size ≤ maxLen ∧ x.2.size ≤ maxLen) klSS Lit.bool w B n f
theorem two_new {w W : World} {A B : Obj} (h : W = (w.alloc A).alloc B) : W.heap[w.heap.size]? = some A ∧ W.heap[w.heap.size + 1]? = some B ∧ W.heap.size = w.heap.size + 2 ∧ Below w.heap.size w W := by
  subst h
  have e : (w.alloc A).heap.size = w.heap.size + 1 := by simp
  refine ⟨(Below.heap_alloc _ _ _ (by omega)).trans (alloc_new w A), ?_, by simp, ((Below.refl _ w).alloc (Nat.le_refl _) A).alloc (by simp) B⟩
  rw [← e]; exact alloc_new _ _
theorem two_after {w w2 : World} {A B : Obj} (h : Below ((w.alloc A).alloc B).heap.size ((w.alloc A).alloc B) w2) : w2.heap[w.heap.size]? = some A ∧ w2.heap[w.heap.size + 1]? = some B ∧ w.heap.size + 2 ≤ w2.heap.size ∧ Below w.heap.size w w2 := by
  obtain ⟨a, b, c, d⟩ := two_new (w := w) (A := A) (B := B) rfl
  exact ⟨(h.block _ (by omega)).trans a, (h.block _ (by omega)).trans b, by rw [← c]; exact h.size, d.trans (h.mono (by omega))⟩
set_option maxHeartbeats 8000000 in
theorem rows_yes {z : Nat} {l : List Zn} (hrow : ∀ r ∈ l, (r.fr.size = 0 ∨ codeB r.fr = true) ∧ (r.till.size = 0 ∨ codeB r.till = true) ∧ 1 ≤ r.zone ∧ r.zone ≤ z) (hap : l.Pairwise (fun a b => ¬ (a.fr = b.fr ∧ a.till = b.till)))
    (hall : ∃ r ∈ l, r.fr.size = 0 ∧ r.till.size = 0) (hl : l.length ≤ 500) {v : Value} (w : World) (hv : RdZones w v l) (hz : z ≤ 20) :
    Calls Tryz.prog 203 #[v, .int .i64 (z : Nat)] w fun e w' => e = .returned (.bool true) ∧ Below w.heap.size w w' := by
  have HROW := Lib.hid hrow
  have HAP := Lib.hid hap
  have HALL := Lib.hid (rowsF_all hall)
  obtain ⟨a, ca, rfl, hcc⟩ := hv
  have HC := Lib.hid hcc
  clear hrow hap hall hcc
  have hO0 : OwnsPP (w.alloc (.map #[] 0)) w.heap.size 0 (rowsF l 0) := by rw [rowsF_zero]; exact OwnsK.made w
  have HO0 := Lib.hid hO0
  have hB0 : Below w.heap.size w (w.alloc (.map #[] 0)) := (Below.refl _ w).alloc (Nat.le_refl _) _
  have HB0 := Lib.hid hB0
  clear hO0 hB0
  have hmk : (Instr.makeMap 272 none).run Tryz.prog w = .ok (.map (some w.heap.size)) (w.alloc (.map #[] 0)) := by
    simp only [Instr.makeMap]
    rfl
  go_enter Tryz.func203, Tryz.ntmps203
  go_wp2_with fail
  go_loopw [12] (fun i wr => ∃ k : Nat, k ≤ l.length ∧ i = .int .i64 k ∧ Below w.heap.size w wr ∧ OwnsPP wr w.heap.size k (rowsF l k)) (fun i _ => l.length - (intOf i).toNat)
  case atStart => exact ⟨0, Nat.zero_le _, rfl, HB0.out, HO0.out⟩
  case round =>
    obtain ⟨k, hk, rfl, hb, hO⟩ := hrel
    by_cases hlt : k < l.length
    · obtain ⟨g, off, rfl, hg, hst⟩ := HC.out (by omega)
      obtain ⟨c0, c1, c2⟩ := (hst k hlt).below hb hg
      obtain ⟨p1, p2, p3, p4⟩ := HROW.out _ (List.getElem_mem hlt)
      have hgr : g < wr.heap.size := by have := hb.size; omega
      have HNEW := Lib.hid (rowsF_new HAP.out hlt)
      have HAT := Lib.hid (rowsF_at hlt)
      have HNE := Lib.hid (rowsF_ne hlt)
      have HS1 := Lib.hid (pre_size p1)
      have HS2 := Lib.hid (pre_size p2)
      have HP1 := Lib.hid (fun W => prefix_yes W p1)
      have HP2 := Lib.hid (fun W => prefix_yes W p2)
      clear hst HC HROW HAP p1 p2
      generalize l[k] = r at c0 c1 c2 p3 p4 HNEW HAT HNE HS1 HS2 HP1 HP2
      have d1 : decide (r.zone < 1) = false := decide_eq_false (by omega)
      have d2 : decide ((z : Int) < r.zone) = false := decide_eq_false (by omega)
      have d4 : decide ((k : Int) < (l.length : Int)) = true := decide_eq_true (by omega)
      have HB := Lib.hid hb
      have HO := Lib.hid hO
      have hMl := hO.lt
      clear hb hO
      go_wp2_with (first
        | (go_at_call 224; refine (HP2.out _).mono ?_; rintro e w3 ⟨rfl, hb3⟩; have j1 := (hb3.block _ (by omega)).trans k1; have j2 := (hb3.block _ (by omega)).trans k2; have q2 := cell_of_row _ _ 2 _ _ _ j1; have p0 := cell_of_row _ _ 0 _ _ _ j2; have p1 := cell_of_row _ _ 1 _ _ _ j2; have hB3 := below_c HB.out HB.out.size (k4.trans (hb3.mono (by omega))); have hO3 := HO.out.below (k4.trans (hb3.mono (by omega))); have hz3 := hb3.size; have hlk := hO3.look keySS boolLaw (t := 272) Tryz.underlying272 (s := (r.fr, r.till)) ⟨HS1.out, HS2.out⟩; rw [HNEW.out] at hlk; have HB3 := Lib.hid hB3; have HO3 := Lib.hid hO3; clear hB3 hO3 hb3)
        | (go_at_call 224; refine (HP1.out _).mono ?_; rintro e w2 ⟨rfl, hb2⟩; obtain ⟨k1, k2, k3, k4⟩ := two_after hb2; have q1 := cell_of_row _ _ 1 _ _ _ k1; clear hb2)
        | (refine wpList_update_K keySS boolLaw _ rfl _ _ _ _ rfl Tryz.underlying272 w.heap.size k (rowsF l k) (rowsF l (k + 1)) rfl HO3.out (by unfold maxLen; omega) (r.fr, r.till) ⟨HS1.out, HS2.out⟩ rfl true trivial rfl HAT.out HNE.out ?_; intro w5 hO5 hg5))
      go_roundw
      case rel => exact ⟨k + 1, by omega, by go_num, HB3.out.grown hg5 HB3.out.size (fun r e => by rw [← Option.some.inj e]; exact Nat.le_refl _), hO5⟩
      case measure => simp [intOf]; omega
    · obtain rfl : k = l.length := by omega
      have hlk := hO.look keySS boolLaw (t := 272) Tryz.underlying272 (s := (⟨#[]⟩, ⟨#[]⟩)) ⟨Nat.zero_le _, Nat.zero_le _⟩
      rw [HALL.out] at hlk
      go_wp2_with fail
      go_ret
      exact ⟨rfl, hb⟩
end Go.Proofs.YtojedplbhialpaaGreatDoor

/-! MC -/
namespace Go.Proofs.YtojedplbhialpaaGreatDoor
open Go.RowKit
set_option linter.unusedVariables false
set_option maxRecDepth 100000
-- The classes that have been met.
open Classical in
noncomputable def clsF (l : List Rat) (k : Nat) : Int → Option Bool := fun p => if ∃ j, j < k ∧ ∃ h : j < l.length, l[j].cls = p then some true else none
theorem clsF_zero (l : List Rat) : clsF l 0 = fun _ => none := by
  funext p
  unfold clsF
  rw [if_neg (fun ⟨j, hj, _⟩ => absurd hj (Nat.not_lt_zero _))]
theorem clsF_new {l : List Rat} (ha : l.Pairwise (fun a b => a.cls ≠ b.cls)) {k : Nat} (hk : k < l.length) : clsF l k l[k].cls = none := by
  unfold clsF
  rw [if_neg]
  rintro ⟨j, hj, h, e⟩
  exact List.pairwise_iff_getElem.1 ha j k h hk hj e
theorem clsF_at {l : List Rat} {k : Nat} (hk : k < l.length) : clsF l (k + 1) l[k].cls = some true := by
  unfold clsF
  rw [if_pos ⟨k, Nat.lt_succ_self k, hk, rfl⟩]
theorem clsF_ne {l : List Rat} {k : Nat} (hk : k < l.length) (u : Int) (h : u ≠ l[k].cls) : clsF l (k + 1) u = clsF l k u := by
  unfold clsF
  by_cases e : ∃ j, j < k ∧ ∃ h : j < l.length, l[j].cls = u
  · obtain ⟨j, h1, h2, h3⟩ := e
    rw [if_pos ⟨j, by omega, h2, h3⟩, if_pos ⟨j, h1, h2, h3⟩]
  · rw [if_neg e, if_neg]
    rintro ⟨j, h1, h2, h3⟩
    by_cases e2 : j = k
    · subst e2; exact h h3.symm
    · exact e ⟨j, by omega, h2, h3⟩
abbrev OwnsU8 (w : World) (B n : Nat) (f : Int → Option Bool) : Prop := OwnsK 5 4 (fun n : Int => (Lit.int .u8 n).wf = true) (Lit.int .u8) Lit.bool w B n f
theorem u8_all : ∀ m : Fin 256, (Lit.int .u8 (m.val : Int)).wf = true := by decide
theorem u8_wf {n : Int} (h : 1 ≤ n ∧ n ≤ 255) : (Lit.int .u8 n).wf = true := by
  obtain ⟨h1, h2⟩ := h
  obtain ⟨m, rfl⟩ : ∃ m : Nat, n = m := ⟨n.toNat, by omega⟩
  exact u8_all ⟨m, by omega⟩
theorem one_after {w w2 : World} {A : Obj} (h : Below (w.alloc A).heap.size (w.alloc A) w2) : w2.heap[w.heap.size]? = some A ∧ w.heap.size + 1 ≤ w2.heap.size ∧ Below w.heap.size w w2 := by
  have e : (w.alloc A).heap.size = w.heap.size + 1 := by simp
  exact ⟨(h.block _ (by omega)).trans (alloc_new w A), by rw [← e]; exact h.size, ((Below.refl _ w).alloc (Nat.le_refl _) A).trans (h.mono (by omega))⟩
set_option maxHeartbeats 8000000 in
theorem tright_yes {z : Nat} {T : Tar} (hT : TarOk z T) {vr vz : Value} (w : World) (h : RdTar w vr vz T) :
    Calls Tryz.prog 164 #[.agg #[vr, vz]] w fun e w' => e = .returned (.bool true) ∧ Below w.heap.size w w' := by
  have HCN : Hid (∀ W, Below w.heap.size w W → Calls Tryz.prog 201 #[.agg #[vr, vz]] W fun e w' => e = .returned (.int .i64 (z : Nat)) ∧ Below W.heap.size W w') := fun W hW => count_yes hT W (h.below hW)
  have HRW : Hid (∀ W, Below w.heap.size w W → Calls Tryz.prog 203 #[vz, .int .i64 (z : Nat)] W fun e w' => e = .returned (.bool true) ∧ Below W.heap.size W w') := fun W hW => rows_yes hT.row hT.rows hT.all hT.zones.2 W (h.z.below hW) hT.zn.2
  have HRT : Hid (∀ W sv (i : Nat) (hi : i < T.rates.length), RdSteps W sv T.rates[i].steps → Calls Tryz.prog 202 #[.agg #[.int .u8 T.rates[i].cls, sv, .int .i64 T.rates[i].bar], .int .i64 (z : Nat)] W fun e w' => e = .returned (.bool true) ∧ Below W.heap.size W w') := fun W sv i hi hs => by
    obtain ⟨q1, q2, q3⟩ := hT.rate _ (List.getElem_mem hi)
    exact rate_yes q3 W hs hT.zn.2 ⟨q1, q2⟩
  have HCLS : Hid (∀ i (hi : i < T.rates.length), 1 ≤ T.rates[i].cls ∧ T.rates[i].cls ≤ 255) := fun i hi => by
    obtain ⟨q1, q2, _⟩ := hT.rate _ (List.getElem_mem hi)
    exact ⟨q1, q2⟩
  have HAP := Lib.hid hT.apart
  obtain ⟨r1, r20⟩ := hT.rates
  obtain ⟨n1, n500⟩ := hT.zones
  obtain ⟨z1, z20⟩ := hT.zn
  obtain ⟨a, ca, rfl, hcc⟩ := h.r
  obtain ⟨az, cz, rfl, _⟩ := h.z
  have HC := Lib.hid hcc
  clear hcc h hT
  have hB0 : Below w.heap.size w (w.alloc (.cells #[.slice a T.rates.length ca, .slice az T.zones.length cz] 25)) := (Below.refl _ w).alloc (Nat.le_refl _) _
  have HB0 := Lib.hid hB0
  clear hB0
  have hmk : ∀ W, (Instr.makeMap 250 none).run Tryz.prog W = .ok (.map (some W.heap.size)) (W.alloc (.map #[] 0)) := fun W => by
    simp only [Instr.makeMap]
    rfl
  go_enter Tryz.func164, Tryz.ntmps164
  go_wp2_with (go_at_call 201; refine (HCN.out _ HB0.out).mono ?_; rintro e w1 ⟨rfl, hb1⟩; obtain ⟨k1, k2, k3⟩ := one_after hb1; have hmw := hmk w1; have x0 := cell_of_row w1 w.heap.size 0 _ _ _ k1; have hzz : w.heap.size < w1.heap.size := k2; clear hb1)
  have hO0 : OwnsU8 (w1.alloc (.map #[] 0)) w1.heap.size 0 (clsF T.rates 0) := by rw [clsF_zero]; exact OwnsK.made w1
  have k1' := (Below.heap_alloc w1 (.map #[] 0) _ hzz).trans k1
  have HB1 := Lib.hid (k3.alloc k3.size (.map #[] 0))
  clear k1 k2 k3 HCN hmk hmw x0
  go_loopw [41] (fun i wr => ∃ k : Nat, k ≤ T.rates.length ∧ i = .int .i64 k ∧ Below w.heap.size w wr ∧ wr.heap[w.heap.size]? = some (.cells #[.slice a T.rates.length ca, .slice az T.zones.length cz] 25 (0, 0)) ∧ OwnsU8 wr w1.heap.size k (clsF T.rates k)) (fun i _ => T.rates.length - (intOf i).toNat)
  case atStart => exact ⟨0, Nat.zero_le _, rfl, HB1.out, k1', hO0⟩
  case round =>
    clear k1' hO0
    obtain ⟨k, hk, rfl, hb, hbox, hO⟩ := hrel
    by_cases hlt : k < T.rates.length
    · obtain ⟨g, off, rfl, hg, hst⟩ := HC.out (by omega)
      obtain ⟨sv, hsv, hat⟩ := hst k hlt
      obtain ⟨c0, c1, c2⟩ := hat.below hb hg
      have hgr : g < wr.heap.size := by have := hb.size; omega
      have HNEW := Lib.hid (clsF_new HAP.out hlt)
      have HAT := Lib.hid (clsF_at hlt)
      have HNE := Lib.hid (clsF_ne hlt)
      obtain ⟨cl1, cl2⟩ := HCLS.out k hlt
      have HU := Lib.hid (u8_wf ⟨cl1, cl2⟩)
      have HRK : Hid (∀ W, Below w.heap.size w W → Calls Tryz.prog 202 #[.agg #[.int .u8 T.rates[k].cls, sv, .int .i64 T.rates[k].bar], .int .i64 (z : Nat)] W fun e w' => e = .returned (.bool true) ∧ Below W.heap.size W w') := fun W hW => HRT.out W sv k hlt (hsv.below hW)
      obtain ⟨sa, sc, rfl, _⟩ := hsv
      have HB := Lib.hid hb
      have HO := Lib.hid hO
      have HBOX := Lib.hid hbox
      have hMl := hO.lt
      clear hst HC HRT HCLS HAP hat hb hO hbox
      have hlk := (HO.out.below ((Below.refl _ wr).alloc (Nat.le_refl _) (.cells #[.int .u8 T.rates[k].cls, .slice sa T.rates[k].steps.length sc, .int .i64 T.rates[k].bar] 98))).look keyU8 boolLaw (t := 250) Tryz.underlying250 (s := T.rates[k].cls) HU.out
      rw [HNEW.out] at hlk
      generalize T.rates[k] = r at c0 c1 c2 cl1 cl2 HNEW HAT HNE HU HRK hlk
      have d1 : decide (r.cls < 1) = false := decide_eq_false (by omega)
      have d4 : decide ((k : Int) < (T.rates.length : Int)) = true := decide_eq_true (by omega)
      go_wp2_with (first
        | (go_at_call 202; refine (HRK.out _ (HB.out.alloc HB.out.size _)).mono ?_; rintro e w3 ⟨rfl, hb3⟩; obtain ⟨j1, j2, j3⟩ := one_after hb3; have q0 := cell_of_row _ _ 0 _ _ _ j1; have HB3 := Lib.hid (below_c HB.out HB.out.size j3); have HO3 := Lib.hid (HO.out.below j3); have HBOX3 := Lib.hid ((j3.block _ (by omega)).trans HBOX.out); clear hb3 j3)
        | (refine wpList_update_K keyU8 boolLaw _ rfl _ _ _ _ rfl Tryz.underlying250 w1.heap.size k (clsF T.rates k) (clsF T.rates (k + 1)) rfl HO3.out (by unfold maxLen; omega) r.cls HU.out rfl true trivial rfl HAT.out HNE.out ?_; intro w5 hO5 hg5))
      go_roundw
      case rel => exact ⟨k + 1, by omega, by go_num, HB3.out.grown hg5 HB3.out.size (fun r e => by rw [← Option.some.inj e]; omega), (hg5.block _ (by omega) (by intro e; have := Option.some.inj e; omega)).trans HBOX3.out, hO5⟩
      case measure => simp [intOf]; omega
    · obtain rfl : k = T.rates.length := by omega
      have x1 := cell_of_row _ _ 1 _ _ _ hbox
      go_wp2_with (go_at_call 203; refine (HRW.out _ hb).mono ?_; rintro e w7 ⟨rfl, hb7⟩)
      go_ret
      exact ⟨rfl, below_c hb hb.size hb7⟩
end Go.Proofs.YtojedplbhialpaaGreatDoor
