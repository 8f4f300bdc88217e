/-
  A map of the call's own from texts to lists of numbers, told as a function: how it is filled, read, and its keys in order.
-/
import Derived.Test.YtdahgfopighhlaaSA
import Derived.Test.YtdahgfopighhlaaLay
import Derived.Maps.OwnRows
import Derived.Maps.GroupsBeside
import Derived.Sort.KeysCollected
namespace Go.Proofs
open Go.RowKit Go.Maps Go.Sort Go.Shelf
theorem Try.sorts31 (m : Nat) : AnyZ.SortsIn Try.prog Try.sorted31_ren Fence.wide m :=
  ⟨fun blk off cap ss W hH hblk hsz => callsIn_wide.2 (AnyM.slices_Sort_string Try.sort47 blk off cap ss W hH hblk hsz),
   fun p cap W => callsIn_wide.2 (AnyM.slices_Sort_string_none Try.sort47 p cap W)⟩
theorem Try.maps_Keys_32 (mb : Option Nat) (W : World) : CallsIn Fence.wide 5 Try.prog 32 #[.map mb] W fun e w' => e = .returned (.func (.func 48) #[] #[.pointer (some ⟨W.heap.size, 0, none⟩)]) ∧ w' = W.alloc (.cells #[.map mb] 65) :=
  AnyZ.keys_in Try.keys32 Fence.wide 5 trivial rfl mb W
set_option maxHeartbeats 1000000 in
theorem Try.slices_Sorted_keys {H : Type} (b nn : Nat) (D0 : DataW H) (R : Value → Option (DataW H × List MemPlace)) (w : World) (hown : w.ownsMap Try.prog 9 R b nn D0) (hmax : Maps.size D0 ≤ maxLen) (hbytes : Maps.size D0 * 16 ≤ 140737488355328) :
    CallsIn Fence.wide 5 Try.prog 31 #[.func (.func 48) #[] #[.pointer (some ⟨w.heap.size, 0, none⟩)]] (w.alloc (.cells #[.map (some b)] 65)) fun e w' => ∃ (v : Value) (ss : List (List UInt8)), e = .returned v ∧ ss.Perm (strKeys D0) ∧
      w'.ownsRow (w.alloc (.cells #[.map (some b)] 65)).heap.size 9 1 v ss.length ((ss.mergeSort (fun x y => decide (x ≤ y))).map encStr) ∧ (v = .slice none 0 0 ↔ ss = []) ∧ Below (w.alloc (.cells #[.map (some b)] 65)).heap.size (w.alloc (.cells #[.map (some b)] 65)) w' := by
  have hbl := hown.lt
  have hseq : SeqGives Fence.wide 2 Try.prog 48 #[.pointer (some ⟨w.heap.size, 0, none⟩)] encStr (fun ss => ss.Perm (strKeys D0)) (Maps.size D0) (w.alloc (.cells #[.map (some b)] 65)) :=
    AnyZ.keys_gives (ρ := Try.keys32_ren) { Try.keys32 with } Fence.wide _ trivial rfl (by omega) w.heap.size b nn D0 _ (by simp) (by simp) (by
      obtain ⟨es, clock, hb, Ft, hs, hD⟩ := hown
      exact ⟨es, clock, (Below.heap_alloc _ _ b hbl).trans hb, Ft, hs, hD⟩)
  exact AnyZ.sorted_in Try.sorted31 Fence.wide 5 trivial trivial trivial trivial rfl (by omega) (Try.sorts31 _) (enters_of Try.func47 (by kernel_rfl) rfl) 48 #[.pointer (some ⟨w.heap.size, 0, none⟩)] trivial (enters_of Try.func48 (by kernel_rfl) rfl) _ _ hmax hbytes _ hseq
end Go.Proofs
namespace Go.Proofs.Ytdahgfopighhlaa
open Go.RowKit Go.Maps Go.WideMaps Go.ChangeShapes Go.WideElems
set_option linter.unusedVariables false
set_option maxRecDepth 100000
/-- A map from texts to lists of numbers. -/
def GrpsF (w : World) (base B n : Nat) (G : ByteArray → List Int) : Prop :=
  ∃ D : DataW Unit, w.ownsGroups Try.prog 9 base 3 .i64 B n D ∧ ∀ s, (G s = [] → Maps.has D (litK s) = false) ∧ (G s ≠ [] → Maps.has D (litK s) = true ∧ ∀ zd, D.atKey (litK s) zd = .slice (lits .i64 (G s)) [])
theorem GrpsF.made (w : World) : GrpsF (w.alloc (.map #[] 0)) (w.heap.size + 1) w.heap.size 0 (fun _ => []) :=
  ⟨.map [], World.ownsGroups_made _ _ _ _ _, fun s => ⟨fun _ => rfl, fun h => absurd rfl h⟩⟩
theorem GrpsF.below {w w' : World} {base B n : Nat} {G : ByteArray → List Int} (h : GrpsF w base B n G) (hb : Below w.heap.size w w') : GrpsF w' base B n G := by
  obtain ⟨D, hD, hG⟩ := h
  exact ⟨D, hD.kept (grown_none hb) (by simp) (fun _ _ _ x _ => Classical.em _), hG⟩
theorem GrpsF.lt {w : World} {base B n : Nat} {G : ByteArray → List Int} (h : GrpsF w base B n G) : B < w.heap.size ∧ B < base := by
  obtain ⟨D, ⟨es, clock, hb, _, _, _, hbb, _⟩, hG⟩ := h
  exact ⟨(Array.getElem?_eq_some_iff.1 hb).1, hbb⟩
theorem lits_inj {a b : List Int} (h : lits (H := Unit) .i64 a = lits .i64 b) : a = b := by
  unfold lits at h
  exact (List.map_inj_right (fun x y hxy => by simpa using hxy)).1 h
theorem rowDatum_eq {w : World} {base : Nat} {v : Value} {zs G : List Int} (ho : w.ownsInts base 3 .i64 v zs) (h : (G = [] ∧ rowDatum (H := Unit) .i64 v zs = .nil) ∨ rowDatum (H := Unit) .i64 v zs = .slice (lits .i64 G) []) : zs = G := by
  rcases ho.datum (H := Unit) with ⟨h1, h2⟩ | h1
  · rcases h with ⟨rfl, _⟩ | h
    · exact h2
    · rw [h1] at h; cases h
  · rcases h with ⟨_, h⟩ | h
    · rw [h1] at h; cases h
    · rw [h1] at h
      injection h with h _
      exact lits_inj h
/-- How a list that was read from the map, and then made longer, is put back. -/
def GBack (w : World) (base B n : Nat) (G : ByteArray → List Int) (s : ByteArray) (v : Value) : Prop :=
  ∀ (w1 : World) (v' : Value) (x : Int), w.grownBy w1 v.ownBlock → w1.ownsInts base 3 .i64 v' (G s ++ [x]) → (v'.ownBlock = v.ownBlock ∨ ∃ g, v'.ownBlock = some g ∧ w.heap.size ≤ g) →
    ∃ w2, (Instr.mapUpdate 65 (.map (some B)) (.string s) v').run Try.prog w1 = .ok () w2 ∧ GrpsF w2 base B (n + 1) (fun u => if u = s then G s ++ [x] else G u) ∧ w1.grownBy w2 (some B)
theorem GrpsF.at {w : World} {base B n : Nat} {G : ByteArray → List Int} (h : GrpsF w base B n G) (hn : n < maxLen) {s : ByteArray} (hs : s.size ≤ maxLen) :
    ∃ v, (Instr.lookup 65 (.map (some B)) (.string s) false).run Try.prog w = .ok v w ∧ w.ownsInts base 3 .i64 v (G s) ∧ (G s).length ≤ n ∧ GBack w base B n G s v := by
  obtain ⟨D, hD, hG⟩ := h
  obtain ⟨v, zs, hrun, hat, hoi, hzl, hback⟩ := hD.at keyed_str Try.underlying65 (show (zeroValue 34).run Try.prog w = _ by kernel_rfl) hn (keyOf_string_mk Try.underlying9 hs)
  have ez : zs = G s := rowDatum_eq hoi (by
    obtain ⟨h1, h2⟩ := hG s
    by_cases e : G s = []
    · refine .inl ⟨e, ?_⟩
      rw [← hat]
      exact atKey_of_not_has (h1 e) _
    · exact .inr (by rw [← hat]; exact (h2 e).2 _))
  subst ez
  refine ⟨v, hrun, hoi, hzl, fun w1 v' x hg hoi' hloc => ?_⟩
  obtain ⟨w2, hrun2, hown2, hg2⟩ := hback w1 v' (G s ++ [x]) hg hoi' (by simp; omega) hloc
  refine ⟨w2, hrun2, ⟨_, hown2, fun u => ?_⟩, hg2⟩
  have hm : IsMap D := by
    obtain ⟨es, clock, _, _, _, rfl, _⟩ := hD
    exact ⟨_, rfl⟩
  have hk : WideAt.IsKeyLit (litK s) := trivial
  dsimp only
  have hd := hoi'.datum_pos (H := Unit) (by simp)
  rw [hd]
  by_cases e : u = s
  · subst e
    rw [if_pos rfl]
    exact ⟨fun h => absurd h (by simp), fun _ => ⟨has_put_same hm hk _, fun zd => atKey_put_same hm hk _ zd⟩⟩
  · rw [if_neg e]
    have hne : litK u ≠ litK s := fun h => e (litK_inj h)
    exact ⟨fun h => by rw [← (hG u).1 h]; exact has_put_other hne _, fun hy => ⟨by rw [← ((hG u).2 hy).1]; exact has_put_other hne _, fun zd => by rw [← ((hG u).2 hy).2 zd]; exact atKey_put_other hne _ _⟩⟩
/-- A slice reads as numbers that are not written any more. -/
def RowI (w : World) (v : Value) (zs : List Int) : Prop := ∃ g cap cur, v = .slice (some ⟨g, 0, none⟩) zs.length cap ∧ w.heap[g]? = some (.cells cur 3 (0, 0)) ∧ cur.toList.take zs.length = zs.map (Value.int .i64)
theorem RowI.grown {w w' : World} {v : Value} {zs : List Int} {row : Option Nat} (h : RowI w v zs) (hg : w.grownBy w' row) (hne : ∀ g, row = some g → ∀ cur fr, w.heap[g]? ≠ some (.cells cur 3 fr)) : RowI w' v zs := by
  obtain ⟨g, cap, cur, hv, hh, ht⟩ := h
  exact ⟨g, cap, cur, hv, (hg.block g (Array.getElem?_eq_some_iff.1 hh).1 (fun e => hne g e.symm _ _ hh)).trans hh, ht⟩
theorem RowI.below {w w' : World} {v : Value} {zs : List Int} (h : RowI w v zs) (hb : Below w.heap.size w w') : RowI w' v zs := h.grown (grown_none hb) (fun g e => by cases e)
theorem RowI.cell {w : World} {g cap i : Nat} {zs : List Int} (h : RowI w (.slice (some ⟨g, 0, none⟩) zs.length cap) zs) (hi : i < zs.length) : w.cell? ⟨g, i, none⟩ = some (.int .i64 zs[i]) := by
  obtain ⟨g', cap', cur, hv, hh, ht⟩ := h
  simp only [Value.slice.injEq, Option.some.injEq, Addr.mk.injEq, and_true, true_and] at hv
  obtain ⟨rfl, rfl⟩ := hv
  rw [cell_of_row w g i _ _ _ hh]
  have : (cur.toList.take zs.length)[i]? = (zs.map (Value.int .i64))[i]? := by rw [ht]
  rw [List.getElem?_take_of_lt hi, List.getElem?_map, List.getElem?_eq_getElem hi, Array.getElem?_toList] at this
  exact this
theorem RowI.of_owns {w : World} {base : Nat} {v : Value} {zs : List Int} (h : w.ownsInts base 3 .i64 v zs) (hne : zs ≠ []) : RowI w v zs := by
  obtain ⟨⟨h1, h2 | ⟨g, cap, cur, hv, hb, hg, _, _, _, ht⟩⟩, _⟩ := h
  · exact absurd (List.length_eq_zero_iff.1 h2.2) hne
  · exact ⟨g, cap, cur, hv, hg, by rw [Nat.mul_one] at ht; exact ht⟩
theorem keys_apart {R : Value → Option (DataW Unit × List MemPlace)} {es : Array MapEntry} {clock : Nat} (F : Fit Try.prog 9 R es clock) : es.toList.Pairwise (fun x y => x.key ≠ y.key) := by
  refine (List.pairwise_map.1 (Maps.fit_apart keyed_str F)).imp_of_mem (fun {x y} hx hy hne e => hne ?_)
  obtain ⟨a, ha⟩ := F.reads x hx
  obtain ⟨b, hb⟩ := F.reads y hy
  have h1 := rd_key ha
  have h2 := rd_key hb
  rw [rg_of ha, rg_of hb]
  rw [e, h2] at h1
  exact (Option.some.inj h1).symm
/-- The map, once it is filled: what it holds is read from its block alone. -/
theorem GrpsF.read {w : World} {base B n : Nat} {G : ByteArray → List Int} (h : GrpsF w base B n G) : ∀ s : ByteArray, s.size ≤ maxLen → ∃ v, (∀ W : World, W.heap[B]? = w.heap[B]? → (Instr.lookup 65 (.map (some B)) (.string s) false).run Try.prog W = .ok v W) ∧ (G s ≠ [] → RowI w v (G s)) := by
  obtain ⟨D, ⟨es, clock, hb, F, hs, rfl, hbb, hlen, hap⟩, hG⟩ := h
  intro s hs'
  have hkey := keyOf_string_mk Try.underlying9 hs'
  have look := fun (W : World) (hW : W.heap[B]? = w.heap[B]?) => Maps.fit_look (P := Try.prog) (t := 65) (w := W) (b := B) false keyed_str Try.underlying65 (show (zeroValue 34).run Try.prog W = .ok (.slice none 0 0) W by kernel_rfl) (hW.trans hb) F hkey
  rcases look w rfl with ⟨h1, h2, h3⟩ | ⟨e0, y, m0, k0, h1, h2, h3, _⟩
  · refine ⟨.slice none 0 0, fun W hW => ?_, fun hne => ?_⟩
    · rcases look W hW with ⟨a1, _⟩ | ⟨e1, _, m1, k1, _⟩
      · exact a1
      · exact absurd k1 (h2 e1 m1)
    · have := ((hG s).2 hne).2 .nil
      rw [show litK s = .string s.data.toList from rfl, h3] at this
      cases this
  · refine ⟨e0.val, fun W hW => ?_, fun hne => ?_⟩
    · rcases look W hW with ⟨_, a2, _⟩ | ⟨e1, _, m1, k1, a1, _⟩
      · exact absurd k0 (a2 e0 m0)
      · rw [entry_eq_of_key (keys_apart F) m0 m1 (k0.trans k1.symm)]; exact a1
    · obtain ⟨zs, ho, rfl⟩ := rowElem_inv h2
      have e := ((hG s).2 hne).2 .nil
      rw [show litK s = .string s.data.toList from rfl, h3] at e
      have ez := rowDatum_eq ho (.inr e)
      rw [← ez] at hne ⊢
      exact RowI.of_owns ho hne
end Go.Proofs.Ytdahgfopighhlaa
