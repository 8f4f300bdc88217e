/-
  The keys of such a map, in order; slices.ContainsFunc at texts.
-/
import Derived.Test.YtdahgfopighhlaaSB
namespace Go.Proofs.Ytdahgfopighhlaa
open Go.RowKit Go.Maps Go.WideMaps Go.ChangeShapes Go.WideElems
set_option linter.unusedVariables false
set_option maxRecDepth 100000
def StrictB (l : List ByteArray) : Prop := l.Pairwise (fun a b => ltB a b = true)
theorem StrictB.nodup {l : List ByteArray} (h : StrictB l) : l.Nodup := List.Pairwise.imp (fun hab => ltB_ne hab) h
theorem strict_eq {l m : List ByteArray} (hl : StrictB l) (hm : StrictB m) (h : ∀ s, s ∈ l ↔ s ∈ m) : l = m := by
  have hp : l.Perm m := (List.perm_ext_iff_of_nodup hl.nodup hm.nodup).2 h
  exact List.Perm.eq_of_pairwise (le := fun a b => ltB a b = true) (fun a b _ _ h1 h2 => by rw [ltB_asymm h1] at h2; cases h2) hl hm hp
def KeysAre (G : ByteArray → List Int) (names : List ByteArray) : Prop := StrictB names ∧ ∀ s, s ∈ names ↔ G s ≠ []
def baOf (l : List UInt8) : ByteArray := ⟨l.toArray⟩
theorem baOf_data (l : List UInt8) : (baOf l).data.toList = l := rfl
theorem baOf_inj {a b : List UInt8} (h : baOf a = baOf b) : a = b := by rw [← baOf_data a, ← baOf_data b, h]
theorem baOf_self (s : ByteArray) : baOf s.data.toList = s := ba_inj rfl
theorem owns_map {w : World} {base B n : Nat} {G : ByteArray → List Int} (h : GrpsF w base B n G) : ∃ (D : DataW Unit) (R : Value → Option (DataW Unit × List MemPlace)), w.ownsMap Try.prog 9 R B n D ∧ ∀ s, (Maps.has D (litK s) = true ↔ G s ≠ []) := by
  obtain ⟨D, hD, hG⟩ := h
  obtain ⟨es, clock, hb, F, hs, rfl, hbb, hlen, hap⟩ := hD
  refine ⟨_, _, ⟨es, clock, hb, F, hs, rfl⟩, fun s => ⟨fun h e => ?_, fun h => ((hG s).2 h).1⟩⟩
  rw [(hG s).1 e] at h; cases h
theorem mem_strKeys {w : World} {B n : Nat} {D : DataW Unit} {R : Value → Option (DataW Unit × List MemPlace)} (h : w.ownsMap Try.prog 9 R B n D) : (strKeys D).Nodup ∧ ∀ x, x ∈ strKeys D ↔ Maps.has D (.string x) = true := by
  obtain ⟨es, hD, hpw, _⟩ := h.entries keyed_str
  obtain ⟨es', hD', hko⟩ := h.keysOf
  obtain rfl : es = es' := by rw [hD] at hD'; simpa using hD'
  subst hD
  have hk : ∀ p ∈ es, ∃ x, p.1 = .string x := fun p hp => by obtain ⟨v, hv⟩ := hko p hp; obtain ⟨x, _, hx, _⟩ := Maps.keyOf_str Try.underlying9 hv; exact ⟨x, hx⟩
  constructor
  · show (es.map fun p => strOf p.1).Nodup
    refine List.pairwise_map.2 (hpw.imp_of_mem fun {p q} hp' hq' hne e => hne ?_)
    obtain ⟨a, ha⟩ := hk p hp'
    obtain ⟨b, hb⟩ := hk q hq'
    rw [ha, hb] at e ⊢
    exact congrArg _ e
  · intro x
    rw [has_eq, List.any_eq_true]
    show x ∈ es.map (fun p => strOf p.1) ↔ _
    rw [List.mem_map]
    constructor
    · rintro ⟨p, hp', rfl⟩
      obtain ⟨a, ha⟩ := hk p hp'
      exact ⟨p, hp', by rw [ha]; simp [Lit.sameKey, strOf]⟩
    · rintro ⟨p, hp', hs⟩
      obtain ⟨a, ha⟩ := hk p hp'
      rw [ha] at hs
      exact ⟨p, hp', by rw [ha]; simpa [Lit.sameKey, strOf] using hs⟩
theorem keys_call (B : Nat) (W : World) : Calls Try.prog 32 #[.map (some B)] W fun e w' => e = .returned (.func (.func 48) #[] #[.pointer (some ⟨W.heap.size, 0, none⟩)]) ∧ W.alloc (.cells #[.map (some B)] 65) = w' :=
  (callsIn_wide.1 (Try.maps_Keys_32 (some B) W)).mono (fun e w' ⟨h1, h2⟩ => ⟨h1, h2.symm⟩)
theorem sorted_call {w : World} {base B n : Nat} {G : ByteArray → List Int} (h : GrpsF w base B n G) (hn : n ≤ 100000) :
    Calls Try.prog 31 #[.func (.func 48) #[] #[.pointer (some ⟨w.heap.size, 0, none⟩)]] (w.alloc (.cells #[.map (some B)] 65)) fun e w' => ∃ v names, e = .returned v ∧ KeysAre G names ∧ names.length ≤ n ∧ (∀ s ∈ names, s.size ≤ maxLen) ∧ OwnsT w' (w.heap.size + 1) v names ∧ Below w.heap.size w w' := by
  obtain ⟨D, R, hown, hG⟩ := owns_map h
  have hsz := hown.size_le
  refine (callsIn_wide.1 (Try.slices_Sorted_keys B n D R w hown (by unfold maxLen; omega) (by omega))).mono ?_
  rintro e w' ⟨v, ss, rfl, hp, hrow, hnil, hb⟩
  obtain ⟨hnd, hmem⟩ := mem_strKeys hown
  have hle := strKeys_le hown Try.underlying9
  have hpm : (ss.mergeSort (fun x y => decide (x ≤ y))).Perm (strKeys D) := (List.mergeSort_perm _ _).trans hp
  have hsorted : (ss.mergeSort (fun x y => decide (x ≤ y))).Pairwise (fun a b => a < b) := by
    have tr : ∀ a b c : List UInt8, decide (a ≤ b) = true → decide (b ≤ c) = true → decide (a ≤ c) = true := fun a b c h1 h2 => by simp only [decide_eq_true_eq] at *; exact List.le_trans h1 h2
    have tot : ∀ a b : List UInt8, (decide (a ≤ b) || decide (b ≤ a)) = true := fun a b => by simp only [Bool.or_eq_true, decide_eq_true_eq]; exact List.le_total a b
    have h1 := List.pairwise_mergeSort tr tot ss
    have h2 : (ss.mergeSort (fun x y => decide (x ≤ y))).Nodup := hpm.nodup_iff.2 hnd
    refine (h1.and h2).imp (fun {a b} hab => ?_)
    have hle' : a ≤ b := by simpa using hab.1
    rcases Classical.em (a < b) with hlt | hlt
    · exact hlt
    · exact absurd (List.le_antisymm hle' (List.not_lt.1 hlt)) hab.2
  refine ⟨v, (ss.mergeSort (fun x y => decide (x ≤ y))).map baOf, rfl, ⟨?_, fun s => ?_⟩, ?_, fun s hs => ?_, ?_, ?_⟩
  · unfold StrictB
    rw [List.pairwise_map]
    exact hsorted.imp (fun {a b} hab => by unfold ltB; rw [baOf_data, baOf_data]; exact decide_eq_true hab)
  · rw [List.mem_map]
    constructor
    · rintro ⟨l, hl, rfl⟩
      exact (hG _).1 ((hmem l).1 (hpm.mem_iff.1 hl))
    · intro hs
      exact ⟨s.data.toList, hpm.mem_iff.2 ((hmem _).2 ((hG s).2 hs)), baOf_self s⟩
  · rw [List.length_map, hpm.length_eq]
    have : (strKeys D).length = Maps.size D := by
      obtain ⟨es, rfl⟩ := hown.isMap
      simp [strKeys, Maps.size]
    omega
  · obtain ⟨l, hl, rfl⟩ := List.mem_map.1 hs
    have := hle l (hpm.mem_iff.1 hl)
    show l.toArray.size ≤ maxLen
    simpa using this
  · have e : ((ss.mergeSort (fun x y => decide (x ≤ y))).map baOf).map Value.string = (ss.mergeSort (fun x y => decide (x ≤ y))).map encStr := by
      rw [List.map_map]; rfl
    show w'.ownsRow _ _ _ _ _ _
    rw [e, List.length_map, (List.mergeSort_perm ss _).length_eq]
    have e2 : (w.alloc (.cells #[.map (some B)] 65)).heap.size = w.heap.size + 1 := by simp
    rw [← e2]
    exact hrow
  · exact below_ac (Below.refl _ w) (Nat.le_refl _) hb
/-- A slice reads as texts. -/
def ReadsT (w : World) (v : Value) (ls : List ByteArray) : Prop :=
  ∃ a cap, v = .slice a ls.length cap ∧ (0 < ls.length → ∃ g off, a = some ⟨g, off, none⟩ ∧ g < w.heap.size ∧ ∀ i (h : i < ls.length), w.cell? ⟨g, off + i, none⟩ = some (.string ls[i]))
theorem ReadsT.below {w w' : World} {v : Value} {ls : List ByteArray} (h : ReadsT w v ls) (hb : Below w.heap.size w w') : ReadsT w' v ls := by
  obtain ⟨a, cap, hv, hc⟩ := h
  exact ⟨a, cap, hv, fun h0 => by
    obtain ⟨g, off, ha, hg, hcc⟩ := hc h0
    exact ⟨g, off, ha, Nat.lt_of_lt_of_le hg hb.size, fun i h => (hb.cell (p := ⟨g, off + i, none⟩) hg).trans (hcc i h)⟩⟩
theorem owns_cell {W : World} {base g cap k : Nat} {ls : List ByteArray} (ho : OwnsT W base (.slice (some ⟨g, 0, none⟩) ls.length cap) ls) (hk : k < ls.length) : W.cell? ⟨g, k, none⟩ = some (.string ls[k]) := by
  rw [ho.cellAt k (by omega), List.getElem?_map, List.getElem?_eq_getElem hk]; rfl
theorem ReadsT.of_row {w : World} {v : Value} {base : Nat} {ls : List ByteArray} (ho : OwnsT w base v ls) : ReadsT w v ls := by
  rcases Joins.ownsRow_forms ho with ⟨rfl, hp⟩ | ⟨g, cap, rfl⟩
  · obtain rfl : ls = [] := List.length_eq_zero_iff.1 hp
    exact ⟨none, 0, rfl, fun h => absurd h (by simp)⟩
  · exact ⟨_, cap, rfl, fun _ => ⟨g, 0, rfl, (ho.lt g rfl).2, fun i h => by rw [Nat.zero_add]; exact owns_cell ho h⟩⟩
theorem groups1_any (s : ByteArray) (w : World) (hs : s.size ≤ maxLen) : Calls Try.prog 27 #[.string s] w fun e w' => e = .returned (.bool (!codeB s)) ∧ Below w.heap.size w w' := by
  go_enter Try.func27, Try.ntmps27
  go_wp2_with (go_at_call 28; refine (code_any _ _ hs).mono ?_; rintro e w1 ⟨rfl, hb1⟩)
  go_ret
  exact ⟨rfl, hb1⟩
theorem groups2_any (s : ByteArray) (g off n cap X : Nat) (p : Int) (w : World) (hX : w.cell? ⟨X, 0, none⟩ = some (.slice (some ⟨g, off, none⟩) n cap)) (hn : 0 < n) (hn2 : n ≤ 1000) (hp : w.cell? ⟨g, off + 1, none⟩ = some (.int .i64 p)) (hs : s.size ≤ maxLen) :
    Calls Try.prog 29 #[.string s, .pointer (some ⟨X, 0, none⟩)] w fun e w' => e = .returned (.bool (decide ((s.size : Int) < p))) ∧ w = w' := by
  unfold maxLen at hs
  go_enter Try.func29, Try.ntmps29
  go_wp2_with fail
  go_ret
  exact ⟨rfl, rfl⟩
set_option maxHeartbeats 1000000 in
theorem index1_any (cs : List ByteArray) (v : Value) (q : ByteArray → Bool) (w : World) (hr : ReadsT w v cs) (hl : cs.length ≤ 100000) (hcl : ∀ W, Below w.heap.size w W → ∀ s ∈ cs, Calls Try.prog 27 #[.string s] W fun e w' => e = .returned (.bool (q s)) ∧ Below W.heap.size W w') :
    Calls Try.prog 45 #[v, .func (.func 27) #[] #[]] w fun e w' => ∃ i : Int, e = .returned (.int .i64 i) ∧ decide (0 ≤ i) = cs.any q ∧ Below w.heap.size w w' := by
  obtain ⟨a, cap, rfl, hc⟩ := hr
  have HC := Lib.hid hc
  have HCL := Lib.hid hcl
  clear hc hcl
  go_enter Try.func45, Try.ntmps45
  go_wp2_with fail
  go_loopw [8] (fun i wr => ∃ k : Nat, k ≤ cs.length ∧ i = .int .i64 k ∧ Hid (∀ j, j < k → ∀ h : j < cs.length, q cs[j] = false) ∧ Below w.heap.size w wr) (fun i _ => cs.length - (intOf i).toNat)
  case atStart => exact ⟨0, Nat.zero_le _, rfl, fun j h => by omega, Below.refl _ _⟩
  case round =>
    obtain ⟨k, hk, rfl, ha, hB⟩ := hrel
    by_cases hlt : k < cs.length
    · obtain ⟨g, off, rfl, hg, hcc⟩ := HC.out (by omega)
      have c : wr.cell? ⟨g, off + k, none⟩ = some (.string cs[k]) := (hB.cell (p := ⟨g, off + k, none⟩) hg).trans (hcc k hlt)
      have hn : Hid (q cs[k] = false → ∀ j, j < k + 1 → ∀ h : j < cs.length, q cs[j] = false) := fun h1 j hj h => by
        by_cases e : j = k
        · subst e; exact h1
        · exact ha j (by omega) h
      have hf : Hid (q cs[k] = true → cs.any q = true) := fun h1 => List.any_eq_true.2 ⟨_, List.getElem_mem hlt, h1⟩
      have H1 := Lib.hid (HCL.out wr hB cs[k] (List.getElem_mem hlt))
      clear HC HCL hcc
      generalize cs[k] = s at c hn hf H1
      cases hd : q s
      all_goals rw [hd] at H1
      all_goals go_wp2_with (go_at_call 27; refine H1.out.mono ?_; rintro e w2 ⟨rfl, hb2⟩)
      · go_roundw
        case rel => exact ⟨k + 1, by omega, by go_num, hn.out hd, below_c hB hB.size hb2⟩
        case measure => simp [intOf]; omega
      · go_ret
        exact ⟨_, rfl, by rw [hf.out hd]; simp, below_c hB hB.size hb2⟩
    · have hno : cs.any q = false := by
        rw [List.any_eq_false]
        intro x hx
        obtain ⟨j, hj, rfl⟩ := List.mem_iff_getElem.1 hx
        rw [ha j (by omega) hj]; simp
      have HNO := Lib.hid hno
      clear hno
      go_wp2_with fail
      go_ret
      exact ⟨_, rfl, by rw [HNO.out]; rfl, hB⟩
theorem contains1_any (cs : List ByteArray) (v : Value) (q : ByteArray → Bool) (w : World) (hr : ReadsT w v cs) (hl : cs.length ≤ 100000) (hcl : ∀ W, Below w.heap.size w W → ∀ s ∈ cs, Calls Try.prog 27 #[.string s] W fun e w' => e = .returned (.bool (q s)) ∧ Below W.heap.size W w') :
    Calls Try.prog 26 #[v, .func (.func 27) #[] #[]] w fun e w' => e = .returned (.bool (cs.any q)) ∧ Below w.heap.size w w' := by
  have H := Lib.hid (index1_any cs v q w hr hl hcl)
  clear hr hcl
  go_enter Try.func26, Try.ntmps26
  go_wp2_with (go_at_call 45; refine H.out.mono ?_; rintro e w' ⟨i, rfl, hi, hb⟩; have HI := Lib.hid hi; clear hi)
  go_ret
  exact ⟨ret_bool HI.out, hb⟩
set_option maxHeartbeats 1000000 in
theorem index2_any (cs : List ByteArray) (v : Value) (X : Nat) (q : ByteArray → Bool) (w : World) (hr : ReadsT w v cs) (hl : cs.length ≤ 100000) (hcl : ∀ W, Below w.heap.size w W → ∀ s ∈ cs, Calls Try.prog 29 #[.string s, .pointer (some ⟨X, 0, none⟩)] W fun e w' => e = .returned (.bool (q s)) ∧ Below W.heap.size W w') :
    Calls Try.prog 45 #[v, .func (.func 29) #[] #[.pointer (some ⟨X, 0, none⟩)]] w fun e w' => ∃ i : Int, e = .returned (.int .i64 i) ∧ decide (0 ≤ i) = cs.any q ∧ Below w.heap.size w w' := by
  obtain ⟨a, cap, rfl, hc⟩ := hr
  have HC := Lib.hid hc
  have HCL := Lib.hid hcl
  clear hc hcl
  go_enter Try.func45, Try.ntmps45
  go_wp2_with fail
  go_loopw [8] (fun i wr => ∃ k : Nat, k ≤ cs.length ∧ i = .int .i64 k ∧ Hid (∀ j, j < k → ∀ h : j < cs.length, q cs[j] = false) ∧ Below w.heap.size w wr) (fun i _ => cs.length - (intOf i).toNat)
  case atStart => exact ⟨0, Nat.zero_le _, rfl, fun j h => by omega, Below.refl _ _⟩
  case round =>
    obtain ⟨k, hk, rfl, ha, hB⟩ := hrel
    by_cases hlt : k < cs.length
    · obtain ⟨g, off, rfl, hg, hcc⟩ := HC.out (by omega)
      have c : wr.cell? ⟨g, off + k, none⟩ = some (.string cs[k]) := (hB.cell (p := ⟨g, off + k, none⟩) hg).trans (hcc k hlt)
      have hn : Hid (q cs[k] = false → ∀ j, j < k + 1 → ∀ h : j < cs.length, q cs[j] = false) := fun h1 j hj h => by
        by_cases e : j = k
        · subst e; exact h1
        · exact ha j (by omega) h
      have hf : Hid (q cs[k] = true → cs.any q = true) := fun h1 => List.any_eq_true.2 ⟨_, List.getElem_mem hlt, h1⟩
      have H1 := Lib.hid (HCL.out wr hB cs[k] (List.getElem_mem hlt))
      clear HC HCL hcc
      generalize cs[k] = s at c hn hf H1
      cases hd : q s
      all_goals rw [hd] at H1
      all_goals go_wp2_with (go_at_call 29; refine H1.out.mono ?_; rintro e w2 ⟨rfl, hb2⟩)
      · go_roundw
        case rel => exact ⟨k + 1, by omega, by go_num, hn.out hd, below_c hB hB.size hb2⟩
        case measure => simp [intOf]; omega
      · go_ret
        exact ⟨_, rfl, by rw [hf.out hd]; simp, below_c hB hB.size hb2⟩
    · have hno : cs.any q = false := by
        rw [List.any_eq_false]
        intro x hx
        obtain ⟨j, hj, rfl⟩ := List.mem_iff_getElem.1 hx
        rw [ha j (by omega) hj]; simp
      have HNO := Lib.hid hno
      clear hno
      go_wp2_with fail
      go_ret
      exact ⟨_, rfl, by rw [HNO.out]; rfl, hB⟩
theorem contains2_any (cs : List ByteArray) (v : Value) (X : Nat) (q : ByteArray → Bool) (w : World) (hr : ReadsT w v cs) (hl : cs.length ≤ 100000) (hcl : ∀ W, Below w.heap.size w W → ∀ s ∈ cs, Calls Try.prog 29 #[.string s, .pointer (some ⟨X, 0, none⟩)] W fun e w' => e = .returned (.bool (q s)) ∧ Below W.heap.size W w') :
    Calls Try.prog 26 #[v, .func (.func 29) #[] #[.pointer (some ⟨X, 0, none⟩)]] w fun e w' => e = .returned (.bool (cs.any q)) ∧ Below w.heap.size w w' := by
  have H := Lib.hid (index2_any cs v X q w hr hl hcl)
  clear hr hcl
  go_enter Try.func26, Try.ntmps26
  go_wp2_with (go_at_call 45; refine H.out.mono ?_; rintro e w' ⟨i, rfl, hi, hb⟩; have HI := Lib.hid hi; clear hi)
  go_ret
  exact ⟨ret_bool HI.out, hb⟩
end Go.Proofs.Ytdahgfopighhlaa
