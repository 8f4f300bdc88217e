/-
  What the walks of the laws share: right schemes in plain words, codes of five digits, paths.
-/
import Derived.Test.YtdahgfopighhlaaSP
import Derived.Test.YtdahgfopighhlaaSQ
namespace Go.Proofs.Ytdahgfopighhlaa
open Go.RowKit
set_option linter.unusedVariables false
set_option maxRecDepth 100000
theorem right_fits {ls : List Lev} (h : rightB ls = true) : ∀ l ∈ ls, LevFits l := by
  intro l hl
  obtain ⟨i, hi, rfl⟩ := List.mem_iff_getElem.1 hl
  obtain ⟨_, _, ⟨hs, hlv, _, _⟩, _⟩ := rightB_iff.1 h
  obtain ⟨hh, hr⟩ := levelB_iff.1 (hlv i hi hi)
  obtain ⟨hn, _⟩ := head_parts hh
  have nm : ∀ s : ByteArray, nameB s = true → s.size ≤ maxLen := fun s hs => by
    unfold nameB at hs
    simp at hs
    unfold maxLen
    omega
  have hlen : ls[i].labs.length ≤ 200 := by
    have h1 := sumTo_succ ls i hi
    have h2 := sumTo_mono ls (show i + 1 ≤ ls.length from hi)
    omega
  refine ⟨nm _ hn, by omega, fun x hx => ?_⟩
  obtain ⟨k, hk, rfl⟩ := List.mem_iff_getElem.1 hx
  cases hb : decide (i + 1 = ls.length)
  · rw [hb] at hr
    simp only [Bool.false_eq_true, if_false] at hr
    have := (hr.2 k hk hk).1
    have hf := (right_level h i hi).2.1 _ (List.getElem_mem hk)
    have hf2 := (right_level h i hi).2.2.2
    unfold labOk at this
    simp only [Bool.and_eq_true] at this
    exact ⟨by unfold maxLen; omega, nm _ this.2⟩
  · rw [hb] at hr
    simp only [if_true] at hr
    omega
theorem code5_ok (x : UInt8) : codeB (code5 x) = true := by
  have h : (List.range 256).all (fun n => codeB (code5 (UInt8.ofNat n))) = true := by kernel_rfl
  have := List.all_eq_true.1 h x.toNat (List.mem_range.2 x.toNat_lt)
  simpa using this
theorem addL_pre {least cents : List UInt8} {out : List Lev} {l : Lev} (h : ∀ x ∈ out, x.pre ≤ 5) (hl : l.pre ≤ 5) : ∀ x ∈ addL least cents out l, x.pre ≤ 5 := by
  unfold addL
  intro x hx
  rcases List.mem_append.1 hx with hx | hx
  · exact h x hx
  · rw [List.mem_singleton.1 hx]; exact hl
theorem made_pre (B : Bits) (least cents : List UInt8) : ∀ l ∈ madeR B least cents, l.pre ≤ 5 := by
  have h1 : ∀ x ∈ mk1 B least cents, x.pre ≤ 5 := by
    unfold mk1
    split
    · exact addL_pre (by simp) (by show (5 : Int) ≤ 5; decide)
    · simp
  have h2 : ∀ x ∈ mk2 B least cents, x.pre ≤ 5 := by
    unfold mk2
    split
    · exact addL_pre h1 (by show (3 : Int) ≤ 5; decide)
    · exact h1
  have h3 : ∀ x ∈ mk3 B least cents, x.pre ≤ 5 := by
    unfold mk3
    split
    · exact addL_pre h2 (by show (1 : Int) ≤ 5; decide)
    · exact h2
  intro l hl
  unfold madeR at hl
  rcases List.mem_append.1 hl with hl | hl
  · exact h3 l hl
  · rw [List.mem_singleton.1 hl]; show (0 : Int) ≤ 5; decide
theorem right_last {ls : List Lev} (h : rightB ls = true) (i : Nat) (hi : i + 1 = ls.length) (c : ByteArray) : grpOf (ls[i]'(by omega)) c = ⟨#[]⟩ := by
  obtain ⟨_, _, ⟨_, hlv, _, _⟩, _⟩ := rightB_iff.1 h
  obtain ⟨_, hr⟩ := levelB_iff.1 (hlv i (by omega) (by omega))
  rw [decide_eq_true hi] at hr
  simp only [if_true] at hr
  obtain ⟨_, hp, hl⟩ := hr
  have hl' : (ls[i]'(by omega)).labs = [] := List.length_eq_zero_iff.1 hl
  unfold grpOf
  rw [hp, hl']
  apply ba_inj
  unfold labOf
  simp
/-- The groups of a code at all levels. -/
def pathL (ls : List Lev) (c : ByteArray) : List ByteArray := ls.map (fun l => grpOf l c)
theorem pathR_ok {ls : List Lev} {c : ByteArray} (h : rightB ls = true) (hc : codeB c = true) (hp : ∀ l ∈ ls, l.pre ≤ c.size) : pathR ls c = (pathL ls c, 0) := by
  unfold pathR
  rw [if_pos ⟨h, hc⟩]
  cases ls with
  | nil => have := (right_len h).1; simp at this
  | cons l r =>
    have := hp l List.mem_cons_self
    dsimp only
    rw [if_neg (by omega)]
    rfl
theorem findR_ok {ls : List Lev} {c : ByteArray} (h : rightB ls = true) (hc : codeB c = true) (hp : ∀ l ∈ ls, l.pre ≤ c.size) (i : Nat) (hi : i < ls.length) : findR ls i c = (grpOf ls[i] c, 0) := by
  unfold findR
  rw [if_pos ⟨h, by omega, by omega, hc⟩]
  simp only [Int.toNat_natCast]
  rw [List.getElem?_eq_getElem hi]
  have := hp _ (List.getElem_mem hi)
  dsimp only
  rw [if_neg (by omega)]
theorem codeB_plain {c : ByteArray} (h : codeB c = true) : plainB c = true := by unfold codeB at h; simp at h; exact h.2
theorem path_nests {ls : List Lev} {c d : ByteArray} (h : rightB ls = true) (hc : codeB c = true) (hd : codeB d = true) (hpc : ∀ l ∈ ls, l.pre ≤ c.size) (hpd : ∀ l ∈ ls, l.pre ≤ d.size) (i : Nat) (hi : i + 1 < ls.length) (e : grpOf ls[i] c = grpOf ls[i] d) : grpOf ls[i + 1] c = grpOf ls[i + 1] d := by
  obtain ⟨_, _, ⟨_, _, _, hm⟩, hn⟩ := rightB_iff.1 h
  exact nest_share (nestedB_iff.1 (hn i hi)) (right_level h (i + 1) hi).2.2.1 (hm (i + 1) hi hi i rfl (by omega)) (codeB_plain hc) (codeB_plain hd) (hpc _ (List.getElem_mem _)) (hpd _ (List.getElem_mem _)) e
theorem path_ok (ls : List Lev) (v : Value) (c : ByteArray) (w W : World) (hr : RdLevs W v ls) (h : rightB ls = true) (hc : codeB c = true) (hp : ∀ l ∈ ls, l.pre ≤ c.size) (hw : Below w.heap.size w W) :
    Calls Try.prog 17 #[v, .string c] W fun e w' => ∃ g cap, e = .returned (.tuple #[.slice (some ⟨g, 0, none⟩) ls.length cap, .int .i64 0]) ∧ Below w.heap.size w w' ∧ Below W.heap.size W w' ∧ g < w'.heap.size ∧ ∀ i (hi : i < ls.length), w'.cell? ⟨g, i, none⟩ = some (.string (grpOf ls[i] c)) := by
  have hl := right_len h
  refine (path_any ls v c W hr (right_fits h) (by unfold maxLen; omega) (by have := codeB_size hc; unfold maxLen; omega)).mono ?_
  rintro e w' ⟨v', rfl, hb, ho⟩
  rw [pathR_ok h hc hp] at ho ⊢
  have hlen : (pathL ls c).length = ls.length := by unfold pathL; simp
  obtain ⟨g, cap, rfl⟩ := Joins.ownsRow_form ho (by rw [hlen]; omega)
  refine ⟨g, cap, by rw [hlen], below_c hw hw.size hb, hb, (ho.lt g rfl).2, fun i hi => ?_⟩
  have := owns_cell ho (k := i) (by rw [hlen]; exact hi)
  rw [this]
  unfold pathL
  simp
theorem find_ok (ls : List Lev) (v : Value) (c : ByteArray) (i : Nat) (w W : World) (hr : RdLevs W v ls) (h : rightB ls = true) (hc : codeB c = true) (hp : ∀ l ∈ ls, l.pre ≤ c.size) (hi : i < ls.length) (hw : Below w.heap.size w W) :
    Calls Try.prog 19 #[v, .int .i64 (i : Nat), .string c] W fun e w' => e = .returned (.tuple #[.string (grpOf ls[i] c), .int .i64 0]) ∧ Below w.heap.size w w' ∧ Below W.heap.size W w' := by
  have hl := right_len h
  refine (find_any ls v i c W hr (right_fits h) (by unfold maxLen; omega) (by have := codeB_size hc; unfold maxLen; omega)).mono ?_
  rintro e w' ⟨rfl, hb⟩
  rw [findR_ok h hc hp i hi]
  exact ⟨rfl, below_c hw hw.size hb, hb⟩
theorem right_ok (ls : List Lev) (v : Value) (w W : World) (hr : RdLevs W v ls) (h : rightB ls = true) (hw : Below w.heap.size w W) :
    Calls Try.prog 13 #[v] W fun e w' => e = .returned (.bool true) ∧ Below w.heap.size w w' ∧ Below W.heap.size W w' := by
  have hl := right_len h
  refine (right_any ls v W hr (right_fits h) (by unfold maxLen; omega)).mono ?_
  rintro e w' ⟨rfl, hb⟩
  rw [h]
  exact ⟨rfl, below_c hw hw.size hb, hb⟩
theorem rd_bytes0 (w : World) : RdBytes w (.slice none 0 0) [] := ⟨none, 0, rfl, fun h => absurd h (by simp)⟩
theorem rd_bytes {W : World} {n : Nat} {T : TypeId} (ls : List UInt8) (h : W.heap[n]? = some (.cells (ls.map (fun c => Value.int .u8 (c.toNat : Int))).toArray T (0, 0))) : RdBytes W (.slice (some ⟨n, 0, none⟩) ls.length ls.length) ls := by
  refine ⟨_, _, rfl, fun _ => ⟨n, 0, rfl, (Array.getElem?_eq_some_iff.1 h).1, fun i hi => ?_⟩⟩
  rw [Nat.zero_add, cell_of_row _ n i _ _ _ h]
  simp [hi]
theorem bytes_made {n : Int} (w W : World) (hn0 : 0 ≤ n) (hn1 : n < 4294967296) (hw : Below w.heap.size w W) :
    Calls Try.prog 11 #[.int .u32 n, .slice none 0 0, .slice none 0 0] W fun e w' => ∃ v, e = .returned v ∧ Below w.heap.size w w' ∧ Below W.heap.size W w' ∧ OwnsLv w' W.heap.size v (madeR (bitsOf n) [] []) := by
  refine (made_any n _ _ [] [] W hn0 hn1 (rd_bytes0 W) (rd_bytes0 W) (by decide) (by decide)).mono ?_
  rintro e w' ⟨v, rfl, hb, ho⟩
  exact ⟨v, rfl, below_c hw hw.size hb, hb, ho⟩
end Go.Proofs.Ytdahgfopighhlaa
