import Derived.Test.YtelklmdlodgdpaaGreatGB
import Derived.Deep.CutBlock
import Derived.Deep.RegionLaw
/-! SI -/
namespace Go.Proofs.YtelklmdlodgdpaaGreat
open Go.RowKit
set_option linter.unusedVariables false
def sortedC : List Lab → Bool
  | x :: y :: r => ltB x.pre y.pre && sortedC (y :: r)
  | _ => true
theorem sortedC_iff : ∀ l : List Lab, sortedC l = true ↔ sortedB l
  | [] => ⟨fun _ i h => by simp at h, fun _ => rfl⟩
  | [x] => ⟨fun _ i h => by simp at h, fun _ => rfl⟩
  | x :: y :: r => by
    unfold sortedC
    rw [Bool.and_eq_true, sortedC_iff (y :: r)]
    constructor
    · rintro ⟨h1, h2⟩ i hi
      cases i with
      | zero => exact h1
      | succ i => exact h2 i (by simpa using hi)
    · intro h
      exact ⟨h 0 (by simp), fun i hi => h (i + 1) (by simpa using hi)⟩
def levelC (l : Lev) (last : Bool) : Bool := headB l && if last then (decide (l.min = 0) && decide (l.pre = 0) && decide (l.labs.length = 0)) else (decide (1 ≤ l.min) && decide (l.min ≤ 2000) && l.labs.all (labOk l) && sortedC l.labs)
theorem labsTo_iff (l : Lev) : labsTo l l.labs.length ↔ (l.labs.all (labOk l) = true ∧ sortedC l.labs = true) := by
  rw [sortedC_iff, List.all_eq_true]
  constructor
  · intro h
    exact ⟨fun x hx => by obtain ⟨i, hi, rfl⟩ := List.mem_iff_getElem.1 hx; exact (h i hi hi).1, fun i hi => (h (i + 1) hi hi).2 i rfl (by omega)⟩
  · rintro ⟨h1, h2⟩ i hi h
    exact ⟨h1 _ (List.getElem_mem h), fun j hj h' => by subst hj; exact h2 j h⟩
theorem levelC_iff {l : Lev} {last : Bool} : levelC l last = true ↔ levelP l last := by
  unfold levelC levelP
  rw [Bool.and_eq_true]
  cases last
  · simp only [Bool.false_eq_true, if_false, Bool.and_eq_true, decide_eq_true_eq]
    rw [labsTo_iff]
    constructor
    · rintro ⟨a, ⟨⟨b, c⟩, d⟩, e⟩; exact ⟨a, ⟨b, c⟩, d, e⟩
    · rintro ⟨a, ⟨b, c⟩, d, e⟩; exact ⟨a, ⟨⟨b, c⟩, d⟩, e⟩
  · simp only [if_true, Bool.and_eq_true, decide_eq_true_eq]
    constructor
    · rintro ⟨a, ⟨b, c⟩, d⟩; exact ⟨a, b, c, d⟩
    · rintro ⟨a, b, c, d⟩; exact ⟨a, ⟨b, c⟩, d⟩
theorem levelB_eq (l : Lev) (last : Bool) : levelB l last = levelC l last := by rw [Bool.eq_iff_iff, levelB_iff, levelC_iff]
def nestC (l next : Lev) : Bool := (l.labs.flatMap (pairsL l)).all (fun x => (l.labs.flatMap (pairsL l)).all (fun y => !decide (x.1 = y.1) || decide (grpOf next x.2 = grpOf next y.2)))
theorem nestC_iff {l next : Lev} : nestC l next = true ↔ nestedP l next := by
  unfold nestC nestedP
  simp only [List.all_eq_true, Bool.or_eq_true, Bool.not_eq_true', decide_eq_false_iff_not, decide_eq_true_eq]
  constructor
  · intro h x hx y hy e
    rcases h x hx y hy with h' | h'
    · exact absurd e h'
    · exact h'
  · intro h x hx y hy
    by_cases e : x.1 = y.1
    · exact .inr (h x hx y hy e)
    · exact .inl e
theorem nestedB_eq (l next : Lev) : nestedB l next = nestC l next := by rw [Bool.eq_iff_iff, nestedB_iff, nestC_iff]
def levelsC : List Lev → Bool
  | [] => true
  | [l] => levelC l true
  | l :: m :: r => levelC l false && levelsC (m :: r)
def namesC : List Lev → Bool
  | [] => true
  | l :: r => r.all (fun m => !decide (l.name = m.name)) && namesC r
def chainC : List Lev → Bool
  | l :: m :: r => decide (m.pre ≤ l.pre) && nestC l m && chainC (m :: r)
  | _ => true
def rightC (ls : List Lev) : Bool := decide (1 ≤ ls.length) && decide (ls.length ≤ 6) && decide ((ls.map (fun l => l.labs.length)).sum ≤ 200) && levelsC ls && namesC ls && chainC ls
theorem levelsC_iff : ∀ ls : List Lev, levelsC ls = true ↔ ∀ i (h : i < ls.length), levelB ls[i] (decide (i + 1 = ls.length)) = true
  | [] => ⟨fun _ i h => by simp at h, fun _ => rfl⟩
  | [l] => by
    unfold levelsC
    rw [← levelB_eq]
    exact ⟨fun h i hi => by obtain rfl : i = 0 := by simpa using hi
                            exact h, fun h => h 0 (by simp)⟩
  | l :: m :: r => by
    unfold levelsC
    rw [Bool.and_eq_true, levelsC_iff (m :: r), ← levelB_eq]
    constructor
    · rintro ⟨h1, h2⟩ i hi
      cases i with
      | zero => simpa using h1
      | succ i =>
        have := h2 i (by simpa using hi)
        simpa using this
    · intro h
      refine ⟨?_, fun i hi => ?_⟩
      · have := h 0 (by simp)
        simpa using this
      · have := h (i + 1) (by simpa using hi)
        simpa using this
theorem namesC_iff : ∀ ls : List Lev, namesC ls = true ↔ ∀ i (h : i < ls.length) j, (hj : j < i) → (ls[j]'(by omega)).name ≠ ls[i].name
  | [] => ⟨fun _ i h => by simp at h, fun _ => rfl⟩
  | l :: r => by
    unfold namesC
    rw [Bool.and_eq_true, namesC_iff r, List.all_eq_true]
    constructor
    · rintro ⟨h1, h2⟩ i hi j hj
      cases i with
      | zero => omega
      | succ i =>
        cases j with
        | zero => simpa using h1 _ (List.getElem_mem (show i < r.length by simpa using hi))
        | succ j => exact h2 i (by simpa using hi) j (by omega)
    · intro h
      refine ⟨fun m hm => ?_, fun i hi j hj => h (i + 1) (by simpa using hi) (j + 1) (by omega)⟩
      obtain ⟨i, hi, rfl⟩ := List.mem_iff_getElem.1 hm
      have := h (i + 1) (by simpa using hi) 0 (by omega)
      simpa using this
theorem chainC_iff : ∀ ls : List Lev, chainC ls = true ↔ ∀ i (h : i + 1 < ls.length), ls[i + 1].pre ≤ ls[i].pre ∧ nestedB ls[i] ls[i + 1] = true
  | [] => ⟨fun _ i h => by simp at h, fun _ => rfl⟩
  | [l] => ⟨fun _ i h => by simp at h, fun _ => rfl⟩
  | l :: m :: r => by
    unfold chainC
    rw [Bool.and_eq_true, Bool.and_eq_true, chainC_iff (m :: r), ← nestedB_eq, decide_eq_true_eq]
    constructor
    · rintro ⟨h1, h2⟩ i hi
      cases i with
      | zero => exact h1
      | succ i => exact h2 i (by simpa using hi)
    · intro h
      exact ⟨h 0 (by simp), fun i hi => h (i + 1) (by simpa using hi)⟩
theorem rightB_eq (ls : List Lev) : rightB ls = rightC ls := by
  rw [Bool.eq_iff_iff, rightB_iff]
  unfold rightC
  simp only [Bool.and_eq_true, decide_eq_true_eq]
  rw [levelsC_iff, namesC_iff, chainC_iff]
  unfold rightP okTo
  have es : sumTo ls ls.length = (ls.map (fun l => l.labs.length)).sum := by unfold sumTo; rw [List.take_of_length_le (Nat.le_refl _)]
  rw [es]
  constructor
  · rintro ⟨a, b, ⟨c, d, e, f⟩, g⟩
    exact ⟨⟨⟨⟨⟨a, b⟩, c⟩, fun i h => d i h h⟩, fun i h j hj => e i h h j hj (by omega)⟩, fun i h => ⟨f (i + 1) h h i rfl (by omega), g i h⟩⟩
  · rintro ⟨⟨⟨⟨⟨a, b⟩, c⟩, d⟩, e⟩, f⟩
    exact ⟨a, b, ⟨c, fun i _ h => d i h, fun i _ h j hj h' => e i h j hj, fun i _ h j hj h' => by subst hj; exact (f j h).1⟩, fun i h => (f i h).2⟩
end Go.Proofs.YtelklmdlodgdpaaGreat

/-! SJ -/
namespace Go.Proofs.YtelklmdlodgdpaaGreat
open Go.RowKit
set_option linter.unusedVariables false
set_option maxRecDepth 100000
theorem rd_nil (w : World) : RdLabs w (.slice none 0 0) [] := ⟨none, 0, rfl, fun h => absurd h (by simp)⟩
theorem groupsR_ok {ls : List Lev} {cs : List ByteArray} (h1 : rightB ls = true) (h2 : cs.length ≤ 2000) (h3 : ∀ c ∈ cs, codeB c = true) (h4 : cs.any (shortB ls) = false) : groupsR ls cs = ((gTo ls cs ls.length).1, 0) := by
  unfold groupsR; rw [if_neg (by omega), if_pos ⟨h1, h3⟩, h4]; rfl
theorem rd_texts {W : World} {n : Nat} {T : TypeId} (ls : List ByteArray) (h : W.heap[n]? = some (.cells (ls.map Value.string).toArray T (0, 0))) : ReadsT W (.slice (some ⟨n, 0, none⟩) ls.length ls.length) ls := by
  refine ⟨_, _, rfl, fun _ => ⟨n, 0, rfl, (Array.getElem?_eq_some_iff.1 h).1, fun i hi => ?_⟩⟩
  rw [Nat.zero_add, cell_of_row _ n i _ _ _ h]
  simp [hi]
def allocs (W : World) (os : List Obj) : World := os.foldl World.alloc W
theorem allocs_heap (os : List Obj) : ∀ W : World, (allocs W os).heap.toList = W.heap.toList ++ os := by
  induction os with
  | nil => intro W; simp [allocs]
  | cons o r ih =>
    intro W
    show (allocs (W.alloc o) r).heap.toList = _
    rw [ih]
    show (W.heap.push o).toList ++ r = _
    simp
theorem allocs_block (W : World) (os : List Obj) (j : Nat) {o : Obj} (h : os[j]? = some o) : (allocs W os).heap[W.heap.size + j]? = some o := by
  rw [← Array.getElem?_toList, allocs_heap, List.getElem?_append_right (by simp)]
  simpa using h
theorem allocs_below (os : List Obj) : ∀ (B : Nat) (w W : World), Below B w W → B ≤ W.heap.size → Below B w (allocs W os) := by
  induction os with
  | nil => intro B w W h _; exact h
  | cons o r ih => intro B w W h hB; exact ih B w (W.alloc o) (h.alloc hB o) (by simp; omega)
end Go.Proofs.YtelklmdlodgdpaaGreat

/-! SL -/
namespace Go.Proofs.YtelklmdlodgdpaaGreat
open Go.RowKit
set_option linter.unusedVariables false
set_option maxRecDepth 100000
/-- A slice reads as bytes. -/
def RdBytes (w : World) (v : Value) (bs : List UInt8) : Prop :=
  ∃ a cap, v = .slice a bs.length cap ∧ (0 < bs.length → ∃ g off, a = some ⟨g, off, none⟩ ∧ g < w.heap.size ∧ ∀ i (h : i < bs.length), w.cell? ⟨g, off + i, none⟩ = some (.int .u8 (bs[i].toNat : Int)))
theorem RdBytes.below {w w' : World} {v : Value} {zs : List UInt8} (h : RdBytes w v zs) (hb : Below w.heap.size w w') : RdBytes w' v zs := by
  obtain ⟨a, cap, hv, hc⟩ := h
  exact ⟨a, cap, hv, fun h0 => by
    obtain ⟨g, off, ha, hg, hcc⟩ := hc h0
    exact ⟨g, off, ha, Nat.lt_of_lt_of_le hg hb.size, fun i h => (hb.cell (p := ⟨g, off + i, none⟩) hg).trans (hcc i h)⟩⟩
def code5 (x : UInt8) : ByteArray := ⟨#[49 + x % 3, 48 + x / 3 % 3, 48 + x / 9 % 3, 48 + x / 27 % 3, 48 + x / 81 % 3]⟩
def codesOf (bs : List UInt8) : List ByteArray := (bs.take 2000).map code5
theorem code5_size (x : UInt8) : (code5 x).size = 5 := rfl
theorem conv_back (W : World) (x : UInt8) : Sem.run Tryz.prog (convert 23 9 (.slice (some ⟨W.heap.size, 0, none⟩) 5 5)) (W.alloc (.cells #[.int .u8 (49 + (x.toNat : Int) % 3), .int .u8 (48 + (x.toNat : Int) / 3 % 3), .int .u8 (48 + (x.toNat : Int) / 9 % 3), .int .u8 (48 + (x.toNat : Int) / 27 % 3), .int .u8 (48 + (x.toNat : Int) / 81 % 3)] 5)) =
    .ok (.string (code5 x)) (W.alloc (.cells #[.int .u8 (49 + (x.toNat : Int) % 3), .int .u8 (48 + (x.toNat : Int) / 3 % 3), .int .u8 (48 + (x.toNat : Int) / 9 % 3), .int .u8 (48 + (x.toNat : Int) / 27 % 3), .int .u8 (48 + (x.toNat : Int) / 81 % 3)] 5)) := by
  have hx : x.toNat < 256 := x.toNat_lt
  have e1 : (((49 + x % 3 : UInt8)).toNat : Int) = 49 + (x.toNat : Int) % 3 := by rw [UInt8.toNat_add, UInt8.toNat_mod]; simp; omega
  have e2 : (((48 + x / 3 % 3 : UInt8)).toNat : Int) = 48 + (x.toNat : Int) / 3 % 3 := by rw [UInt8.toNat_add, UInt8.toNat_mod, UInt8.toNat_div]; simp; omega
  have e3 : (((48 + x / 9 % 3 : UInt8)).toNat : Int) = 48 + (x.toNat : Int) / 9 % 3 := by rw [UInt8.toNat_add, UInt8.toNat_mod, UInt8.toNat_div]; simp; omega
  have e4 : (((48 + x / 27 % 3 : UInt8)).toNat : Int) = 48 + (x.toNat : Int) / 27 % 3 := by rw [UInt8.toNat_add, UInt8.toNat_mod, UInt8.toNat_div]; simp; omega
  have e5 : (((48 + x / 81 % 3 : UInt8)).toNat : Int) = 48 + (x.toNat : Int) / 81 % 3 := by rw [UInt8.toNat_add, UInt8.toNat_mod, UInt8.toNat_div]; simp; omega
  refine run_convert_bytes_back (P := Tryz.prog) _ 23 9 5 ⟨W.heap.size, 0, none⟩ 5 [49 + x % 3, 48 + x / 3 % 3, 48 + x / 9 % 3, 48 + x / 27 % 3, 48 + x / 81 % 3] Tryz.underlying23 Tryz.underlying5 Tryz.underlying9 (fun j hj => ?_)
  have ea : (⟨W.heap.size, 0, none⟩ : Addr).add j = ⟨W.heap.size, j, none⟩ := by unfold Addr.add; split <;> simp_all
  rw [ea, cell_of_row _ W.heap.size j _ _ _ (alloc_new W _)]
  have hj5 : j < 5 := hj
  have h5 : j = 0 ∨ j = 1 ∨ j = 2 ∨ j = 3 ∨ j = 4 := by omega
  rcases h5 with rfl | rfl | rfl | rfl | rfl
  · show some (Value.int .u8 (49 + (x.toNat : Int) % 3)) = some (.int .u8 (((49 + x % 3 : UInt8)).toNat : Int)); rw [e1]
  · show some (Value.int .u8 (48 + (x.toNat : Int) / 3 % 3)) = some (.int .u8 (((48 + x / 3 % 3 : UInt8)).toNat : Int)); rw [e2]
  · show some (Value.int .u8 (48 + (x.toNat : Int) / 9 % 3)) = some (.int .u8 (((48 + x / 9 % 3 : UInt8)).toNat : Int)); rw [e3]
  · show some (Value.int .u8 (48 + (x.toNat : Int) / 27 % 3)) = some (.int .u8 (((48 + x / 27 % 3 : UInt8)).toNat : Int)); rw [e4]
  · show some (Value.int .u8 (48 + (x.toNat : Int) / 81 % 3)) = some (.int .u8 (((48 + x / 81 % 3 : UInt8)).toNat : Int)); rw [e5]
set_option maxHeartbeats 4000000 in
theorem codes_any (bs : List UInt8) (v : Value) (w : World) (hr : RdBytes w v bs) (hl : bs.length ≤ maxLen) :
    Calls Tryz.prog 47 #[v] w fun e w' => ∃ v, e = .returned v ∧ Below w.heap.size w w' ∧ OwnsT w' w.heap.size v (codesOf bs) := by
  unfold maxLen at hl
  obtain ⟨a, cap, rfl, hc⟩ := hr
  have HC := Lib.hid hc
  clear hc
  obtain ⟨i0, hi⟩ := info_parts Tryz.infoS
  have HI := Lib.hid hi
  clear hi
  go_enter Tryz.func47, Tryz.ntmps47
  go_wp2_with fail
  go_loopw [3, 4] (fun v i wr => ∃ k : Nat, k ≤ bs.length ∧ k ≤ 2000 ∧ i = .int .i64 k ∧ Below w.heap.size w wr ∧ OwnsT wr w.heap.size v ((bs.take k).map code5)) (fun _ i _ => bs.length - (intOf i).toNat)
  case atStart => exact ⟨0, Nat.zero_le _, Nat.zero_le _, rfl, Below.refl _ _, OwnsT.nil _ _⟩
  case round =>
    obtain ⟨k, hk, hk2, rfl, hB, hown⟩ := hrel
    by_cases hlt : k < bs.length ∧ k < 2000
    · obtain ⟨hl1, hl2⟩ := hlt
      obtain ⟨g, off, rfl, hg, hcc⟩ := HC.out (by omega)
      have c1 : wr.cell? ⟨g, off + k, none⟩ = some (.int .u8 (bs[k].toNat : Int)) := (hB.cell (p := ⟨g, off + k, none⟩) hg).trans (hcc k hl1)
      have HN : Hid ((bs.take (k + 1)).map code5 = (bs.take k).map code5 ++ [code5 bs[k]]) := by rw [List.take_succ_eq_append_getElem hl1, List.map_append]; exact rfl
      have hlen : ((bs.take k).map code5).length = k := by simp; omega
      have HL := Lib.hid hlen
      have hlen' : ((bs.take k).map code5).length ≤ 2000 := by omega
      have hcv := conv_back wr bs[k]
      have hb0 : 0 ≤ (bs[k].toNat : Int) := by omega
      have hb1 : (bs[k].toNat : Int) ≤ 255 := by have := bs[k].toNat_lt; omega
      clear hlen hcc HC
      generalize code5 bs[k] = cd at HN hcv
      generalize (bs[k].toNat : Int) = n at c1 hcv hb0 hb1
      generalize (bs.take k).map code5 = acc at hown HN hlen' HL
      go_wp2_with (at_builtin; refine wpList_append_own _ rfl _ _ 88 rfl w.heap.size 9 i0 (.string ⟨#[]⟩) 1 16 Tryz.underlying88 HI.out.1 HI.out.2.1 HI.out.2.2.1 HI.out.2.2.2 rfl (by decide) _ _ _ rfl ((hown.alloc _).alloc _) ⟨wr.heap.size + 1, 0, none⟩ 1 1 [.string cd] rfl rfl (by have := cell_one_new (wr.alloc (.cells #[.int .u8 (49 + n % 3), .int .u8 (48 + n / 3 % 3), .int .u8 (48 + n / 9 % 3), .int .u8 (48 + n / 27 % 3), .int .u8 (48 + n / 81 % 3)] 5)) (.string cd) 9; simpa using this) (by simp [Value.oneCell']) (by unfold maxLen; omega) (by omega) (by have := hB.size; simp; omega) ?_; intro v' w4 hown' hgrow _)
      have hb4 : Below w.heap.size w w4 := ((hB.alloc hB.size _).alloc (by have := hB.size; simp; omega) _).grown hgrow (by have := hB.size; simp; omega) (fun r e => (hown.lt r e).1)
      go_roundw
      case rel => exact ⟨k + 1, by omega, by omega, by go_num, hb4, by rw [HN.out]; unfold OwnsT; rw [List.map_append, List.length_append]; exact hown'⟩
      case measure => simp [intOf]; omega
    · have HE : Hid (OwnsT wr w.heap.size u3 (codesOf bs)) := by
        unfold codesOf
        have e : bs.take 2000 = bs.take k := by
          by_cases h : k < bs.length
          · obtain rfl : k = 2000 := by omega
            rfl
          · rw [List.take_of_length_le (by omega), List.take_of_length_le (by omega)]
        rw [e]; exact hown
      clear hown
      by_cases h1 : k < bs.length
      · have h2 : 2000 ≤ k := by omega
        go_wp2_with fail
        go_ret
        exact ⟨_, rfl, hB, HE.out⟩
      · have h2 : decide (k < bs.length) = false := by simpa using h1
        go_wp2_with fail
        go_ret
        exact ⟨_, rfl, hB, HE.out⟩
end Go.Proofs.YtelklmdlodgdpaaGreat

/-! SM -/
namespace Go.Proofs.YtelklmdlodgdpaaGreat
open Go.RowKit
set_option linter.unusedVariables false
set_option maxRecDepth 100000
theorem Tryz.infoL : (Tryz.prog.info? 102).map (fun i => (i.zero, i.size, i.bytes)) = some (some (.agg #[.string ⟨#[]⟩, .int .i64 0, .slice none 0 0, .int .i64 0, .int .i64 0]), 5, 64) := by kernel_rfl
theorem Tryz.infoB : (Tryz.prog.info? 110).map (fun i => (i.zero, i.size, i.bytes)) = some (some (.agg #[.string ⟨#[]⟩, .string ⟨#[]⟩]), 2, 32) := by kernel_rfl
theorem kept_typed {w w' : World} {base : Nat} {e : TypeId} {size : Nat} {v : Value} {n : Nat} {xs : List Value} {row : Option Nat} (h : w.ownsRow base e size v n xs) (hg : w.grownBy w' row) (hT : ∀ g, row = some g → ∀ cur fr, w.heap[g]? ≠ some (.cells cur e fr)) : w'.ownsRow base e size v n xs := by
  refine h.kept hg ?_
  obtain ⟨_, hv | ⟨g, cap, cur, rfl, _, hh, _⟩⟩ := h
  · rw [hv.1]; exact .inl rfl
  · exact .inr (fun e' => hT g e'.symm _ _ hh)
def labCell (x : Lab) : List Value := [.string x.pre, .string x.grp]
abbrev OwnsLab (w : World) (base : Nat) (v : Value) (labs : List Lab) : Prop := w.ownsRow base 110 2 v labs.length (labs.flatMap labCell)
theorem labCells_get (L : List Lab) (k j : Nat) (h : k < L.length) (hj : j < 2) : (L.flatMap labCell)[k * 2 + j]? = (labCell L[k])[j]? := by
  induction L generalizing k with
  | nil => simp at h
  | cons p r ih =>
    rw [List.flatMap_cons]
    have hl : (labCell p).length = 2 := rfl
    cases k with
    | zero => rw [Nat.zero_mul, Nat.zero_add, List.getElem?_append_left (by omega)]; rfl
    | succ k =>
      rw [List.getElem?_append_right (by rw [hl]; omega), hl, show (k + 1) * 2 + j - 2 = k * 2 + j by omega]
      exact ih k (by simpa using h)
theorem RdLabs.of_owns {w : World} {base : Nat} {v : Value} {labs : List Lab} (ho : OwnsLab w base v labs) : RdLabs w v labs := by
  rcases Joins.ownsRow_forms ho with ⟨rfl, hp⟩ | ⟨g, cap, rfl⟩
  · obtain rfl : labs = [] := List.length_eq_zero_iff.1 hp
    exact rd_nil w
  · refine ⟨_, cap, rfl, fun _ => ⟨g, 0, rfl, (ho.lt g rfl).2, fun i h => ?_⟩⟩
    rw [Nat.zero_add]
    constructor
    · rw [ho.cellAt _ (by omega), show i * 2 = i * 2 + 0 from rfl, labCells_get labs i 0 h (by omega)]; rfl
    · rw [ho.cellAt _ (by omega), labCells_get labs i 1 h (by omega)]; rfl
theorem OwnsLab.nil (w : World) (base : Nat) : OwnsLab w base (.slice none 0 0) [] := World.ownsRow_nil _ _ _ _
theorem OwnsLab.form {w : World} {base : Nat} {v : Value} {l : List Lab} (h : OwnsLab w base v l) : ∃ a cap, v = .slice a l.length cap := by
  rcases Joins.ownsRow_forms h with ⟨rfl, hp⟩ | ⟨g, cap, rfl⟩
  · exact ⟨none, 0, by rw [hp]⟩
  · exact ⟨_, cap, rfl⟩
def lCell (p : Lev × Value) : List Value := [.string p.1.name, .int .i64 p.1.pre, p.2, .int .i64 p.1.min, .int .i64 p.1.cents]
def OwnsLv (w : World) (base : Nat) (v : Value) (ls : List Lev) : Prop :=
  ∃ L : List (Lev × Value), L.map Prod.fst = ls ∧ (∀ p ∈ L, OwnsLab w base p.2 p.1.labs) ∧ w.ownsRow base 102 5 v L.length (L.flatMap lCell)
theorem lCells_get (L : List (Lev × Value)) (k j : Nat) (h : k < L.length) (hj : j < 5) : (L.flatMap lCell)[k * 5 + j]? = (lCell L[k])[j]? := by
  induction L generalizing k with
  | nil => simp at h
  | cons p r ih =>
    rw [List.flatMap_cons]
    have hl : (lCell p).length = 5 := rfl
    cases k with
    | zero => rw [Nat.zero_mul, Nat.zero_add, List.getElem?_append_left (by omega)]; rfl
    | succ k =>
      rw [List.getElem?_append_right (by rw [hl]; omega), hl, show (k + 1) * 5 + j - 5 = k * 5 + j by omega]
      exact ih k (by simpa using h)
theorem OwnsLv.nil (w : World) (base : Nat) : OwnsLv w base (.slice none 0 0) [] := ⟨[], rfl, by simp, World.ownsRow_nil _ _ _ _⟩
theorem OwnsLv.form {w : World} {base : Nat} {v : Value} {ls : List Lev} (h : OwnsLv w base v ls) : ∃ a cap, v = .slice a ls.length cap := by
  obtain ⟨L, rfl, _, ho⟩ := h
  rw [List.length_map]
  rcases Joins.ownsRow_forms ho with ⟨rfl, hp⟩ | ⟨g, cap, rfl⟩
  · exact ⟨none, 0, by rw [hp]⟩
  · exact ⟨_, cap, rfl⟩
theorem OwnsLv.grown {w w' : World} {base : Nat} {v : Value} {ls : List Lev} {row : Option Nat} (h : OwnsLv w base v ls) (hg : w.grownBy w' row) (h1 : ∀ g, row = some g → ∀ cur fr, w.heap[g]? ≠ some (.cells cur 110 fr)) (h2 : ∀ g, row = some g → ∀ cur fr, w.heap[g]? ≠ some (.cells cur 102 fr)) : OwnsLv w' base v ls := by
  obtain ⟨L, hL, hLr, hLo⟩ := h
  exact ⟨L, hL, fun p hp => kept_typed (hLr p hp) hg h1, kept_typed hLo hg h2⟩
theorem OwnsLv.below {w w' : World} {base : Nat} {v : Value} {ls : List Lev} (h : OwnsLv w base v ls) (hb : Below w.heap.size w w') : OwnsLv w' base v ls :=
  h.grown (grown_none hb) (fun g e => by cases e) (fun g e => by cases e)
theorem OwnsLv.reads {w : World} {base : Nat} {v : Value} {ls : List Lev} (h : OwnsLv w base v ls) : RdLevs w v ls := by
  obtain ⟨L, rfl, hLr, ho⟩ := h
  rcases Joins.ownsRow_forms ho with ⟨rfl, hp⟩ | ⟨g, cap, rfl⟩
  · obtain rfl : L = [] := List.length_eq_zero_iff.1 hp
    exact ⟨none, 0, rfl, fun h => absurd h (by simp)⟩
  · refine ⟨_, cap, by rw [List.length_map], fun _ => ⟨g, 0, rfl, (ho.lt g rfl).2, fun i h => ?_⟩⟩
    have h' : i < L.length := by simpa using h
    refine ⟨L[i].2, ?_, ?_⟩
    · have := RdLabs.of_owns (hLr _ (List.getElem_mem h'))
      simpa using this
    · rw [Nat.zero_add]
      refine ⟨?_, ?_, ?_, ?_, ?_⟩
      · rw [ho.cellAt _ (by omega), show i * 5 = i * 5 + 0 from rfl, lCells_get L i 0 h' (by omega)]; simp [lCell]
      · rw [ho.cellAt _ (by omega), lCells_get L i 1 h' (by omega)]; simp [lCell]
      · rw [ho.cellAt _ (by omega), lCells_get L i 2 h' (by omega)]; simp [lCell]
      · rw [ho.cellAt _ (by omega), lCells_get L i 3 h' (by omega)]; simp [lCell]
      · rw [ho.cellAt _ (by omega), lCells_get L i 4 h' (by omega)]; simp [lCell]
theorem set_grown (w : World) (a : Addr) (u : Value) : w.grownBy (w.setCell a u) (some a.block) := by
  refine ⟨rfl, rfl, rfl, by simp, fun k hk hne => Below.heap_setCell _ _ _ _ (fun e => hne (by rw [e]))⟩
/-- What stands while Made runs: boxes of the least numbers and the cents, and the levels so far. -/
def MR (w : World) (vl vc : Value) (out : List Lev) (wx : World) : Prop :=
  Below w.heap.size w wx ∧ wx.heap[w.heap.size]? = some (.cells #[vl] 23 (0, 0)) ∧ wx.heap[w.heap.size + 1]? = some (.cells #[vc] 23 (0, 0)) ∧
  ∃ v, wx.heap[w.heap.size + 2]? = some (.cells #[v] 26 (0, 0)) ∧ OwnsLv wx (w.heap.size + 3) v out
theorem MR.below {w : World} {vl vc : Value} {out : List Lev} {wx w' : World} (h : MR w vl vc out wx) (hb : Below wx.heap.size wx w') : MR w vl vc out w' := by
  obtain ⟨h1, h2, h3, v, h4, h5⟩ := h
  have k : ∀ {b : Nat} {o : Obj}, wx.heap[b]? = some o → w'.heap[b]? = some o := fun hh => (hb.block _ (Array.getElem?_eq_some_iff.1 hh).1).trans hh
  exact ⟨below_c h1 h1.size hb, k h2, k h3, v, k h4, h5.below hb⟩
def addL (least cents : List UInt8) (out : List Lev) (l : Lev) : List Lev := out ++ [{ l with min := 1 + ((least.getD out.length 0).toNat : Int), cents := ((cents.getD out.length 0).toNat : Int) }]
theorem blk_ne {w : World} {a b : Nat} {o o' : Obj} (h : w.heap[a]? = some o) (h' : w.heap[b]? = some o') (hne : o ≠ o') : a ≠ b := by rintro rfl; rw [h] at h'; exact hne (Option.some.inj h')
/-- The levels so far, and one more, behind the append and the store. -/
theorem MR_add {w w1 w2 : World} {vl vc v v' sv : Value} {out : List Lev} {l : Lev} (h1 : Below w.heap.size w w1) (h2 : w1.heap[w.heap.size]? = some (.cells #[vl] 23 (0, 0))) (h3 : w1.heap[w.heap.size + 1]? = some (.cells #[vc] 23 (0, 0))) (h4 : w1.heap[w.heap.size + 2]? = some (.cells #[v] 26 (0, 0)))
    {L : List (Lev × Value)} (hL : L.map Prod.fst = out) (hLr : ∀ p ∈ L, OwnsLab w1 (w.heap.size + 3) p.2 p.1.labs) (hLo : w1.ownsRow (w.heap.size + 3) 102 5 v L.length (L.flatMap lCell)) (hsv : OwnsLab w1 (w.heap.size + 3) sv l.labs)
    (hg : w1.grownBy w2 v.ownBlock) (ho : w2.ownsRow (w.heap.size + 3) 102 5 v' (L.length + 1) (L.flatMap lCell ++ lCell (l, sv))) :
    MR w vl vc (out ++ [l]) (w2.setCell ⟨w.heap.size + 2, 0, none⟩ v') ∧ w2.cell? ⟨w.heap.size + 2, 0, none⟩ = some v ∧ w2.frozen? ⟨w.heap.size + 2, 0, none⟩ = false := by
  have nB := own_not hLo (T := 23) (by decide)
  have nV := own_not hLo (T := 26) (by decide)
  have nA := own_not hLo (T := 110) (by decide)
  have b2 := block_grown hg h2 (fun g e => nB g e _ _)
  have b3 := block_grown hg h3 (fun g e => nB g e _ _)
  have b4 := block_grown hg h4 (fun g e => nV g e _ _)
  have hlt := fun r e => (hLo.lt r e).1
  have B2 : Below w.heap.size w w2 := h1.grown hg h1.size (fun r e => by have := hlt r e; omega)
  have sg := set_grown w2 ⟨w.heap.size + 2, 0, none⟩ v'
  have no : ∀ T, T ≠ 26 → ∀ g, some (w.heap.size + 2) = some g → ∀ cur fr, w2.heap[g]? ≠ some (.cells cur T fr) := by
    intro T hT g e cur fr e'
    injection e with e
    subst e
    rw [b4] at e'
    injection e' with e'
    injection e' with _ e' _
    exact hT e'.symm
  refine ⟨⟨below_row B2 sg B2.size (by show _ ≤ w.heap.size + 2; omega), (Below.heap_setCell _ _ _ _ (by show w.heap.size ≠ w.heap.size + 2; omega)).trans b2, (Below.heap_setCell _ _ _ _ (by show w.heap.size + 1 ≠ w.heap.size + 2; omega)).trans b3, v', one_setCell b4, L ++ [(l, sv)], ?_, ?_, ?_⟩, cell_of_one b4, free_of_one b4⟩
  · rw [List.map_append, hL]; rfl
  · intro p hp
    have k : ∀ {u : Value} {labs : List Lab}, OwnsLab w1 (w.heap.size + 3) u labs → OwnsLab (w2.setCell ⟨w.heap.size + 2, 0, none⟩ v') (w.heap.size + 3) u labs := fun hh => kept_typed (kept_typed hh hg (fun g e => nA g e)) sg (no _ (by decide))
    rcases List.mem_append.1 hp with hp | hp
    · exact k (hLr p hp)
    · rw [List.mem_singleton.1 hp]; exact k hsv
  · rw [List.flatMap_append, List.length_append]
    have := kept_typed ho sg (no _ (by decide))
    simpa using this
end Go.Proofs.YtelklmdlodgdpaaGreat

/-! SN -/
namespace Go.Proofs.YtelklmdlodgdpaaGreat
open Go.RowKit
set_option linter.unusedVariables false
set_option maxRecDepth 100000
theorem cells_newN (W : World) (n : Nat) (hn : n = W.heap.size) (cs : List Value) (T : TypeId) : ∀ j u, cs[j]? = some u → (W.alloc (.cells cs.toArray T)).cell? ((⟨n, 0, none⟩ : Addr).add j) = some u := by subst hn; exact cells_new W cs T
theorem getD_lt {l : List UInt8} {k : Nat} (h : k < l.length) : l.getD k 0 = l[k] := by rw [List.getD_eq_getElem?_getD, List.getElem?_eq_getElem h]; rfl
theorem getD_ge {l : List UInt8} {k : Nat} (h : ¬ k < l.length) : l.getD k 0 = 0 := by rw [List.getD_eq_getElem?_getD, List.getElem?_eq_none (by omega)]; rfl
theorem byte_of {w W : World} {v : Value} {a : Option Addr} {n cap : Nat} {bs : List UInt8} (h : RdBytes w v bs) (hv : v = .slice a n cap) (hb : Below w.heap.size w W) {k : Nat} (hk : k < bs.length) : ∃ g off, a = some ⟨g, off, none⟩ ∧ g < W.heap.size ∧ W.cell? ⟨g, off + k, none⟩ = some (.int .u8 (bs[k].toNat : Int)) := by
  obtain ⟨a', cap', rfl, hc⟩ := h
  injection hv with h1 h2 h3
  subst h1
  obtain ⟨g, off, ha, hg, hcc⟩ := hc (by omega)
  exact ⟨g, off, ha, Nat.lt_of_lt_of_le hg hb.size, (hb.cell (p := ⟨g, off + k, none⟩) hg).trans (hcc k hk)⟩
theorem blk2 {W : World} {b : Nat} {o x y : Obj} (h : W.heap[b]? = some o) : ((W.alloc x).alloc y).heap[b]? = some o := by
  have hb : Below W.heap.size W ((W.alloc x).alloc y) := ((Below.refl _ W).alloc (Nat.le_refl _) _).alloc (by simp) _
  exact (hb.block b (Array.getElem?_eq_some_iff.1 h).1).trans h
set_option maxHeartbeats 8000000 in
theorem made1_any (l : Lev) (sv vl vc : Value) (least cents : List UInt8) (out : List Lev) (w wx : World) (hrl : RdBytes w vl least) (hrc : RdBytes w vc cents) (hll : least.length ≤ maxLen) (hcl : cents.length ≤ maxLen) (hM : MR w vl vc out wx) (hsv : OwnsLab wx (w.heap.size + 3) sv l.labs) (hc0 : l.cents = 0) (ho3 : out.length ≤ 10) (hx : w.heap.size + 3 ≤ wx.heap.size) :
    Calls Tryz.prog 46 #[lvA l sv, .pointer (some ⟨w.heap.size + 2, 0, none⟩), .pointer (some ⟨w.heap.size, 0, none⟩), .pointer (some ⟨w.heap.size + 1, 0, none⟩)] wx fun e w' => e = .returned (.tuple #[]) ∧ MR w vl vc (addL least cents out l) w' ∧ wx.heap.size ≤ w'.heap.size := by
  unfold maxLen at hll hcl
  obtain ⟨h1, h2, h3, v, h4, L, hL, hLr, hLo⟩ := hM
  have hLl : L.length = out.length := by rw [← hL, List.length_map]
  rw [hLl] at hLo
  obtain ⟨a, cap, rfl⟩ : ∃ a cap, v = .slice a out.length cap := by
    rcases Joins.ownsRow_forms hLo with ⟨rfl, hp⟩ | ⟨g, cap, rfl⟩
    · exact ⟨none, 0, by rw [hp]⟩
    · exact ⟨_, cap, rfl⟩
  obtain ⟨sa, sc, rfl⟩ := OwnsLab.form hsv
  have HRL := Lib.hid hrl
  have HRC := Lib.hid hrc
  obtain ⟨la, lc, rfl, _⟩ := hrl
  obtain ⟨ca, cc, rfl, _⟩ := hrc
  have x0 := cell_of_one h2
  have x1 := cell_of_one h3
  have x2 := cell_of_one h4
  obtain ⟨i0, hi⟩ := info_parts Tryz.infoL
  have HI := Lib.hid hi
  have H1 := Lib.hid h1
  have H2 := Lib.hid h2
  have H3 := Lib.hid h3
  have H4 := Lib.hid h4
  have HL := Lib.hid hL
  have HLL := Lib.hid hLl
  have HLR := Lib.hid hLr
  have HSV := Lib.hid hsv
  have HFIN : Hid (∀ m c : Int, m = 1 + ((least.getD out.length 0).toNat : Int) → c = ((cents.getD out.length 0).toNat : Int) → ∀ W, MR w (.slice la least.length lc) (.slice ca cents.length cc) (out ++ [{ l with min := m, cents := c }]) W → MR w (.slice la least.length lc) (.slice ca cents.length cc) (addL least cents out l) W) := fun m c hm hc W h => by subst hm hc; exact h
  clear hi h1 h2 h3 h4 hL hLr hsv hLl
  have hx2 : w.heap.size + 2 < wx.heap.size := by omega
  have hx1 : w.heap.size + 1 < wx.heap.size := by omega
  have hx0 : w.heap.size < wx.heap.size := by omega
  unfold lvA
  rw [hc0]
  by_cases k1 : out.length < least.length <;> by_cases k2 : out.length < cents.length
  · obtain ⟨g1, o1, rfl, gg1, c1⟩ := byte_of HRL.out rfl H1.out k1
    obtain ⟨g2, o2, rfl, gg2, c2⟩ := byte_of HRC.out rfl H1.out k2
    have e1 := Lib.hid (getD_lt k1)
    have bb1 : (least[out.length].toNat : Int) ≤ 255 := by have := least[out.length].toNat_lt; omega
    have bb2 : 0 ≤ (least[out.length].toNat : Int) := by omega
    have e2 := Lib.hid (getD_lt k2)
    have bb3 : (cents[out.length].toNat : Int) ≤ 255 := by have := cents[out.length].toNat_lt; omega
    have bb4 : 0 ≤ (cents[out.length].toNat : Int) := by omega
    go_enter Tryz.func46, Tryz.ntmps46
    go_wp2_with (at_builtin; refine wpList_append_own _ rfl _ _ 26 rfl (w.heap.size + 3) 102 i0 (.agg #[.string ⟨#[]⟩, .int .i64 0, .slice none 0 0, .int .i64 0, .int .i64 0]) 5 64 Tryz.underlying26 HI.out.1 HI.out.2.1 HI.out.2.2.1 HI.out.2.2.2 rfl (by decide) _ _ _ rfl ((hLo.alloc _).alloc _) ⟨wx.heap.size + 1, 0, none⟩ 1 1 (lCell ({ l with min := 1 + (least[out.length].toNat : Int), cents := (cents[out.length].toNat : Int) }, .slice sa l.labs.length sc)) rfl rfl (cells_newN _ _ (by simp) _ _) (by simp [Value.oneCell', lCell]) (by unfold maxLen; omega) (by omega) (by simp; omega) ?_; intro v' w2 hown' hgrow _; obtain ⟨gv, cv, rfl⟩ := Joins.ownsRow_form hown' (by omega); obtain ⟨hMR, hc, hfz⟩ := MR_add (L := L) (l := { l with min := 1 + (least[out.length].toNat : Int), cents := (cents[out.length].toNat : Int) }) (h1 := by exact (H1.out.alloc H1.out.size _).alloc (by simp; omega) _) (h2 := by exact blk2 H2.out) (h3 := by exact blk2 H3.out) (h4 := by exact blk2 H4.out) (hL := HL.out) (hLr := by exact fun p hp => ((HLR.out p hp).alloc _).alloc _) (hLo := by rw [HLL.out]; exact (hLo.alloc _).alloc _) (hsv := by exact (HSV.out.alloc _).alloc _) (hg := hgrow) (ho := by rw [HLL.out]; exact hown'); have HMR := Lib.hid hMR; have hgs := hgrow.size; clear hMR)
    go_end0
    exact ⟨rfl, HFIN.out _ _ (by rw [e1.out]) (by rw [e2.out]) _ HMR.out, by simp at hgs ⊢; omega⟩
  · obtain ⟨g1, o1, rfl, gg1, c1⟩ := byte_of HRL.out rfl H1.out k1
    have e1 := Lib.hid (getD_lt k1)
    have bb1 : (least[out.length].toNat : Int) ≤ 255 := by have := least[out.length].toNat_lt; omega
    have bb2 : 0 ≤ (least[out.length].toNat : Int) := by omega
    have e2 := Lib.hid (getD_ge k2)
    go_enter Tryz.func46, Tryz.ntmps46
    go_wp2_with (at_builtin; refine wpList_append_own _ rfl _ _ 26 rfl (w.heap.size + 3) 102 i0 (.agg #[.string ⟨#[]⟩, .int .i64 0, .slice none 0 0, .int .i64 0, .int .i64 0]) 5 64 Tryz.underlying26 HI.out.1 HI.out.2.1 HI.out.2.2.1 HI.out.2.2.2 rfl (by decide) _ _ _ rfl ((hLo.alloc _).alloc _) ⟨wx.heap.size + 1, 0, none⟩ 1 1 (lCell ({ l with min := 1 + (least[out.length].toNat : Int), cents := 0 }, .slice sa l.labs.length sc)) rfl rfl (cells_newN _ _ (by simp) _ _) (by simp [Value.oneCell', lCell]) (by unfold maxLen; omega) (by omega) (by simp; omega) ?_; intro v' w2 hown' hgrow _; obtain ⟨gv, cv, rfl⟩ := Joins.ownsRow_form hown' (by omega); obtain ⟨hMR, hc, hfz⟩ := MR_add (L := L) (l := { l with min := 1 + (least[out.length].toNat : Int), cents := 0 }) (h1 := by exact (H1.out.alloc H1.out.size _).alloc (by simp; omega) _) (h2 := by exact blk2 H2.out) (h3 := by exact blk2 H3.out) (h4 := by exact blk2 H4.out) (hL := HL.out) (hLr := by exact fun p hp => ((HLR.out p hp).alloc _).alloc _) (hLo := by rw [HLL.out]; exact (hLo.alloc _).alloc _) (hsv := by exact (HSV.out.alloc _).alloc _) (hg := hgrow) (ho := by rw [HLL.out]; exact hown'); have HMR := Lib.hid hMR; have hgs := hgrow.size; clear hMR)
    go_end0
    exact ⟨rfl, HFIN.out _ _ (by rw [e1.out]) (by rw [e2.out]; rfl) _ HMR.out, by simp at hgs ⊢; omega⟩
  · obtain ⟨g2, o2, rfl, gg2, c2⟩ := byte_of HRC.out rfl H1.out k2
    have e1 := Lib.hid (getD_ge k1)
    have e2 := Lib.hid (getD_lt k2)
    have bb3 : (cents[out.length].toNat : Int) ≤ 255 := by have := cents[out.length].toNat_lt; omega
    have bb4 : 0 ≤ (cents[out.length].toNat : Int) := by omega
    go_enter Tryz.func46, Tryz.ntmps46
    go_wp2_with (at_builtin; refine wpList_append_own _ rfl _ _ 26 rfl (w.heap.size + 3) 102 i0 (.agg #[.string ⟨#[]⟩, .int .i64 0, .slice none 0 0, .int .i64 0, .int .i64 0]) 5 64 Tryz.underlying26 HI.out.1 HI.out.2.1 HI.out.2.2.1 HI.out.2.2.2 rfl (by decide) _ _ _ rfl ((hLo.alloc _).alloc _) ⟨wx.heap.size + 1, 0, none⟩ 1 1 (lCell ({ l with min := 1, cents := (cents[out.length].toNat : Int) }, .slice sa l.labs.length sc)) rfl rfl (cells_newN _ _ (by simp) _ _) (by simp [Value.oneCell', lCell]) (by unfold maxLen; omega) (by omega) (by simp; omega) ?_; intro v' w2 hown' hgrow _; obtain ⟨gv, cv, rfl⟩ := Joins.ownsRow_form hown' (by omega); obtain ⟨hMR, hc, hfz⟩ := MR_add (L := L) (l := { l with min := 1, cents := (cents[out.length].toNat : Int) }) (h1 := by exact (H1.out.alloc H1.out.size _).alloc (by simp; omega) _) (h2 := by exact blk2 H2.out) (h3 := by exact blk2 H3.out) (h4 := by exact blk2 H4.out) (hL := HL.out) (hLr := by exact fun p hp => ((HLR.out p hp).alloc _).alloc _) (hLo := by rw [HLL.out]; exact (hLo.alloc _).alloc _) (hsv := by exact (HSV.out.alloc _).alloc _) (hg := hgrow) (ho := by rw [HLL.out]; exact hown'); have HMR := Lib.hid hMR; have hgs := hgrow.size; clear hMR)
    go_end0
    exact ⟨rfl, HFIN.out _ _ (by rw [e1.out]; rfl) (by rw [e2.out]) _ HMR.out, by simp at hgs ⊢; omega⟩
  · have e1 := Lib.hid (getD_ge k1)
    have e2 := Lib.hid (getD_ge k2)
    go_enter Tryz.func46, Tryz.ntmps46
    go_wp2_with (at_builtin; refine wpList_append_own _ rfl _ _ 26 rfl (w.heap.size + 3) 102 i0 (.agg #[.string ⟨#[]⟩, .int .i64 0, .slice none 0 0, .int .i64 0, .int .i64 0]) 5 64 Tryz.underlying26 HI.out.1 HI.out.2.1 HI.out.2.2.1 HI.out.2.2.2 rfl (by decide) _ _ _ rfl ((hLo.alloc _).alloc _) ⟨wx.heap.size + 1, 0, none⟩ 1 1 (lCell ({ l with min := 1, cents := 0 }, .slice sa l.labs.length sc)) rfl rfl (cells_newN _ _ (by simp) _ _) (by simp [Value.oneCell', lCell]) (by unfold maxLen; omega) (by omega) (by simp; omega) ?_; intro v' w2 hown' hgrow _; obtain ⟨gv, cv, rfl⟩ := Joins.ownsRow_form hown' (by omega); obtain ⟨hMR, hc, hfz⟩ := MR_add (L := L) (l := { l with min := 1, cents := 0 }) (h1 := by exact (H1.out.alloc H1.out.size _).alloc (by simp; omega) _) (h2 := by exact blk2 H2.out) (h3 := by exact blk2 H3.out) (h4 := by exact blk2 H4.out) (hL := HL.out) (hLr := by exact fun p hp => ((HLR.out p hp).alloc _).alloc _) (hLo := by rw [HLL.out]; exact (hLo.alloc _).alloc _) (hsv := by exact (HSV.out.alloc _).alloc _) (hg := hgrow) (ho := by rw [HLL.out]; exact hown'); have HMR := Lib.hid hMR; have hgs := hgrow.size; clear hMR)
    go_end0
    exact ⟨rfl, HFIN.out _ _ (by rw [e1.out]; rfl) (by rw [e2.out]; rfl) _ HMR.out, by simp at hgs ⊢; omega⟩
end Go.Proofs.YtelklmdlodgdpaaGreat

/-! SO -/
namespace Go.Proofs.YtelklmdlodgdpaaGreat
open Go.RowKit
set_option linter.unusedVariables false
def sel (cands : List ByteArray) (f : ByteArray → Lab) (b : Nat → Bool) (k : Nat) : List Lab := ((List.range k).filter b).map (fun i => f (cands.getD i ⟨#[]⟩))
theorem sel_succ (cands : List ByteArray) (f : ByteArray → Lab) (b : Nat → Bool) (k : Nat) (h : k < cands.length) : sel cands f b (k + 1) = if b k then sel cands f b k ++ [f cands[k]] else sel cands f b k := by
  unfold sel
  rw [List.range_succ, List.filter_append, List.map_append]
  cases hb : b k
  · rw [List.filter_cons_of_neg (by simpa using hb), List.filter_nil, List.map_nil, List.append_nil]; simp
  · rw [List.filter_cons_of_pos (by simpa using hb), List.filter_nil, if_pos rfl]
    have : cands.getD k ⟨#[]⟩ = cands[k] := by rw [List.getD_eq_getElem?_getD, List.getElem?_eq_getElem h]; rfl
    rw [List.map_cons, List.map_nil, this]
theorem sel_len (cands : List ByteArray) (f : ByteArray → Lab) (b : Nat → Bool) (k : Nat) : (sel cands f b k).length ≤ k := by
  unfold sel
  rw [List.length_map]
  have := List.length_filter_le b (List.range k)
  rw [List.length_range] at this
  exact this
def bt (n m : Int) : Bool := decide (0 < bits BinOp.and IntKind.u32 n m)
structure Bits where
  f5 : Bool
  f3 : Bool
  f1 : Bool
  b5 : Nat → Bool
  b3 : Nat → Bool
  b1 : Nat → Bool
def bitsOf (n : Int) : Bits := ⟨bt n 1, bt n 2, bt n 4, fun k => bt (n / 2 ^ (3 + k)) 1, fun k => bt (n / 2 ^ (8 + k)) 1, fun k => bt (n / 2 ^ (14 + k)) 1⟩
def pre5 : List ByteArray := [⟨#[49, 48, 48, 48, 48]⟩, ⟨#[49, 48, 48, 48, 49]⟩, ⟨#[49, 48, 48, 49, 48]⟩, ⟨#[49, 49, 48, 48, 48]⟩, ⟨#[50, 48, 48, 48, 48]⟩]
def pre3 : List ByteArray := [⟨#[49, 48, 48]⟩, ⟨#[49, 48, 49]⟩, ⟨#[49, 49, 48]⟩, ⟨#[50, 48, 48]⟩, ⟨#[50, 48, 49]⟩, ⟨#[51, 48, 48]⟩]
def pre1 : List ByteArray := [⟨#[49]⟩, ⟨#[50]⟩, ⟨#[51]⟩]
def lab5 (p : ByteArray) : Lab := ⟨p, ⟨#[72]⟩ ++ p.extract 0 3⟩
def lab3 (p : ByteArray) : Lab := ⟨p, ⟨#[71]⟩ ++ p.extract 0 1⟩
def lab1 (p : ByteArray) : Lab := ⟨p, ⟨#[90]⟩⟩
def lev5 (B : Bits) : Lev := ⟨⟨#[102, 105, 118, 101]⟩, 5, sel pre5 lab5 B.b5 5, 0, 0⟩
def lev3 (B : Bits) : Lev := ⟨⟨#[116, 104, 114, 101, 101]⟩, 3, sel pre3 lab3 B.b3 6, 0, 0⟩
def lev1 (B : Bits) : Lev := ⟨⟨#[111, 110, 101]⟩, 1, sel pre1 lab1 B.b1 3, 0, 0⟩
def mk1 (B : Bits) (least cents : List UInt8) : List Lev := if B.f5 then addL least cents [] (lev5 B) else []
def mk2 (B : Bits) (least cents : List UInt8) : List Lev := if B.f3 then addL least cents (mk1 B least cents) (lev3 B) else mk1 B least cents
def mk3 (B : Bits) (least cents : List UInt8) : List Lev := if B.f1 then addL least cents (mk2 B least cents) (lev1 B) else mk2 B least cents
def madeR (B : Bits) (least cents : List UInt8) : List Lev := mk3 B least cents ++ [⟨⟨#[97, 108, 108]⟩, 0, [], 0, ((cents.getD (mk3 B least cents).length 0).toNat : Int)⟩]
theorem mk_len (B : Bits) (least cents : List UInt8) : (mk1 B least cents).length ≤ 1 ∧ (mk2 B least cents).length ≤ 2 ∧ (mk3 B least cents).length ≤ 3 := by
  have h1 : (mk1 B least cents).length ≤ 1 := by unfold mk1 addL; split <;> simp
  have h2 : (mk2 B least cents).length ≤ 2 := by unfold mk2 addL; split <;> (try simp) <;> omega
  have h3 : (mk3 B least cents).length ≤ 3 := by unfold mk3 addL; split <;> (try simp) <;> omega
  exact ⟨h1, h2, h3⟩
/-- A loop that fills the labels of a level: wa is the world ahead of the level's box. -/
def SR (wa : World) (nm : ByteArray) (pre : Int) (strs : Array Value) (labs : List Lab) (wr : World) : Prop :=
  Below wa.heap.size wa wr ∧ (∃ sv, wr.heap[wa.heap.size]? = some (.cells #[.string nm, .int .i64 pre, sv, .int .i64 0, .int .i64 0] 102 (0, 0)) ∧ OwnsLab wr (wa.heap.size + 1) sv labs) ∧ wr.heap[wa.heap.size + 1]? = some (.cells strs 9 (0, 0))
theorem SR_start (wa : World) (nm : ByteArray) (pre : Int) (strs : Array Value) : SR wa nm pre strs [] ((wa.alloc (.cells #[.string nm, .int .i64 pre, .slice none 0 0, .int .i64 0, .int .i64 0] 102)).alloc (.cells strs 9)) := by
  have h := fun j o => @allocs_block wa [.cells #[.string nm, .int .i64 pre, .slice none 0 0, .int .i64 0, .int .i64 0] 102, .cells strs 9] j o
  exact ⟨((Below.refl _ wa).alloc (Nat.le_refl _) _).alloc (by simp) _, ⟨_, h 0 _ rfl, OwnsLab.nil _ _⟩, h 1 _ rfl⟩
/-- How a label comes in: the append's own equation, and what stands behind the store. -/
theorem SR_step {wa wr W : World} {nm : ByteArray} {pre : Int} {strs : Array Value} {labs : List Lab} (h : SR wa nm pre strs labs wr) (x : Lab) (hl : labs.length ≤ 100) {i0 : TypeInfo} (hbW : Below wr.heap.size wr W) (hszW : wr.heap.size < W.heap.size) (hcW : ∀ j u, (labCell x)[j]? = some u → W.cell? ((⟨wr.heap.size, 0, none⟩ : Addr).add j) = some u) (hi : Tryz.prog.info? 110 = some i0 ∧ i0.zero = some (.agg #[.string ⟨#[]⟩, .string ⟨#[]⟩]) ∧ i0.size = 2 ∧ i0.bytes = 32) :
    ∃ sa sc gv cv w1, wr.cell? ⟨wa.heap.size, 2, none⟩ = some (.slice sa labs.length sc) ∧ wa.heap.size < wr.heap.size ∧
      (Builtin.append_ #[100, 100] 100 #[.slice sa labs.length sc, .slice (some ⟨wr.heap.size, 0, none⟩) 1 1]).run Tryz.prog W = .ok (.slice (some ⟨gv, 0, none⟩) (labs.length + 1) cv) w1 ∧
      w1.cell? ⟨wa.heap.size, 2, none⟩ = some (.slice sa labs.length sc) ∧ w1.frozen? ⟨wa.heap.size, 2, none⟩ = false ∧
      SR wa nm pre strs (labs ++ [x]) (w1.setCell ⟨wa.heap.size, 2, none⟩ (.slice (some ⟨gv, 0, none⟩) (labs.length + 1) cv)) := by
  obtain ⟨h1, ⟨sv, h2, h3⟩, h4⟩ := h
  obtain ⟨sa, sc, rfl⟩ := OwnsLab.form h3
  have hlt := (Array.getElem?_eq_some_iff.1 h2).1
  have h3W : OwnsLab W (wa.heap.size + 1) (.slice sa labs.length sc) labs := h3.kept (grown_none hbW) (Classical.em _)
  obtain ⟨v', w1, hr, ho, hg, _⟩ := run_append_own (P := Tryz.prog) W (wa.heap.size + 1) 100 100 110 i0 (.agg #[.string ⟨#[]⟩, .string ⟨#[]⟩]) 2 32 Tryz.underlying100 hi.1 hi.2.1 hi.2.2.1 hi.2.2.2 rfl (by decide) (.slice sa labs.length sc) labs.length (labs.flatMap labCell) h3W ⟨wr.heap.size, 0, none⟩ 1 1 (labCell x) rfl hcW (by simp [Value.oneCell', labCell]) (by unfold maxLen; omega) (by omega) (by omega)
  obtain ⟨gv, cv, rfl⟩ := Joins.ownsRow_form ho (by omega)
  have nL := own_not h3W (T := 102) (by decide)
  have nS := own_not h3W (T := 9) (by decide)
  have k2 : W.heap[wa.heap.size]? = _ := (hbW.block _ hlt).trans h2
  have k4 : W.heap[wa.heap.size + 1]? = _ := (hbW.block _ (Array.getElem?_eq_some_iff.1 h4).1).trans h4
  have m2 := block_grown hg k2 (fun g e => nL g e _ _)
  have m4 := block_grown hg k4 (fun g e => nS g e _ _)
  refine ⟨sa, sc, gv, cv, w1, cell_of_row _ _ 2 _ _ _ h2, hlt, hr, cell_of_row _ _ 2 _ _ _ m2, frozen_of_row _ _ 2 _ _ m2, ?_, ⟨.slice (some ⟨gv, 0, none⟩) (labs.length + 1) cv, ?_, ?_⟩, ?_⟩
  · have b1 : Below wa.heap.size wa w1 := (below_c h1 h1.size hbW).grown hg (by have := h1.size; have := hbW.size; omega) (fun r e => by have := (h3W.lt r e).1; omega)
    exact below_row b1 (set_grown w1 ⟨wa.heap.size, 2, none⟩ _) b1.size (Nat.le_refl _)
  · exact heap_setCell_same w1 wa.heap.size 2 _ _ _ m2
  · have hno : ∀ g, some wa.heap.size = some g → ∀ cur fr, w1.heap[g]? ≠ some (.cells cur 110 fr) := by
      intro g e cur fr e'
      injection e with e
      subst e
      rw [m2] at e'
      injection e' with e'
      injection e' with _ e' _
      exact absurd e' (by decide)
    have := kept_typed ho (set_grown w1 ⟨wa.heap.size, 2, none⟩ (.slice (some ⟨gv, 0, none⟩) (labs.length + 1) cv)) hno
    show (w1.setCell _ _).ownsRow _ _ _ _ _ _
    rw [List.flatMap_append, List.length_append]
    simpa using this
  · exact (Below.heap_setCell _ _ _ _ (by show wa.heap.size + 1 ≠ wa.heap.size; omega)).trans m4
/-- An append in a plain region, by its own equation. -/
theorem wpList_append_run {P : Program} {ops : Array Oper} {rest : List Oper} {o : Oper} {a : Act} {w : World} {Q : Exit → Act → World → Prop} (hgd : o.guard = none) (s x : Operand) (t : TypeId)
    (ho : o.op = .call { callee := .builtin .append, args := #[s, x], argTypes := #[t, t] }) {v u r : Value} {w' : World} (hr : (Builtin.append_ #[t, t] o.type #[v, u]).run P w = .ok r w') (hs : a.eval s = v) (hx : a.eval x = u)
    (h : wpList P ops Q rest (a.put o.dst r) w') : wpList P ops Q (o :: rest) a w := by
  refine wpList_plain hgd fun K hK => ?_
  unfold Oper.wp execOp
  simp only [ho, resolve, invoke, builtin, Sem.run_bind, Sem.run_pure, Result.andThen_ok, List.map_toArray, List.map_cons, List.map_nil, hs, hx, hr]
  exact hK _ _ h
/-- An append in a region that draws, by its own equation. -/
theorem step_append_run {P : Program} {ops : Array Oper} {o : Oper} {a : Act} {w : World} {K : Act → World → Prop} {Q : Exit → Act → World → Prop} {E : Prop} (hgd : o.guard = none) (s x : Operand) (t : TypeId)
    (ho : o.op = .call { callee := .builtin .append, args := #[s, x], argTypes := #[t, t] }) {v u r : Value} {w' : World} (hr : (Builtin.append_ #[t, t] o.type #[v, u]).run P w = .ok r w') (hs : a.eval s = v) (hx : a.eval x = u)
    (h : K (a.put o.dst r) w') : if Region.wanted o (yielded ops a.tmps) = true then o.wp P a w K Q else E := by
  rw [if_pos (by simp [Region.wanted, hgd])]
  unfold Oper.wp execOp
  simp only [ho, resolve, invoke, builtin, Sem.run_bind, Sem.run_pure, Result.andThen_ok, List.map_toArray, List.map_cons, List.map_nil, hs, hx, hr]
  exact h
theorem owns_base {w : World} {b b' : Nat} {e : TypeId} {size : Nat} {v : Value} {n : Nat} {xs : List Value} (h : w.ownsRow b e size v n xs) (hb : b' ≤ b) : w.ownsRow b' e size v n xs := by
  obtain ⟨h1, h2 | ⟨g, cap, cur, hv, hg, r⟩⟩ := h
  · exact ⟨h1, .inl h2⟩
  · exact ⟨h1, .inr ⟨g, cap, cur, hv, Nat.le_trans hb hg, r⟩⟩
end Go.Proofs.YtelklmdlodgdpaaGreat

/-! SP -/
namespace Go.Proofs.YtelklmdlodgdpaaGreat
open Go.RowKit
set_option linter.unusedVariables false
set_option maxRecDepth 100000
theorem bt_true {n m : Int} (h : bt n m = true) : 0 < bits BinOp.and IntKind.u32 n m := by unfold bt at h; simpa using h
theorem bt_false {n m : Int} (h : bt n m = false) : bits BinOp.and IntKind.u32 n m ≤ 0 := by unfold bt at h; simpa using h
set_option maxHeartbeats 16000000 in
theorem made_any (n : Int) (vl vc : Value) (least cents : List UInt8) (w : World) (hn0 : 0 ≤ n) (hn1 : n < 4294967296) (hrl : RdBytes w vl least) (hrc : RdBytes w vc cents) (hll : least.length ≤ maxLen) (hcl : cents.length ≤ maxLen) :
    Calls Tryz.prog 19 #[.int .u32 n, vl, vc] w fun e w' => ∃ v, e = .returned v ∧ Below w.heap.size w w' ∧ OwnsLv w' w.heap.size v (madeR (bitsOf n) least cents) := by
  obtain ⟨B, hB⟩ : ∃ B, bitsOf n = B := ⟨_, rfl⟩
  rw [hB]
  have HB := Lib.hid hB
  have HLN := Lib.hid (mk_len B least cents)
  have HADD := Lib.hid (fun l sv out wx hM hsv hc0 ho3 hx => made1_any l sv vl vc least cents out w wx hrl hrc hll hcl hM hsv hc0 ho3 hx)
  unfold lvA at HADD
  have HRC := Lib.hid hrc
  unfold maxLen at hcl hll
  obtain ⟨la, lc, rfl, _⟩ := hrl
  obtain ⟨ca, cc, rfl, _⟩ := hrc
  obtain ⟨i0, hi⟩ := info_parts Tryz.infoB
  have HI := Lib.hid hi
  obtain ⟨i1, hi1⟩ := info_parts Tryz.infoL
  have HI1 := Lib.hid hi1
  clear hi hi1 hB
  go_enter Tryz.func19, Tryz.ntmps19
  go_upto_if 22 with fail
  generalize hwa : ((w.alloc (.cells #[.slice la least.length lc] 23)).alloc (.cells #[.slice ca cents.length cc] 23)).alloc (.cells #[.slice none 0 0] 26) = wa
  have hM : MR w (.slice la least.length lc) (.slice ca cents.length cc) [] wa := by
    rw [← hwa]
    have h := fun j o => @allocs_block w [.cells #[.slice la least.length lc] 23, .cells #[.slice ca cents.length cc] 23, .cells #[.slice none 0 0] 26] j o
    exact ⟨(((Below.refl _ w).alloc (Nat.le_refl _) _).alloc (by simp) _).alloc (by simp; omega) _, h 0 _ rfl, h 1 _ rfl, _, h 2 _ rfl, OwnsLv.nil _ _⟩
  have hx : w.heap.size + 3 ≤ wa.heap.size := by rw [← hwa]; simp
  clear hwa
  go_cut [9] (fun _ wx => MR w (.slice la least.length lc) (.slice ca cents.length cc) (mk1 B least cents) wx ∧ w.heap.size + 3 ≤ wx.heap.size)
  case first =>
    cases hf : bt n 1
    · have HM : Hid (MR w (.slice la least.length lc) (.slice ca cents.length cc) (mk1 B least cents) wa) := by
        have e : B.f5 = false := by rw [← HB.out]; exact hf
        unfold mk1; rw [e]; exact hM
      have hf' := bt_false hf
      have hfd : decide (0 < bits BinOp.and IntKind.u32 n 1) = false := hf
      rw [hfd]
      clear hf hfd
      go_wp2_with fail
      go_meet
      exact ⟨HM.out, hx⟩
    · have hfe : B.f5 = true := by rw [← HB.out]; exact hf
      have HFE := Lib.hid hfe
      have hf' := bt_true hf
      have hfd : decide (0 < bits BinOp.and IntKind.u32 n 1) = true := hf
      rw [hfd]
      clear hf hfe hfd
      go_wp2_with fail
      go_loopw [26] (fun i wr => ∃ k : Nat, k ≤ 5 ∧ i = .int .i64 k ∧ SR wa ⟨#[102, 105, 118, 101]⟩ 5 (pre5.map Value.string).toArray (sel pre5 lab5 B.b5 k) wr) (fun i _ => 5 - (intOf i).toNat)
      case atStart => exact ⟨0, Nat.zero_le _, rfl, SR_start wa _ _ _⟩
      case round =>
        obtain ⟨k, hk, rfl, hS⟩ := hrel
        by_cases hlt : k < 5
        · have hpl : k < pre5.length := hlt
          have HSU := Lib.hid (sel_succ pre5 lab5 B.b5 k hpl)
          have hsl : (sel pre5 lab5 B.b5 k).length ≤ 100 := by have := sel_len pre5 lab5 B.b5 k; omega
          obtain ⟨sa, sc, gv, cv, w1, c2, hlw, hrun, d2, dz, hS2⟩ := SR_step (W := (wr.alloc (.cells #[.string (lab5 pre5[k]).pre, .string (lab5 pre5[k]).grp] 110)).drew) hS (lab5 pre5[k]) hsl ((Below.refl _ wr).alloc (Nat.le_refl _) _).drew (by simp) (by exact cells_new wr (labCell (lab5 pre5[k])) _) HI.out
          have cp : wr.cell? ⟨wa.heap.size + 1, k, none⟩ = some (.string pre5[k]) := by
            rw [cell_of_row _ _ k _ _ _ hS.2.2]; simp [hpl]
          have hly : wa.heap.size + 1 < wr.heap.size := (Array.getElem?_eq_some_iff.1 hS.2.2).1
          have hps : pre5[k].size = 5 := by
            have : k = 0 ∨ k = 1 ∨ k = 2 ∨ k = 3 ∨ k = 4 := by omega
            rcases this with rfl | rfl | rfl | rfl | rfl <;> rfl
          have hps1 : pre5[k].size ≤ 5 := by omega
          have hps2 : 5 ≤ pre5[k].size := by omega
          have HBK : Hid (B.b5 k = bt (n / 2 ^ (3 + k)) 1) := by rw [← HB.out]; exact rfl
          have HS := Lib.hid hS
          have HS2 := Lib.hid hS2
          clear hS hS2 hps
          generalize sel pre5 lab5 B.b5 k = labs at HSU hsl c2 hrun d2 HS HS2
          dsimp only [lab5] at hrun
          generalize pre5[k] = p at cp hps1 hps2 hrun HSU HS2
          cases hb : bt (n / 2 ^ (3 + k)) 1
          · have hb' := bt_false hb
            have HE : Hid (sel pre5 lab5 B.b5 (k + 1) = labs) := by rw [HSU.out, HBK.out, hb]; exact rfl
            clear hb hrun
            go_wp2_with fail
            go_roundw
            case rel => exact ⟨k + 1, by omega, by go_num, by rw [HE.out]; exact HS.out⟩
            case measure => simp [intOf]; omega
          · have hb' := bt_true hb
            have hp3 : (3 : Int) ≤ (p.size : Int) := by omega
            have hp4 : ¬ 9223372036854775807 < 1 + min 3 p.size := by omega
            have HE : Hid (sel pre5 lab5 B.b5 (k + 1) = labs ++ [lab5 p]) := by rw [HSU.out, HBK.out, hb]; exact rfl
            clear hb
            go_wp2_with fail
            go_region_law (refine step_append_run rfl (.tmp 38) (.tmp 44) 100 rfl hrun (by simp [Act.eval]) (by simp [Act.eval]) ?_)
            all_goals
              go_wp2_with fail
              go_roundw
              case rel => exact ⟨k + 1, by omega, by go_num, by rw [HE.out]; exact HS2.out⟩
              case measure => simp [intOf]; omega
        · have hke : k = 5 := by omega
          obtain ⟨s1, ⟨sv, s2, s3⟩, s4⟩ := hS
          rw [hke] at s3
          have hM2 := hM.below s1
          have hww := s1.size
          have hA := HADD.out (lev5 B) sv _ wr hM2 (owns_base s3 (by omega)) rfl (by simp) (by omega)
          obtain ⟨sa, sc, rfl⟩ := OwnsLab.form s3
          have y0 : wr.cell? ⟨wa.heap.size, 0, none⟩ = _ := cell_of_row _ _ 0 _ _ _ s2
          have y1 : wr.cell? ⟨wa.heap.size, 1, none⟩ = _ := cell_of_row _ _ 1 _ _ _ s2
          have y2 : wr.cell? ⟨wa.heap.size, 2, none⟩ = _ := cell_of_row _ _ 2 _ _ _ s2
          have y3 : wr.cell? ⟨wa.heap.size, 3, none⟩ = _ := cell_of_row _ _ 3 _ _ _ s2
          have y4 : wr.cell? ⟨wa.heap.size, 4, none⟩ = _ := cell_of_row _ _ 4 _ _ _ s2
          simp at y0 y1 y2 y3 y4
          have HA := Lib.hid hA
          clear hA hM2 s2 s3 s4 hke
          go_wp2_with (go_at_call 46; refine HA.out.mono ?_; rintro e w2 ⟨rfl, hm2, hz2⟩; have HM2 := Lib.hid hm2; clear hm2)
          go_meet
          exact ⟨by unfold mk1; rw [HFE.out]; exact HM2.out, by omega⟩
  case rest =>
    clear hM hx
    obtain ⟨hM, hx⟩ := hcut
    clear wa
    obtain ⟨wa, hwa⟩ : ∃ wa : World, wa = wc := ⟨_, rfl⟩
    rw [← hwa] at hM hx ⊢
    clear hwa
    clear wc
    go_upto_if 53 with fail
    go_cut [12] (fun _ wx => MR w (.slice la least.length lc) (.slice ca cents.length cc) (mk2 B least cents) wx ∧ w.heap.size + 3 ≤ wx.heap.size)
    case first =>
      cases hf : bt n 2
      · have HM : Hid (MR w (.slice la least.length lc) (.slice ca cents.length cc) (mk2 B least cents) wa) := by
          have e : B.f3 = false := by rw [← HB.out]; exact hf
          unfold mk2; rw [e]; exact hM
        have hf' := bt_false hf
        have hfd : decide (0 < bits BinOp.and IntKind.u32 n 2) = false := hf
        rw [hfd]
        clear hf hfd
        go_wp2_with fail
        go_meet
        exact ⟨HM.out, hx⟩
      · have hfe : B.f3 = true := by rw [← HB.out]; exact hf
        have HFE := Lib.hid hfe
        have hf' := bt_true hf
        have hfd : decide (0 < bits BinOp.and IntKind.u32 n 2) = true := hf
        rw [hfd]
        clear hf hfe hfd
        go_wp2_with fail
        go_loopw [57] (fun i wr => ∃ k : Nat, k ≤ 6 ∧ i = .int .i64 k ∧ SR wa ⟨#[116, 104, 114, 101, 101]⟩ 3 (pre3.map Value.string).toArray (sel pre3 lab3 B.b3 k) wr) (fun i _ => 6 - (intOf i).toNat)
        case atStart => exact ⟨0, Nat.zero_le _, rfl, SR_start wa _ _ _⟩
        case round =>
          obtain ⟨k, hk, rfl, hS⟩ := hrel
          by_cases hlt : k < 6
          · have hpl : k < pre3.length := hlt
            have HSU := Lib.hid (sel_succ pre3 lab3 B.b3 k hpl)
            have hsl : (sel pre3 lab3 B.b3 k).length ≤ 100 := by have := sel_len pre3 lab3 B.b3 k; omega
            obtain ⟨sa, sc, gv, cv, w1, c2, hlw, hrun, d2, dz, hS2⟩ := SR_step (W := (wr.alloc (.cells #[.string (lab3 pre3[k]).pre, .string (lab3 pre3[k]).grp] 110)).drew) hS (lab3 pre3[k]) hsl ((Below.refl _ wr).alloc (Nat.le_refl _) _).drew (by simp) (by exact cells_new wr (labCell (lab3 pre3[k])) _) HI.out
            have cp : wr.cell? ⟨wa.heap.size + 1, k, none⟩ = some (.string pre3[k]) := by
              rw [cell_of_row _ _ k _ _ _ hS.2.2]; simp [hpl]
            have hly : wa.heap.size + 1 < wr.heap.size := (Array.getElem?_eq_some_iff.1 hS.2.2).1
            have hps : pre3[k].size = 3 := by
              have : k = 0 ∨ k = 1 ∨ k = 2 ∨ k = 3 ∨ k = 4 ∨ k = 5 := by omega
              rcases this with rfl | rfl | rfl | rfl | rfl | rfl <;> rfl
            have hps1 : pre3[k].size ≤ 3 := by omega
            have hps2 : 3 ≤ pre3[k].size := by omega
            have HBK : Hid (B.b3 k = bt (n / 2 ^ (8 + k)) 1) := by rw [← HB.out]; exact rfl
            have HS := Lib.hid hS
            have HS2 := Lib.hid hS2
            clear hS hS2 hps
            generalize sel pre3 lab3 B.b3 k = labs at HSU hsl c2 hrun d2 HS HS2
            dsimp only [lab3] at hrun
            generalize pre3[k] = p at cp hps1 hps2 hrun HSU HS2
            cases hb : bt (n / 2 ^ (8 + k)) 1
            · have hb' := bt_false hb
              have HE : Hid (sel pre3 lab3 B.b3 (k + 1) = labs) := by rw [HSU.out, HBK.out, hb]; exact rfl
              clear hb hrun
              go_wp2_with fail
              go_roundw
              case rel => exact ⟨k + 1, by omega, by go_num, by rw [HE.out]; exact HS.out⟩
              case measure => simp [intOf]; omega
            · have hb' := bt_true hb
              have hp3 : (1 : Int) ≤ (p.size : Int) := by omega
              have hp4 : ¬ 9223372036854775807 < 1 + min 1 p.size := by omega
              have HE : Hid (sel pre3 lab3 B.b3 (k + 1) = labs ++ [lab3 p]) := by rw [HSU.out, HBK.out, hb]; exact rfl
              clear hb
              go_wp2_with fail
              go_region_law (refine step_append_run rfl (.tmp 69) (.tmp 75) 100 rfl hrun (by simp [Act.eval]) (by simp [Act.eval]) ?_)
              all_goals
                go_wp2_with fail
                go_roundw
                case rel => exact ⟨k + 1, by omega, by go_num, by rw [HE.out]; exact HS2.out⟩
                case measure => simp [intOf]; omega
          · have hke : k = 6 := by omega
            obtain ⟨s1, ⟨sv, s2, s3⟩, s4⟩ := hS
            rw [hke] at s3
            have hM2 := hM.below s1
            have hww := s1.size
            have hA := HADD.out (lev3 B) sv _ wr hM2 (owns_base s3 (by omega)) rfl (by have := HLN.out; omega) (by omega)
            obtain ⟨sa, sc, rfl⟩ := OwnsLab.form s3
            have y0 : wr.cell? ⟨wa.heap.size, 0, none⟩ = _ := cell_of_row _ _ 0 _ _ _ s2
            have y1 : wr.cell? ⟨wa.heap.size, 1, none⟩ = _ := cell_of_row _ _ 1 _ _ _ s2
            have y2 : wr.cell? ⟨wa.heap.size, 2, none⟩ = _ := cell_of_row _ _ 2 _ _ _ s2
            have y3 : wr.cell? ⟨wa.heap.size, 3, none⟩ = _ := cell_of_row _ _ 3 _ _ _ s2
            have y4 : wr.cell? ⟨wa.heap.size, 4, none⟩ = _ := cell_of_row _ _ 4 _ _ _ s2
            simp at y0 y1 y2 y3 y4
            have HA := Lib.hid hA
            clear hA hM2 s2 s3 s4 hke
            go_wp2_with (go_at_call 46; refine HA.out.mono ?_; rintro e w2 ⟨rfl, hm2, hz2⟩; have HM2 := Lib.hid hm2; clear hm2)
            go_meet
            exact ⟨by unfold mk2; rw [HFE.out]; exact HM2.out, by omega⟩
    case rest =>
      clear hM hx
      obtain ⟨hM, hx⟩ := hcut
      clear wa
      obtain ⟨wa, hwa⟩ : ∃ wa : World, wa = wc := ⟨_, rfl⟩
      rw [← hwa] at hM hx ⊢
      clear hwa
      clear wc
      go_upto_if 84 with fail
      go_cut [15] (fun _ wx => MR w (.slice la least.length lc) (.slice ca cents.length cc) (mk3 B least cents) wx ∧ w.heap.size + 3 ≤ wx.heap.size)
      case first =>
        cases hf : bt n 4
        · have HM : Hid (MR w (.slice la least.length lc) (.slice ca cents.length cc) (mk3 B least cents) wa) := by
            have e : B.f1 = false := by rw [← HB.out]; exact hf
            unfold mk3; rw [e]; exact hM
          have hf' := bt_false hf
          have hfd : decide (0 < bits BinOp.and IntKind.u32 n 4) = false := hf
          rw [hfd]
          clear hf hfd
          go_wp2_with fail
          go_meet
          exact ⟨HM.out, hx⟩
        · have hfe : B.f1 = true := by rw [← HB.out]; exact hf
          have HFE := Lib.hid hfe
          have hf' := bt_true hf
          have hfd : decide (0 < bits BinOp.and IntKind.u32 n 4) = true := hf
          rw [hfd]
          clear hf hfe hfd
          go_wp2_with fail
          go_loopw [88] (fun i wr => ∃ k : Nat, k ≤ 3 ∧ i = .int .i64 k ∧ SR wa ⟨#[111, 110, 101]⟩ 1 (pre1.map Value.string).toArray (sel pre1 lab1 B.b1 k) wr) (fun i _ => 3 - (intOf i).toNat)
          case atStart => exact ⟨0, Nat.zero_le _, rfl, SR_start wa _ _ _⟩
          case round =>
            obtain ⟨k, hk, rfl, hS⟩ := hrel
            by_cases hlt : k < 3
            · have hpl : k < pre1.length := hlt
              have HSU := Lib.hid (sel_succ pre1 lab1 B.b1 k hpl)
              have hsl : (sel pre1 lab1 B.b1 k).length ≤ 100 := by have := sel_len pre1 lab1 B.b1 k; omega
              obtain ⟨sa, sc, gv, cv, w1, c2, hlw, hrun, d2, dz, hS2⟩ := SR_step (W := (wr.alloc (.cells #[.string (lab1 pre1[k]).pre, .string (lab1 pre1[k]).grp] 110))) hS (lab1 pre1[k]) hsl ((Below.refl _ wr).alloc (Nat.le_refl _) _) (by simp) (by exact cells_new wr (labCell (lab1 pre1[k])) _) HI.out
              have cp : wr.cell? ⟨wa.heap.size + 1, k, none⟩ = some (.string pre1[k]) := by
                rw [cell_of_row _ _ k _ _ _ hS.2.2]; simp [hpl]
              have hly : wa.heap.size + 1 < wr.heap.size := (Array.getElem?_eq_some_iff.1 hS.2.2).1
              have hps : pre1[k].size = 1 := by
                have : k = 0 ∨ k = 1 ∨ k = 2 := by omega
                rcases this with rfl | rfl | rfl <;> rfl
              have hps1 : pre1[k].size ≤ 1 := by omega
              have hps2 : 1 ≤ pre1[k].size := by omega
              have HBK : Hid (B.b1 k = bt (n / 2 ^ (14 + k)) 1) := by rw [← HB.out]; exact rfl
              have HS := Lib.hid hS
              have HS2 := Lib.hid hS2
              clear hS hS2 hps
              generalize sel pre1 lab1 B.b1 k = labs at HSU hsl c2 hrun d2 HS HS2
              dsimp only [lab1] at hrun
              generalize pre1[k] = p at cp hps1 hps2 hrun HSU HS2
              cases hb : bt (n / 2 ^ (14 + k)) 1
              · have hb' := bt_false hb
                have HE : Hid (sel pre1 lab1 B.b1 (k + 1) = labs) := by rw [HSU.out, HBK.out, hb]; exact rfl
                clear hb hrun
                go_wp2_with fail
                go_roundw
                case rel => exact ⟨k + 1, by omega, by go_num, by rw [HE.out]; exact HS.out⟩
                case measure => simp [intOf]; omega
              · have hb' := bt_true hb
                have HE : Hid (sel pre1 lab1 B.b1 (k + 1) = labs ++ [lab1 p]) := by rw [HSU.out, HBK.out, hb]; exact rfl
                clear hb
                go_wp2_with (at_builtin; refine wpList_append_run rfl (.tmp 100) (.tmp 103) 100 rfl hrun rfl rfl ?_)
                go_roundw
                case rel => exact ⟨k + 1, by omega, by go_num, by rw [HE.out]; exact HS2.out⟩
                case measure => simp [intOf]; omega
            · have hke : k = 3 := by omega
              obtain ⟨s1, ⟨sv, s2, s3⟩, s4⟩ := hS
              rw [hke] at s3
              have hM2 := hM.below s1
              have hww := s1.size
              have hA := HADD.out (lev1 B) sv _ wr hM2 (owns_base s3 (by omega)) rfl (by have := HLN.out; omega) (by omega)
              obtain ⟨sa, sc, rfl⟩ := OwnsLab.form s3
              have y0 : wr.cell? ⟨wa.heap.size, 0, none⟩ = _ := cell_of_row _ _ 0 _ _ _ s2
              have y1 : wr.cell? ⟨wa.heap.size, 1, none⟩ = _ := cell_of_row _ _ 1 _ _ _ s2
              have y2 : wr.cell? ⟨wa.heap.size, 2, none⟩ = _ := cell_of_row _ _ 2 _ _ _ s2
              have y3 : wr.cell? ⟨wa.heap.size, 3, none⟩ = _ := cell_of_row _ _ 3 _ _ _ s2
              have y4 : wr.cell? ⟨wa.heap.size, 4, none⟩ = _ := cell_of_row _ _ 4 _ _ _ s2
              simp at y0 y1 y2 y3 y4
              have HA := Lib.hid hA
              clear hA hM2 s2 s3 s4 hke
              go_wp2_with (go_at_call 46; refine HA.out.mono ?_; rintro e w2 ⟨rfl, hm2, hz2⟩; have HM2 := Lib.hid hm2; clear hm2)
              go_meet
              exact ⟨by unfold mk3; rw [HFE.out]; exact HM2.out, by omega⟩
      case rest =>
        clear hM hx
        obtain ⟨hM, hx⟩ := hcut
        clear wa
        obtain ⟨wa, hwa⟩ : ∃ wa : World, wa = wc := ⟨_, rfl⟩
        rw [← hwa] at hM hx ⊢
        clear hwa
        clear wc
        obtain ⟨h1, h2, h3, v, h4, L, hL, hLr, hLo⟩ := hM
        have hL3 := HLN.out.2.2
        have hLl : L.length = (mk3 B least cents).length := by rw [← hL, List.length_map]
        rw [hLl] at hLo
        obtain ⟨a, cap, rfl⟩ : ∃ a cap, v = .slice a (mk3 B least cents).length cap := by
          rcases Joins.ownsRow_forms hLo with ⟨rfl, hp⟩ | ⟨g, cap, rfl⟩
          · exact ⟨none, 0, by rw [hp]⟩
          · exact ⟨_, cap, rfl⟩
        have x1 := cell_of_one h3
        have x2 := cell_of_one h4
        have hx2 : w.heap.size + 2 < wa.heap.size := by omega
        have hx1 : w.heap.size + 1 < wa.heap.size := by omega
        have H1 := Lib.hid h1
        have HL := Lib.hid hL
        have HLL := Lib.hid hLl
        have HLR := Lib.hid hLr
        have FIN : Hid (∀ (c : Int) (v' : Value) (w2 : World) (o1 o2 : Obj), c = ((cents.getD (mk3 B least cents).length 0).toNat : Int) → w2.ownsRow (w.heap.size + 3) 102 5 v' ((mk3 B least cents).length + 1) (L.flatMap lCell ++ lCell (⟨⟨#[97, 108, 108]⟩, 0, [], 0, c⟩, .slice none 0 0)) → ((wa.alloc o1).alloc o2).grownBy w2 (Value.slice a (mk3 B least cents).length cap).ownBlock → Below w.heap.size w w2 ∧ OwnsLv w2 w.heap.size v' (madeR B least cents)) := by
          intro c v' w2 o1 o2 hc ho hg
          have hLo2 := (hLo.alloc o1).alloc o2
          refine ⟨((h1.alloc h1.size o1).alloc (by have := h1.size; simp; omega) o2).grown hg (by have := h1.size; simp; omega) (fun r e => by have := (hLo.lt r e).1; omega), L ++ [(⟨⟨#[97, 108, 108]⟩, 0, [], 0, c⟩, .slice none 0 0)], ?_, ?_, ?_⟩
          · rw [List.map_append, hL]; unfold madeR; rw [hc]; rfl
          · intro p hp
            have nA := own_not hLo2 (T := 110) (by decide)
            rcases List.mem_append.1 hp with hp | hp
            · exact owns_base (kept_typed (((hLr p hp).alloc o1).alloc o2) hg (fun g e => nA g e)) (by omega)
            · rw [List.mem_singleton.1 hp]; exact OwnsLab.nil _ _
          · rw [List.flatMap_append, List.length_append, hLl]
            have := owns_base ho (b' := w.heap.size) (by omega)
            simpa using this
        clear h1 h2 h3 h4 hL hLr hLl
        by_cases k2 : (mk3 B least cents).length < cents.length
        · obtain ⟨g2, o2, rfl, gg2, c2⟩ := byte_of HRC.out rfl H1.out k2
          have e2 := Lib.hid (getD_lt k2)
          have bb3 : (cents[(mk3 B least cents).length].toNat : Int) ≤ 255 := by have := cents[(mk3 B least cents).length].toNat_lt; omega
          have bb4 : 0 ≤ (cents[(mk3 B least cents).length].toNat : Int) := by omega
          go_wp2_with (at_builtin; refine wpList_append_own _ rfl _ _ 26 rfl (w.heap.size + 3) 102 i1 (.agg #[.string ⟨#[]⟩, .int .i64 0, .slice none 0 0, .int .i64 0, .int .i64 0]) 5 64 Tryz.underlying26 HI1.out.1 HI1.out.2.1 HI1.out.2.2.1 HI1.out.2.2.2 rfl (by decide) _ _ _ rfl ((hLo.alloc _).alloc _) ⟨wa.heap.size + 1, 0, none⟩ 1 1 (lCell (⟨⟨#[97, 108, 108]⟩, 0, [], 0, (cents[(mk3 B least cents).length].toNat : Int)⟩, .slice none 0 0)) rfl rfl (cells_newN _ _ (by simp) _ _) (by simp [Value.oneCell', lCell]) (by unfold maxLen; omega) (by omega) (by simp; omega) ?_; intro v' w2 hown' hgrow _)
          go_ret
          obtain ⟨f1, f2⟩ := FIN.out _ _ _ _ _ (by rw [e2.out]) hown' hgrow
          exact ⟨_, rfl, f1, f2⟩
        · have e2 := Lib.hid (getD_ge k2)
          go_wp2_with (at_builtin; refine wpList_append_own _ rfl _ _ 26 rfl (w.heap.size + 3) 102 i1 (.agg #[.string ⟨#[]⟩, .int .i64 0, .slice none 0 0, .int .i64 0, .int .i64 0]) 5 64 Tryz.underlying26 HI1.out.1 HI1.out.2.1 HI1.out.2.2.1 HI1.out.2.2.2 rfl (by decide) _ _ _ rfl ((hLo.alloc _).alloc _) ⟨wa.heap.size + 1, 0, none⟩ 1 1 (lCell (⟨⟨#[97, 108, 108]⟩, 0, [], 0, 0⟩, .slice none 0 0)) rfl rfl (cells_newN _ _ (by simp) _ _) (by simp [Value.oneCell', lCell]) (by unfold maxLen; omega) (by omega) (by simp; omega) ?_; intro v' w2 hown' hgrow _)
          go_ret
          obtain ⟨f1, f2⟩ := FIN.out _ _ _ _ _ (by rw [e2.out]; rfl) hown' hgrow
          exact ⟨_, rfl, f1, f2⟩
end Go.Proofs.YtelklmdlodgdpaaGreat

/-! SQ -/
namespace Go.Proofs.YtelklmdlodgdpaaGreat
open Go.RowKit
set_option linter.unusedVariables false
/-- All lists of Booleans of a length. -/
def bools : Nat → List (List Bool)
  | 0 => [[]]
  | n + 1 => (bools n).flatMap (fun l => [false :: l, true :: l])
theorem mem_bools : ∀ l : List Bool, l ∈ bools l.length
  | [] => by simp [bools]
  | b :: l => by
    rw [List.length_cons]
    unfold bools
    rw [List.mem_flatMap]
    refine ⟨l, mem_bools l, ?_⟩
    cases b <;> simp
def selL (f : ByteArray → Lab) : List ByteArray → List Bool → List Lab
  | c :: cs, b :: bs => if b then f c :: selL f cs bs else selL f cs bs
  | _, _ => []
theorem sel_from (f : ByteArray → Lab) (b : Nat → Bool) : ∀ (cands : List ByteArray) (s : Nat) (all : List ByteArray), (∀ i, cands[i]? = all[s + i]?) →
    (((List.range' s cands.length).filter b).map (fun i => f (all.getD i ⟨#[]⟩))) = selL f cands ((List.range' s cands.length).map b)
  | [], s, all, h => rfl
  | c :: cs, s, all, h => by
    rw [List.length_cons, List.range'_succ, List.map_cons]
    have hc : all.getD s ⟨#[]⟩ = c := by
      have := h 0
      rw [List.getD_eq_getElem?_getD, ← show all[s + 0]? = all[s]? from rfl, ← this]; rfl
    have ih := sel_from f b cs (s + 1) all (fun i => by have := h (i + 1); rw [List.getElem?_cons_succ] at this; rw [this]; congr 1; omega)
    unfold selL
    cases hb : b s
    · rw [List.filter_cons_of_neg (by simpa using hb), if_neg (by simp)]; exact ih
    · rw [List.filter_cons_of_pos (by simpa using hb), if_pos rfl, List.map_cons, hc, ih]
theorem sel_eq (f : ByteArray → Lab) (b : Nat → Bool) (cands : List ByteArray) : sel cands f b cands.length = selL f cands ((List.range cands.length).map b) := by
  unfold sel
  have := sel_from f b cands 0 cands (fun i => by rw [Nat.zero_add])
  rw [List.range_eq_range']
  exact this
theorem sel_all {P : List Lab → Bool} (f : ByteArray → Lab) (cands : List ByteArray) (k : Nat) (hk : k = cands.length) (h : (bools k).all (fun bs => P (selL f cands bs)) = true) (b : Nat → Bool) : P (sel cands f b k) = true := by
  subst hk
  rw [sel_eq]
  refine List.all_eq_true.1 h _ ?_
  have := mem_bools ((List.range cands.length).map b)
  simpa using this
/-- Labels of a level of one length: right by themselves. -/
def labsC (p : Int) (labs : List Lab) : Bool := labs.all (fun x => decide ((x.pre.size : Int) = p) && plainB x.pre && nameB x.grp) && sortedC labs
/-- Prefixes with one group begin alike. -/
def alikeC (p : Int) (m : Nat) (labs : List Lab) : Bool :=
  (labs.flatMap (pairsL ⟨⟨#[]⟩, p, labs, 0, 0⟩)).all (fun x => (labs.flatMap (pairsL ⟨⟨#[]⟩, p, labs, 0, 0⟩)).all (fun y => !decide (x.1 = y.1) || decide (x.2.extract 0 m = y.2.extract 0 m)))
def chk5 (labs : List Lab) : Bool := labsC 5 labs && alikeC 5 3 labs && alikeC 5 1 labs && alikeC 5 0 labs
def chk3 (labs : List Lab) : Bool := labsC 3 labs && alikeC 3 1 labs && alikeC 3 0 labs
def chk1 (labs : List Lab) : Bool := labsC 1 labs && alikeC 1 0 labs
theorem ok5 (b : Nat → Bool) : chk5 (sel pre5 lab5 b 5) = true := sel_all lab5 pre5 5 rfl (by kernel_rfl) b
theorem ok3 (b : Nat → Bool) : chk3 (sel pre3 lab3 b 6) = true := sel_all lab3 pre3 6 rfl (by kernel_rfl) b
theorem ok1 (b : Nat → Bool) : chk1 (sel pre1 lab1 b 3) = true := sel_all lab1 pre1 3 rfl (by kernel_rfl) b
theorem pairsL_eq (l : Lev) : pairsL l = pairsL ⟨⟨#[]⟩, l.pre, l.labs, 0, 0⟩ := rfl
theorem nest_alike {l next : Lev} (h : alikeC l.pre next.pre.toNat l.labs = true) : nestC l next = true := by
  rw [nestC_iff]
  unfold alikeC at h
  rw [← pairsL_eq] at h
  simp only [List.all_eq_true, Bool.or_eq_true, Bool.not_eq_true', decide_eq_false_iff_not, decide_eq_true_eq] at h
  intro x hx y hy e
  rcases h x hx y hy with h' | h'
  · exact absurd e h'
  · unfold grpOf; rw [h']
theorem level_labs {l : Lev} (hn : nameB l.name = true) (hp : 0 ≤ l.pre ∧ l.pre ≤ 10) (hm : 1 ≤ l.min ∧ l.min ≤ 2000) (hc : 0 ≤ l.cents ∧ l.cents ≤ 1000000) (hl : labsC l.pre l.labs = true) : levelC l false = true := by
  unfold labsC at hl
  rw [Bool.and_eq_true] at hl
  unfold levelC headB
  rw [hn]
  simp only [Bool.true_and, Bool.and_eq_true, decide_eq_true_eq, Bool.false_eq_true, if_false]
  exact ⟨⟨hp.1, hp.2, hc.1, hc.2⟩, ⟨⟨hm.1, hm.2⟩, hl.1⟩, hl.2⟩
theorem chk5_parts {labs : List Lab} (h : chk5 labs = true) : labsC 5 labs = true ∧ alikeC 5 3 labs = true ∧ alikeC 5 1 labs = true ∧ alikeC 5 0 labs = true := by unfold chk5 at h; simpa [Bool.and_eq_true, and_assoc] using h
theorem chk3_parts {labs : List Lab} (h : chk3 labs = true) : labsC 3 labs = true ∧ alikeC 3 1 labs = true ∧ alikeC 3 0 labs = true := by unfold chk3 at h; simpa [Bool.and_eq_true, and_assoc] using h
theorem chk1_parts {labs : List Lab} (h : chk1 labs = true) : labsC 1 labs = true ∧ alikeC 1 0 labs = true := by unfold chk1 at h; simpa [Bool.and_eq_true, and_assoc] using h
theorem byte_le (x : UInt8) : 0 ≤ (x.toNat : Int) ∧ (x.toNat : Int) ≤ 255 := by have := x.toNat_lt; omega
/-- A scheme made of these levels is right, whatever the numbers are. -/
theorem made_gen (f5 f3 f1 : Bool) (labs5 labs3 labs1 : List Lab) (h5 : chk5 labs5 = true) (h3 : chk3 labs3 = true) (h1 : chk1 labs1 = true) (s5 : labs5.length ≤ 5) (s3 : labs3.length ≤ 6) (s1 : labs1.length ≤ 3) (m5 m3 m1 c5 c3 c1 c0 : Int) (hm5 : 1 ≤ m5 ∧ m5 ≤ 2000) (hm3 : 1 ≤ m3 ∧ m3 ≤ 2000) (hm1 : 1 ≤ m1 ∧ m1 ≤ 2000) (hc5 : 0 ≤ c5 ∧ c5 ≤ 1000000) (hc3 : 0 ≤ c3 ∧ c3 ≤ 1000000) (hc1 : 0 ≤ c1 ∧ c1 ≤ 1000000) (hc0 : 0 ≤ c0 ∧ c0 ≤ 1000000) :
    rightC ((if f5 then [⟨⟨#[102, 105, 118, 101]⟩, 5, labs5, m5, c5⟩] else []) ++ (if f3 then [⟨⟨#[116, 104, 114, 101, 101]⟩, 3, labs3, m3, c3⟩] else []) ++ (if f1 then [⟨⟨#[111, 110, 101]⟩, 1, labs1, m1, c1⟩] else []) ++ [⟨⟨#[97, 108, 108]⟩, 0, [], 0, c0⟩]) = true := by
  obtain ⟨a0, a1, a2, a3⟩ := chk5_parts h5
  obtain ⟨b0, b1, b2⟩ := chk3_parts h3
  obtain ⟨d0, d1⟩ := chk1_parts h1
  have L5 : levelC ⟨⟨#[102, 105, 118, 101]⟩, 5, labs5, m5, c5⟩ false = true := level_labs (by kernel_rfl) ⟨by show (0 : Int) ≤ 5; decide, by show (5 : Int) ≤ 10; decide⟩ hm5 hc5 a0
  have L3 : levelC ⟨⟨#[116, 104, 114, 101, 101]⟩, 3, labs3, m3, c3⟩ false = true := level_labs (by kernel_rfl) ⟨by show (0 : Int) ≤ 3; decide, by show (3 : Int) ≤ 10; decide⟩ hm3 hc3 b0
  have L1 : levelC ⟨⟨#[111, 110, 101]⟩, 1, labs1, m1, c1⟩ false = true := level_labs (by kernel_rfl) ⟨by show (0 : Int) ≤ 1; decide, by show (1 : Int) ≤ 10; decide⟩ hm1 hc1 d0
  have L0 : levelC ⟨⟨#[97, 108, 108]⟩, 0, [], 0, c0⟩ true = true := by
    unfold levelC headB
    have : nameB ⟨#[97, 108, 108]⟩ = true := by kernel_rfl
    simp [this, hc0.1, hc0.2]
  have N53 : nestC ⟨⟨#[102, 105, 118, 101]⟩, 5, labs5, m5, c5⟩ ⟨⟨#[116, 104, 114, 101, 101]⟩, 3, labs3, m3, c3⟩ = true := nest_alike a1
  have N51 : nestC ⟨⟨#[102, 105, 118, 101]⟩, 5, labs5, m5, c5⟩ ⟨⟨#[111, 110, 101]⟩, 1, labs1, m1, c1⟩ = true := nest_alike a2
  have N50 : nestC ⟨⟨#[102, 105, 118, 101]⟩, 5, labs5, m5, c5⟩ ⟨⟨#[97, 108, 108]⟩, 0, [], 0, c0⟩ = true := nest_alike a3
  have N31 : nestC ⟨⟨#[116, 104, 114, 101, 101]⟩, 3, labs3, m3, c3⟩ ⟨⟨#[111, 110, 101]⟩, 1, labs1, m1, c1⟩ = true := nest_alike b1
  have N30 : nestC ⟨⟨#[116, 104, 114, 101, 101]⟩, 3, labs3, m3, c3⟩ ⟨⟨#[97, 108, 108]⟩, 0, [], 0, c0⟩ = true := nest_alike b2
  have N10 : nestC ⟨⟨#[111, 110, 101]⟩, 1, labs1, m1, c1⟩ ⟨⟨#[97, 108, 108]⟩, 0, [], 0, c0⟩ = true := nest_alike d1
  have e1 : decide ((⟨#[102, 105, 118, 101]⟩ : ByteArray) = ⟨#[116, 104, 114, 101, 101]⟩) = false := by kernel_rfl
  have e2 : decide ((⟨#[102, 105, 118, 101]⟩ : ByteArray) = ⟨#[111, 110, 101]⟩) = false := by kernel_rfl
  have e3 : decide ((⟨#[102, 105, 118, 101]⟩ : ByteArray) = ⟨#[97, 108, 108]⟩) = false := by kernel_rfl
  have e4 : decide ((⟨#[116, 104, 114, 101, 101]⟩ : ByteArray) = ⟨#[111, 110, 101]⟩) = false := by kernel_rfl
  have e5 : decide ((⟨#[116, 104, 114, 101, 101]⟩ : ByteArray) = ⟨#[97, 108, 108]⟩) = false := by kernel_rfl
  have e6 : decide ((⟨#[111, 110, 101]⟩ : ByteArray) = ⟨#[97, 108, 108]⟩) = false := by kernel_rfl
  cases f5 <;> cases f3 <;> cases f1
  all_goals
    simp only [Bool.false_eq_true, if_false, if_true, List.nil_append, List.cons_append]
    unfold rightC
    simp only [levelsC, namesC, chainC, L5, L3, L1, L0, N53, N51, N50, N31, N30, N10, e1, e2, e3, e4, e5, e6, List.all_cons, List.all_nil, Bool.not_false, Bool.and_true, Bool.and_self]
    simp
    try omega
theorem made_right (B : Bits) (least cents : List UInt8) : rightB (madeR B least cents) = true := by
  rw [rightB_eq]
  have hb : ∀ l : List UInt8, ∀ i, 1 ≤ 1 + ((l.getD i 0).toNat : Int) ∧ 1 + ((l.getD i 0).toNat : Int) ≤ 2000 := fun l i => by have := byte_le (l.getD i 0); omega
  have hc : ∀ l : List UInt8, ∀ i, 0 ≤ ((l.getD i 0).toNat : Int) ∧ ((l.getD i 0).toNat : Int) ≤ 1000000 := fun l i => by have := byte_le (l.getD i 0); omega
  obtain ⟨m5, c5, e1⟩ : ∃ i j : Nat, mk1 B least cents = if B.f5 then [⟨⟨#[102, 105, 118, 101]⟩, 5, sel pre5 lab5 B.b5 5, 1 + ((least.getD i 0).toNat : Int), ((cents.getD j 0).toNat : Int)⟩] else [] := ⟨0, 0, by unfold mk1 addL lev5; rfl⟩
  obtain ⟨m3, c3, e2⟩ : ∃ i j : Nat, mk2 B least cents = mk1 B least cents ++ if B.f3 then [⟨⟨#[116, 104, 114, 101, 101]⟩, 3, sel pre3 lab3 B.b3 6, 1 + ((least.getD i 0).toNat : Int), ((cents.getD j 0).toNat : Int)⟩] else [] := ⟨(mk1 B least cents).length, (mk1 B least cents).length, by unfold mk2 addL lev3; split <;> simp⟩
  obtain ⟨m1, c1, e3⟩ : ∃ i j : Nat, mk3 B least cents = mk2 B least cents ++ if B.f1 then [⟨⟨#[111, 110, 101]⟩, 1, sel pre1 lab1 B.b1 3, 1 + ((least.getD i 0).toNat : Int), ((cents.getD j 0).toNat : Int)⟩] else [] := ⟨(mk2 B least cents).length, (mk2 B least cents).length, by unfold mk3 addL lev1; split <;> simp⟩
  unfold madeR
  generalize (mk3 B least cents).length = n0
  rw [e3, e2, e1]
  exact made_gen B.f5 B.f3 B.f1 _ _ _ (ok5 _) (ok3 _) (ok1 _) (sel_len _ _ _ _) (sel_len _ _ _ _) (sel_len _ _ _ _) _ _ _ _ _ _ _ (hb _ _) (hb _ _) (hb _ _) (hc _ _) (hc _ _) (hc _ _) (hc _ _)
theorem extract_extract (c : ByteArray) {n m : Nat} (h : m ≤ n) : (c.extract 0 n).extract 0 m = c.extract 0 m := by
  apply ba_inj
  simp
  omega
theorem plain_extract {c : ByteArray} (h : plainB c = true) (n : Nat) : plainB (c.extract 0 n) = true := by
  unfold plainB allB at *
  rw [List.all_eq_true] at *
  intro x hx
  refine h x ?_
  have : (c.extract 0 n).data.toList = c.data.toList.take n := by simp
  rw [this] at hx
  exact List.mem_of_mem_take hx
/-- Codes that share a group share the one at the next level. -/
theorem nest_share {l next : Lev} (hn : nestedP l next) (h0 : 0 ≤ next.pre) (h1 : next.pre ≤ l.pre) {c d : ByteArray} (hpc : plainB c = true) (hpd : plainB d = true) (hc : l.pre ≤ c.size) (hd : l.pre ≤ d.size) (h : grpOf l c = grpOf l d) : grpOf next c = grpOf next d := by
  have up : ∀ x : ByteArray, grpOf next (x.extract 0 l.pre.toNat) = grpOf next x := fun x => by unfold grpOf; rw [extract_extract x (by omega)]
  rw [← up c, ← up d]
  have sz : ∀ x : ByteArray, l.pre ≤ x.size → ((x.extract 0 l.pre.toNat).size : Int) = l.pre := fun x hx => by rw [ByteArray.size_extract]; omega
  have mem : ∀ (x y : ByteArray), labOf l.labs x = some y → (y, x) ∈ l.labs.flatMap (pairsL l) := fun x y hxy => by
    unfold labOf at hxy
    cases hf : l.labs.find? (fun z => decide (z.pre = x)) with
    | none => rw [hf] at hxy; cases hxy
    | some z =>
      rw [hf] at hxy
      have hz := List.mem_of_find?_eq_some hf
      have hzp : z.pre = x := by simpa using List.find?_some hf
      have hzg : z.grp = y := by simpa using hxy
      exact List.mem_flatMap.2 ⟨z, hz, by unfold pairsL; rw [hzp, hzg]; exact List.mem_cons_self⟩
  have own : ∀ (x y : ByteArray), labOf l.labs x = some y → (y.size : Int) = l.pre → plainB y = true → labOf l.labs y = none → (y, y) ∈ l.labs.flatMap (pairsL l) := fun x y hxy h1 h2 h3 => by
    unfold labOf at hxy
    cases hf : l.labs.find? (fun z => decide (z.pre = x)) with
    | none => rw [hf] at hxy; cases hxy
    | some z =>
      rw [hf] at hxy
      have hz := List.mem_of_find?_eq_some hf
      have hzg : z.grp = y := by simpa using hxy
      refine List.mem_flatMap.2 ⟨z, hz, ?_⟩
      unfold pairsL ownB
      rw [hzg, h3, h2]
      simp [h1]
  unfold grpOf at h
  have sc := sz c hc
  have sd := sz d hd
  have pc := plain_extract hpc l.pre.toNat
  have pd := plain_extract hpd l.pre.toNat
  generalize c.extract 0 l.pre.toNat = x at h sc pc
  generalize d.extract 0 l.pre.toNat = y at h sd pd
  clear sz up
  cases e1 : labOf l.labs x with
  | some a =>
    rw [e1] at h
    cases e2 : labOf l.labs y with
    | some b =>
      rw [e2, Option.getD_some, Option.getD_some] at h
      subst h
      exact hn (a, x) (mem x a e1) (a, y) (mem y a e2) rfl
    | none =>
      rw [e2, Option.getD_some, Option.getD_none] at h
      subst h
      exact hn (a, x) (mem x a e1) (a, a) (own x a e1 sd pd e2) rfl
  | none =>
    rw [e1] at h
    cases e2 : labOf l.labs y with
    | some b =>
      rw [e2, Option.getD_some, Option.getD_none] at h
      subst h
      exact hn (x, x) (own y x e2 sc pc e1) (x, y) (mem y x e2) rfl
    | none =>
      rw [e2, Option.getD_none, Option.getD_none] at h
      rw [h]
end Go.Proofs.YtelklmdlodgdpaaGreat

/-! V0 -/
namespace Go.Proofs.YtelklmdlodgdpaaGreat
open Go.RowKit
set_option linter.unusedVariables false
set_option maxRecDepth 100000
theorem right_fits {ls : List Lev} (h : rightB ls = true) : ∀ l ∈ ls, LevFits l := by
  intro l hl
  obtain ⟨i, hi, rfl⟩ := List.mem_iff_getElem.1 hl
  obtain ⟨_, _, ⟨hs, hlv, _, _⟩, _⟩ := rightB_iff.1 h
  obtain ⟨hh, hr⟩ := levelB_iff.1 (hlv i hi hi)
  obtain ⟨hn, _⟩ := head_parts hh
  have nm : ∀ s : ByteArray, nameB s = true → s.size ≤ maxLen := fun s hs => by
    unfold nameB at hs
    simp at hs
    unfold maxLen
    omega
  have hlen : ls[i].labs.length ≤ 200 := by
    have h1 := sumTo_succ ls i hi
    have h2 := sumTo_mono ls (show i + 1 ≤ ls.length from hi)
    omega
  refine ⟨nm _ hn, by omega, fun x hx => ?_⟩
  obtain ⟨k, hk, rfl⟩ := List.mem_iff_getElem.1 hx
  cases hb : decide (i + 1 = ls.length)
  · rw [hb] at hr
    simp only [Bool.false_eq_true, if_false] at hr
    have := (hr.2 k hk hk).1
    have hf := (right_level h i hi).2.1 _ (List.getElem_mem hk)
    have hf2 := (right_level h i hi).2.2.2
    unfold labOk at this
    simp only [Bool.and_eq_true] at this
    exact ⟨by unfold maxLen; omega, nm _ this.2⟩
  · rw [hb] at hr
    simp only [if_true] at hr
    omega
theorem code5_ok (x : UInt8) : codeB (code5 x) = true := by
  have h : (List.range 256).all (fun n => codeB (code5 (UInt8.ofNat n))) = true := by kernel_rfl
  have := List.all_eq_true.1 h x.toNat (List.mem_range.2 x.toNat_lt)
  simpa using this
theorem addL_pre {least cents : List UInt8} {out : List Lev} {l : Lev} (h : ∀ x ∈ out, x.pre ≤ 5) (hl : l.pre ≤ 5) : ∀ x ∈ addL least cents out l, x.pre ≤ 5 := by
  unfold addL
  intro x hx
  rcases List.mem_append.1 hx with hx | hx
  · exact h x hx
  · rw [List.mem_singleton.1 hx]; exact hl
theorem made_pre (B : Bits) (least cents : List UInt8) : ∀ l ∈ madeR B least cents, l.pre ≤ 5 := by
  have h1 : ∀ x ∈ mk1 B least cents, x.pre ≤ 5 := by
    unfold mk1
    split
    · exact addL_pre (by simp) (by show (5 : Int) ≤ 5; decide)
    · simp
  have h2 : ∀ x ∈ mk2 B least cents, x.pre ≤ 5 := by
    unfold mk2
    split
    · exact addL_pre h1 (by show (3 : Int) ≤ 5; decide)
    · exact h1
  have h3 : ∀ x ∈ mk3 B least cents, x.pre ≤ 5 := by
    unfold mk3
    split
    · exact addL_pre h2 (by show (1 : Int) ≤ 5; decide)
    · exact h2
  intro l hl
  unfold madeR at hl
  rcases List.mem_append.1 hl with hl | hl
  · exact h3 l hl
  · rw [List.mem_singleton.1 hl]; show (0 : Int) ≤ 5; decide
theorem right_last {ls : List Lev} (h : rightB ls = true) (i : Nat) (hi : i + 1 = ls.length) (c : ByteArray) : grpOf (ls[i]'(by omega)) c = ⟨#[]⟩ := by
  obtain ⟨_, _, ⟨_, hlv, _, _⟩, _⟩ := rightB_iff.1 h
  obtain ⟨_, hr⟩ := levelB_iff.1 (hlv i (by omega) (by omega))
  rw [decide_eq_true hi] at hr
  simp only [if_true] at hr
  obtain ⟨_, hp, hl⟩ := hr
  have hl' : (ls[i]'(by omega)).labs = [] := List.length_eq_zero_iff.1 hl
  unfold grpOf
  rw [hp, hl']
  apply ba_inj
  unfold labOf
  simp
theorem codeB_plain {c : ByteArray} (h : codeB c = true) : plainB c = true := by unfold codeB at h; simp at h; exact h.2
theorem path_nests {ls : List Lev} {c d : ByteArray} (h : rightB ls = true) (hc : codeB c = true) (hd : codeB d = true) (hpc : ∀ l ∈ ls, l.pre ≤ c.size) (hpd : ∀ l ∈ ls, l.pre ≤ d.size) (i : Nat) (hi : i + 1 < ls.length) (e : grpOf ls[i] c = grpOf ls[i] d) : grpOf ls[i + 1] c = grpOf ls[i + 1] d := by
  obtain ⟨_, _, ⟨_, _, _, hm⟩, hn⟩ := rightB_iff.1 h
  exact nest_share (nestedB_iff.1 (hn i hi)) (right_level h (i + 1) hi).2.2.1 (hm (i + 1) hi hi i rfl (by omega)) (codeB_plain hc) (codeB_plain hd) (hpc _ (List.getElem_mem _)) (hpd _ (List.getElem_mem _)) e
theorem right_ok (ls : List Lev) (v : Value) (w W : World) (hr : RdLevs W v ls) (h : rightB ls = true) (hw : Below w.heap.size w W) :
    Calls Tryz.prog 39 #[v] W fun e w' => e = .returned (.bool true) ∧ Below w.heap.size w w' ∧ Below W.heap.size W w' := by
  have hl := right_len h
  refine (right_any ls v W hr (right_fits h) (by unfold maxLen; omega)).mono ?_
  rintro e w' ⟨rfl, hb⟩
  rw [h]
  exact ⟨rfl, below_c hw hw.size hb, hb⟩
theorem rd_bytes0 (w : World) : RdBytes w (.slice none 0 0) [] := ⟨none, 0, rfl, fun h => absurd h (by simp)⟩
theorem rd_bytes {W : World} {n : Nat} {T : TypeId} (ls : List UInt8) (h : W.heap[n]? = some (.cells (ls.map (fun c => Value.int .u8 (c.toNat : Int))).toArray T (0, 0))) : RdBytes W (.slice (some ⟨n, 0, none⟩) ls.length ls.length) ls := by
  refine ⟨_, _, rfl, fun _ => ⟨n, 0, rfl, (Array.getElem?_eq_some_iff.1 h).1, fun i hi => ?_⟩⟩
  rw [Nat.zero_add, cell_of_row _ n i _ _ _ h]
  simp [hi]
theorem bytes_made {n : Int} (w W : World) (hn0 : 0 ≤ n) (hn1 : n < 4294967296) (hw : Below w.heap.size w W) :
    Calls Tryz.prog 19 #[.int .u32 n, .slice none 0 0, .slice none 0 0] W fun e w' => ∃ v, e = .returned v ∧ Below w.heap.size w w' ∧ Below W.heap.size W w' ∧ OwnsLv w' W.heap.size v (madeR (bitsOf n) [] []) := by
  refine (made_any n _ _ [] [] W hn0 hn1 (rd_bytes0 W) (rd_bytes0 W) (by decide) (by decide)).mono ?_
  rintro e w' ⟨v, rfl, hb, ho⟩
  exact ⟨v, rfl, below_c hw hw.size hb, hb, ho⟩
end Go.Proofs.YtelklmdlodgdpaaGreat

/-! V2 -/
namespace Go.Proofs.YtelklmdlodgdpaaGreat
open Go.RowKit
set_option linter.unusedVariables false
set_option maxRecDepth 100000
def shG (d : Nat) (g : Grp) : Grp := { g with lvl := g.lvl + 1, up := if 0 ≤ g.up then g.up + d else g.up }
theorem sh_up (l : Lev) (cs : List ByteArray) (n d : Nat) (g : Grp) : upTo l cs (d + n) (shG d g) = shG d (upTo l cs n g) := by
  unfold upTo shG
  simp only [Grp.mk.injEq, true_and, and_true]
  rw [if_pos (by omega)]
  omega
theorem sh_mk (i : Nat) (l : Lev) (cs : List ByteArray) (d : Nat) (n : ByteArray) : mkG (i + 1) l cs n = shG d (mkG i l cs n) := by
  unfold mkG shG
  simp
theorem sh_step (cs : List ByteArray) (P gs : List Grp) (b i : Nat) (l : Lev) : gStep cs (P ++ gs.map (shG P.length), P.length + b, i + 1) l = (P ++ (gStep cs (gs, b, i) l).1.map (shG P.length), P.length + (gStep cs (gs, b, i) l).2.1, (gStep cs (gs, b, i) l).2.2 + 1) := by
  unfold gStep
  simp only [Prod.mk.injEq, List.length_append, List.length_map, and_true]
  rw [List.take_append, List.drop_append]
  have e1 : P.take (P.length + b) = P := List.take_of_length_le (by omega)
  have e2 : P.drop (P.length + b) = [] := List.drop_eq_nil_of_le (by omega)
  have e3 : P.length + b - P.length = b := by omega
  rw [e1, e2, e3, List.nil_append, List.map_append, List.map_append, List.append_assoc, List.append_assoc, List.append_assoc]
  congr 1
  rw [← List.map_take, ← List.map_drop, List.map_map, List.map_map, List.map_map]
  congr 1
  have e4 : (gs.drop b).map (upTo l cs (P.length + gs.length) ∘ shG P.length) = (gs.drop b).map (shG P.length ∘ upTo l cs gs.length) := List.map_congr_left (fun g _ => sh_up l cs gs.length P.length g)
  have e5 : (namesOf l cs).map (mkG (i + 1) l cs) = (namesOf l cs).map (shG P.length ∘ mkG i l cs) := List.map_congr_left (fun n _ => sh_mk i l cs P.length n)
  rw [e4, e5]
theorem sh_fold (cs : List ByteArray) (P : List Grp) : ∀ (r : List Lev) (gs : List Grp) (b i : Nat), (r.foldl (gStep cs) (P ++ gs.map (shG P.length), P.length + b, i + 1)).1 = P ++ (r.foldl (gStep cs) (gs, b, i)).1.map (shG P.length) := by
  intro r
  induction r with
  | nil => intro gs b i; rfl
  | cons l r ih =>
    intro gs b i
    rw [List.foldl_cons, List.foldl_cons, sh_step]
    exact ih _ _ _
theorem gTo_all (ls : List Lev) (cs : List ByteArray) : gTo ls cs ls.length = ls.foldl (gStep cs) ([], 0, 0) := by unfold gTo; rw [List.take_of_length_le (Nat.le_refl _)]
/-- The groups of the finest level. -/
def fineG (l0 l1 : Lev) (cs : List ByteArray) : List Grp := (namesOf l0 cs).map (fun n => upTo l1 cs (namesOf l0 cs).length (mkG 0 l0 cs n))
theorem gTo_cut (l0 l1 : Lev) (r : List Lev) (cs : List ByteArray) : (gTo (l0 :: l1 :: r) cs (l0 :: l1 :: r).length).1 = fineG l0 l1 cs ++ (gTo (l1 :: r) cs (l1 :: r).length).1.map (shG (fineG l0 l1 cs).length) := by
  rw [gTo_all, gTo_all, List.foldl_cons, List.foldl_cons, List.foldl_cons]
  have e1 : gStep cs (gStep cs ([], 0, 0) l0) l1 = (fineG l0 l1 cs ++ ((namesOf l1 cs).map (mkG 0 l1 cs)).map (shG (fineG l0 l1 cs).length), (fineG l0 l1 cs).length + 0, 1 + 1) := by
    unfold gStep fineG
    simp only [List.take_nil, List.drop_nil, List.map_nil, List.nil_append, List.take_zero, List.drop_zero, List.length_nil, List.length_map, List.map_map, Prod.mk.injEq, Nat.add_zero, and_true]
    have e5 : (namesOf l1 cs).map (mkG (0 + 1) l1 cs) = (namesOf l1 cs).map (shG (namesOf l0 cs).length ∘ mkG 0 l1 cs) := List.map_congr_left (fun n _ => sh_mk 0 l1 cs _ n)
    rw [e5]
    rfl
  have e2 : gStep cs ([], 0, 0) l1 = ((namesOf l1 cs).map (mkG 0 l1 cs), 0, 1) := by
    unfold gStep
    simp
  rw [e1, e2]
  exact sh_fold cs _ r _ 0 1
theorem right_tail {l0 l1 : Lev} {r : List Lev} (h : rightB (l0 :: l1 :: r) = true) : rightB (l1 :: r) = true := by
  rw [rightB_eq] at h ⊢
  unfold rightC at h ⊢
  simp only [Bool.and_eq_true, decide_eq_true_eq] at h ⊢
  obtain ⟨⟨⟨⟨⟨h1, h2⟩, h3⟩, h4⟩, h5⟩, h6⟩ := h
  unfold levelsC at h4
  unfold namesC at h5
  unfold chainC at h6
  simp only [Bool.and_eq_true] at h4 h5 h6
  simp only [List.map_cons, List.sum_cons, List.length_cons] at h1 h2 h3 ⊢
  exact ⟨⟨⟨⟨⟨by omega, by omega⟩, by omega⟩, h4.2⟩, h5.2⟩, h6.2⟩
theorem RdLevs.tail {w : World} {a : Option Addr} {n cap : Nat} {l0 l1 : Lev} {r : List Lev} (h : RdLevs w (.slice a n cap) (l0 :: l1 :: r)) : ∃ g off, a = some ⟨g, off, none⟩ ∧ g < w.heap.size ∧ n = r.length + 2 ∧ ∀ c, RdLevs w (.slice (some ⟨g, off + 5, none⟩) (r.length + 1) c) (l1 :: r) := by
  obtain ⟨a', cap', hv, hc⟩ := h
  injection hv with h1 h2 h3
  subst h1
  obtain ⟨g, off, ha, hg, hcc⟩ := hc (by simp)
  refine ⟨g, off, ha, hg, by simpa using h2, fun c => ⟨_, c, rfl, fun _ => ⟨g, off + 5, rfl, hg, fun i hi => ?_⟩⟩⟩
  obtain ⟨sv, s1, s2⟩ := hcc (i + 1) (by simpa using hi)
  refine ⟨sv, s1, ?_⟩
  have e : off + (i + 1) * 5 = off + 5 + i * 5 := by omega
  rw [e] at s2
  exact s2
theorem codesOf_facts (bs : List UInt8) : (codesOf bs).length ≤ 2000 ∧ ∀ c ∈ codesOf bs, codeB c = true ∧ c.size = 5 := by
  unfold codesOf
  refine ⟨by simp; omega, fun c hc => ?_⟩
  obtain ⟨x, _, rfl⟩ := List.mem_map.1 hc
  exact ⟨code5_ok x, code5_size x⟩
theorem short_no {ls : List Lev} {cs : List ByteArray} (hp : ∀ l ∈ ls, l.pre ≤ 5) (hc : ∀ c ∈ cs, c.size = 5) : cs.any (shortB ls) = false := by
  rw [List.any_eq_false]
  intro c hcm
  unfold shortB
  cases ls with
  | nil => simp
  | cons l r =>
    have := hp l List.mem_cons_self
    have := hc c hcm
    simp
    omega
/-- Groups at a right scheme with short prefixes, and codes of five signs. -/
theorem groups_ok (ls : List Lev) (v vc : Value) (cs : List ByteArray) (w W : World) (hr : RdLevs W v ls) (h : rightB ls = true) (hp : ∀ l ∈ ls, l.pre ≤ 5) (hrc : ReadsT W vc cs) (hcs : cs.length ≤ 2000 ∧ ∀ c ∈ cs, codeB c = true ∧ c.size = 5) (hw : Below w.heap.size w W) :
    Calls Tryz.prog 49 #[v, vc] W fun e w' => ∃ a cap, e = .returned (.tuple #[.slice a (gTo ls cs ls.length).1.length cap, .int .i64 0]) ∧ Below w.heap.size w w' ∧ Below W.heap.size W w' ∧ RdGrps w' (.slice a (gTo ls cs ls.length).1.length cap) (gTo ls cs ls.length).1 := by
  have hl := right_len h
  have := groups_any ls v vc cs W hr (right_fits h) (by unfold maxLen; omega) hrc (by unfold maxLen; omega) (fun c hc => by rw [(hcs.2 c hc).2]; decide)
  rw [groupsR_ok h hcs.1 (fun c hc => (hcs.2 c hc).1) (short_no hp (fun c hc => (hcs.2 c hc).2))] at this
  refine this.mono ?_
  rintro e w' ⟨v', rfl, hb, ho⟩
  have hg := RdGrps.of_owns ho
  obtain ⟨a, cap, hv⟩ := ho.len
  subst hv
  exact ⟨a, cap, rfl, below_c hw hw.size hb, hb, hg⟩
theorem gTo_bound (ls : List Lev) (cs : List ByteArray) (hl : ls.length ≤ 6) (hc : cs.length ≤ 2000) : (gTo ls cs ls.length).1.length ≤ 12000 := by
  have := (gTo_len ls cs ls.length (Nat.le_refl _)).1
  exact Nat.le_trans this (Nat.le_trans (Nat.mul_le_mul hl hc) (by decide))
theorem gTo_item_len (ls : List Lev) (cs : List ByteArray) : ∀ k, k ≤ ls.length → ∀ g ∈ (gTo ls cs k).1, g.items.length ≤ cs.length := by
  intro k
  induction k with
  | zero => intro _ g hg; cases hg
  | succ k ih =>
    intro h
    rw [gTo_succ ls cs k h]
    intro g hg
    unfold gStep at hg
    simp only [List.append_assoc, List.mem_append, List.mem_map] at hg
    rcases hg with hg | ⟨g', hg, rfl⟩ | ⟨n, hn, rfl⟩
    · exact ih (by omega) g (List.mem_of_mem_take hg)
    · exact ih (by omega) g' (List.mem_of_mem_drop hg)
    · exact itemsTo_len _ _ _ _
theorem gTo_lvl (ls : List Lev) (cs : List ByteArray) : ∀ k, k ≤ ls.length → ∀ g ∈ (gTo ls cs k).1, 0 ≤ g.lvl ∧ g.lvl < k ∧ -1 ≤ g.up ∧ g.up ≤ 100000 + k * (cs.length : Int) := by
  intro k
  induction k with
  | zero => intro _ g hg; cases hg
  | succ k ih =>
    intro h
    have hlen := gTo_len ls cs k (by omega)
    have hix := gTo_idx ls cs k (by omega)
    rw [gTo_succ ls cs k h]
    intro g hg
    have hmul : ((k + 1 : Nat) : Int) * (cs.length : Int) = (k : Int) * (cs.length : Int) + (cs.length : Int) := by rw [Int.natCast_add, Int.add_mul]; simp
    have hk0 : (0 : Int) ≤ (k : Int) * (cs.length : Int) := Int.mul_nonneg (by omega) (by omega)
    have hlen' : ((gTo ls cs k).1.length : Int) ≤ (k : Int) * (cs.length : Int) := by have := hlen.1; rw [← Int.natCast_mul]; omega
    unfold gStep at hg
    simp only [List.append_assoc, List.mem_append, List.mem_map] at hg
    rcases hg with hg | ⟨g', hg, rfl⟩ | ⟨n, hn, rfl⟩
    · have := ih (by omega) g (List.mem_of_mem_take hg)
      omega
    · have := ih (by omega) g' (List.mem_of_mem_drop hg)
      have hi : idx (grpOf ls[k] (cs.getD (g'.items.headD 0).toNat ⟨#[]⟩)) (namesOf ls[k] cs) ≤ (namesOf ls[k] cs).length := List.findIdx_le_length
      have hnl := names_len ls[k] cs
      unfold upTo
      dsimp only
      omega
    · unfold mkG
      dsimp only
      rw [hix]
      omega
end Go.Proofs.YtelklmdlodgdpaaGreat

/-! V4 -/
namespace Go.Proofs.YtelklmdlodgdpaaGreat
open Go.RowKit
set_option linter.unusedVariables false
set_option maxRecDepth 100000
def lv (ls : List Lev) (m : Nat) : Lev := ls.getD m ⟨⟨#[]⟩, 0, [], 0, 0⟩
theorem lv_get {ls : List Lev} {m : Nat} (h : m < ls.length) : lv ls m = ls[m] := by
  unfold lv; rw [List.getD_eq_getElem?_getD, List.getElem?_eq_getElem h]; rfl
def nm (ls : List Lev) (cs : List ByteArray) (m : Nat) : List ByteArray := namesOf (lv ls m) cs
def startOf (ls : List Lev) (cs : List ByteArray) : Nat → Nat
  | 0 => 0
  | m + 1 => startOf ls cs m + (nm ls cs m).length
def itm (ls : List Lev) (cs : List ByteArray) (m : Nat) (n : ByteArray) : List Int := itemsTo (lv ls m) cs cs.length n
/-- The code of a group's first item. -/
def headC (ls : List Lev) (cs : List ByteArray) (m : Nat) (n : ByteArray) : ByteArray := cs.getD ((itm ls cs m n).headD 0).toNat ⟨#[]⟩
def upOf (ls : List Lev) (cs : List ByteArray) (m : Nat) (n : ByteArray) : Nat := startOf ls cs (m + 1) + idx (grpOf (lv ls (m + 1)) (headC ls cs m n)) (nm ls cs (m + 1))
def gAt (ls : List Lev) (cs : List ByteArray) (k m : Nat) (n : ByteArray) : Grp := ⟨m, n, if m + 1 < k then (upOf ls cs m n : Int) else -1, itm ls cs m n⟩
def gAll (ls : List Lev) (cs : List ByteArray) (k : Nat) : List Grp := (List.range k).flatMap (fun m => (nm ls cs m).map (gAt ls cs k m))
theorem flat_len {α : Type} (f : Nat → List α) (s : Nat → Nat) (h0 : s 0 = 0) (hs : ∀ m, s (m + 1) = s m + (f m).length) : ∀ k, ((List.range k).flatMap f).length = s k := by
  intro k
  induction k with
  | zero => rw [h0]; rfl
  | succ k ih => rw [List.range_succ, List.flatMap_append, List.length_append, ih, hs]; simp
theorem flat_get {α : Type} (f : Nat → List α) (s : Nat → Nat) (h0 : s 0 = 0) (hs : ∀ m, s (m + 1) = s m + (f m).length) : ∀ k m j, m < k → j < (f m).length → ((List.range k).flatMap f)[s m + j]? = (f m)[j]? := by
  intro k
  induction k with
  | zero => intro m j h; omega
  | succ k ih =>
    intro m j hm hj
    have hl := flat_len f s h0 hs k
    rw [List.range_succ, List.flatMap_append]
    by_cases e : m = k
    · subst e
      rw [List.getElem?_append_right (by omega), hl]
      simp
    · have hlt : m < k := by omega
      have := ih m j hlt hj
      rw [List.getElem?_append_left]
      · exact this
      · rw [List.getElem?_eq_getElem hj] at this
        exact (List.getElem?_eq_some_iff.1 this).1
theorem gAll_len (ls : List Lev) (cs : List ByteArray) (k : Nat) : (gAll ls cs k).length = startOf ls cs k :=
  flat_len _ _ rfl (fun m => by simp [startOf]) k
theorem gAll_get (ls : List Lev) (cs : List ByteArray) (k m j : Nat) (hm : m < k) (hj : j < (nm ls cs m).length) : (gAll ls cs k)[startOf ls cs m + j]? = some (gAt ls cs k m (nm ls cs m)[j]) := by
  unfold gAll
  rw [flat_get (fun m => (nm ls cs m).map (gAt ls cs k m)) (startOf ls cs) rfl (fun m => by simp [startOf]) k m j hm (by simpa using hj)]
  simp [hj]
/-- The groups in closed form. -/
theorem gTo_closed (ls : List Lev) (cs : List ByteArray) : ∀ k, k ≤ ls.length → gTo ls cs k = (gAll ls cs k, startOf ls cs (k - 1), k) := by
  intro k
  induction k with
  | zero => intro _; rfl
  | succ k ih =>
    intro h
    rw [gTo_succ ls cs k h, ih (by omega)]
    unfold gStep
    simp only [Prod.mk.injEq, Nat.add_sub_cancel, and_true]
    refine ⟨?_, gAll_len ls cs k⟩
    rw [gAll_len, ← lv_get h]
    have e3 : (namesOf (lv ls k) cs).map (mkG k (lv ls k) cs) = (nm ls cs k).map (gAt ls cs (k + 1) k) := by
      refine List.map_congr_left (fun n _ => ?_)
      unfold mkG gAt itm
      rw [if_neg (by omega)]
    rw [e3]
    have e4 : gAll ls cs (k + 1) = ((List.range k).flatMap (fun m => (nm ls cs m).map (gAt ls cs (k + 1) m))) ++ (nm ls cs k).map (gAt ls cs (k + 1) k) := by
      unfold gAll
      rw [List.range_succ, List.flatMap_append]
      simp
    rw [e4]
    congr 1
    cases k with
    | zero => rfl
    | succ j =>
      simp only [Nat.add_sub_cancel]
      have e5 : gAll ls cs (j + 1) = ((List.range j).flatMap (fun m => (nm ls cs m).map (gAt ls cs (j + 1) m))) ++ (nm ls cs j).map (gAt ls cs (j + 1) j) := by
        unfold gAll
        rw [List.range_succ, List.flatMap_append]
        simp
      have hl : ((List.range j).flatMap (fun m => (nm ls cs m).map (gAt ls cs (j + 1) m))).length = startOf ls cs j := flat_len _ _ rfl (fun m => by simp [startOf]) j
      rw [e5, List.take_append_of_le_length (by omega), List.drop_append_of_le_length (by omega), List.take_of_length_le (by omega), List.drop_eq_nil_of_le (by omega), List.nil_append, List.range_succ, List.flatMap_append, List.map_map]
      have e6 : (List.range j).flatMap (fun m => (nm ls cs m).map (gAt ls cs (j + 1) m)) = (List.range j).flatMap (fun m => (nm ls cs m).map (gAt ls cs (j + 1 + 1) m)) := by
        rw [List.flatMap_def, List.flatMap_def]
        congr 1
        refine List.map_congr_left (fun m hm => List.map_congr_left (fun n _ => ?_))
        have := List.mem_range.1 hm
        unfold gAt
        rw [if_pos (by omega), if_pos (by omega)]
      rw [e6]
      congr 1
      simp only [List.flatMap_cons, List.flatMap_nil, List.append_nil]
      refine List.map_congr_left (fun n _ => ?_)
      unfold gAt upTo upOf headC nm
      simp
theorem mem_gAll {ls : List Lev} {cs : List ByteArray} {k : Nat} {g : Grp} : g ∈ gAll ls cs k ↔ ∃ m n, m < k ∧ n ∈ nm ls cs m ∧ g = gAt ls cs k m n := by
  unfold gAll
  simp only [List.mem_flatMap, List.mem_range, List.mem_map]
  exact ⟨fun ⟨m, hm, n, hn, he⟩ => ⟨m, n, hm, hn, he.symm⟩, fun ⟨m, n, hm, hn, he⟩ => ⟨m, hm, n, hn, he.symm⟩⟩
/-- Groups are in order. -/
theorem gAll_order (ls : List Lev) (cs : List ByteArray) (k : Nat) : (gAll ls cs k).Pairwise (fun g h => g.lvl < h.lvl ∨ g.lvl = h.lvl ∧ ltB g.name h.name = true) := by
  unfold gAll
  rw [List.pairwise_flatMap]
  refine ⟨fun m _ => ?_, ?_⟩
  · rw [List.pairwise_map]
    refine List.Pairwise.imp ?_ (strict_sortB (cs.map (grpOf (lv ls m))))
    intro a b h
    exact Or.inr ⟨rfl, h⟩
  · refine List.Pairwise.imp ?_ List.pairwise_lt_range
    intro a b hab x hx y hy
    obtain ⟨n, _, rfl⟩ := List.mem_map.1 hx
    obtain ⟨n', _, rfl⟩ := List.mem_map.1 hy
    left
    show (a : Int) < (b : Int)
    omega
/-- A group's items are its codes. -/
theorem mem_itm {ls : List Lev} {cs : List ByteArray} {m : Nat} {n : ByteArray} {x : Int} : x ∈ itm ls cs m n ↔ ∃ i : Nat, ∃ h : i < cs.length, grpOf (lv ls m) cs[i] = n ∧ x = i := by
  unfold itm
  rw [mem_itemsTo]
  constructor
  · rintro ⟨i, hi, he, rfl⟩
    refine ⟨i, hi, ?_, rfl⟩
    rw [List.getD_eq_getElem?_getD, List.getElem?_eq_getElem hi] at he
    exact he
  · rintro ⟨i, hi, he, rfl⟩
    refine ⟨i, hi, ?_, rfl⟩
    rw [List.getD_eq_getElem?_getD, List.getElem?_eq_getElem hi]
    exact he
theorem itm_order (ls : List Lev) (cs : List ByteArray) (m : Nat) (n : ByteArray) : (itm ls cs m n).Pairwise (· < ·) := by
  unfold itm itemsTo
  rw [List.pairwise_map]
  refine List.Pairwise.imp ?_ (List.Pairwise.filter _ List.pairwise_lt_range)
  intro a b h
  exact Int.ofNat_lt.2 h
theorem itm_some {ls : List Lev} {cs : List ByteArray} {m : Nat} {n : ByteArray} (h : n ∈ nm ls cs m) : itm ls cs m n ≠ [] := ((names_keys (lv ls m) cs).2 n).1 h
theorem nm_of {ls : List Lev} {cs : List ByteArray} {m i : Nat} (h : i < cs.length) : grpOf (lv ls m) cs[i] ∈ nm ls cs m := by
  unfold nm namesOf
  rw [mem_sortB]
  exact List.mem_map.2 ⟨_, List.getElem_mem h, rfl⟩
theorem headC_mem {ls : List Lev} {cs : List ByteArray} {m : Nat} {n : ByteArray} (h : n ∈ nm ls cs m) : ∃ i : Nat, ∃ hi : i < cs.length, headC ls cs m n = cs[i] ∧ grpOf (lv ls m) cs[i] = n := by
  cases he : itm ls cs m n with
  | nil => exact absurd he (itm_some h)
  | cons x r =>
    have hx : x ∈ itm ls cs m n := by rw [he]; exact List.mem_cons_self
    obtain ⟨i, hi, h1, rfl⟩ := mem_itm.1 hx
    refine ⟨i, hi, ?_, h1⟩
    unfold headC
    rw [he]
    simp [hi]
end Go.Proofs.YtelklmdlodgdpaaGreat

/-! V5 -/
namespace Go.Proofs.YtelklmdlodgdpaaGreat
open Go.RowKit
set_option linter.unusedVariables false
set_option maxRecDepth 100000
/-- What the statement asks of a group. -/
structure PartAt (ls : List Lev) (cs : List ByteArray) (gs : List Grp) (g : Grp) (m : Nat) : Prop where
  hm : m < ls.length
  lvl : g.lvl = m
  some_ : 0 < g.items.length
  few : g.items.length ≤ cs.length
  item : ∀ p (hp : p < g.items.length), ∃ q : Nat, ∃ hq : q < cs.length, g.items[p] = q ∧ grpOf (lv ls m) cs[q] = g.name
  order : g.items.Pairwise (· < ·)
  up : (g.up = -1 ∧ m + 1 = ls.length) ∨ (m + 1 < ls.length ∧ ∃ u : Nat, ∃ hu : u < gs.length, g.up = u ∧ gs[u].lvl = m + 1 ∧ ∀ p (hp : p < g.items.length) (q : Nat) (hq : q < cs.length), g.items[p] = q → grpOf (lv ls (m + 1)) cs[q] = gs[u].name)
theorem itm_len (ls : List Lev) (cs : List ByteArray) (m : Nat) (n : ByteArray) : (itm ls cs m n).length ≤ cs.length := itemsTo_len _ _ _ _
theorem part_at {ls : List Lev} {cs : List ByteArray} (h : rightB ls = true) (hc : ∀ c ∈ cs, codeB c = true) (hp : ∀ l ∈ ls, ∀ c ∈ cs, l.pre ≤ c.size) {g : Grp} (hg : g ∈ gAll ls cs ls.length) : ∃ m, PartAt ls cs (gAll ls cs ls.length) g m := by
  obtain ⟨m, n, hm, hn, rfl⟩ := mem_gAll.1 hg
  have hit : ∀ p (hp : p < (itm ls cs m n).length), ∃ q : Nat, ∃ hq : q < cs.length, (itm ls cs m n)[p] = q ∧ grpOf (lv ls m) cs[q] = n := fun p hp => by
    obtain ⟨q, hq, h1, h2⟩ := mem_itm.1 (List.getElem_mem hp)
    exact ⟨q, hq, h2, h1⟩
  refine ⟨m, ⟨hm, rfl, List.length_pos_iff.2 (itm_some hn), itm_len ls cs m n, hit, itm_order ls cs m n, ?_⟩⟩
  by_cases hk : m + 1 < ls.length
  · right
    refine ⟨hk, ?_⟩
    obtain ⟨i, hi, hh, hgr⟩ := headC_mem hn
    have hmem : grpOf (lv ls (m + 1)) (headC ls cs m n) ∈ nm ls cs (m + 1) := by rw [hh]; exact nm_of hi
    have hlt := idx_lt hmem
    have hget := gAll_get ls cs ls.length (m + 1) _ hk hlt
    obtain ⟨hu, hge⟩ := List.getElem?_eq_some_iff.1 hget
    have hnm : (nm ls cs (m + 1))[idx (grpOf (lv ls (m + 1)) (headC ls cs m n)) (nm ls cs (m + 1))] = grpOf (lv ls (m + 1)) (headC ls cs m n) := by
      have := idx_get hmem
      rw [List.getElem?_eq_getElem hlt] at this
      exact Option.some.inj this
    refine ⟨upOf ls cs m n, hu, ?_, ?_, ?_⟩
    · unfold gAt
      dsimp only
      rw [if_pos hk]
    · have : (gAll ls cs ls.length)[upOf ls cs m n] = gAt ls cs ls.length (m + 1) (nm ls cs (m + 1))[idx (grpOf (lv ls (m + 1)) (headC ls cs m n)) (nm ls cs (m + 1))] := hge
      rw [this]
      rfl
    · intro p hp' q hq he
      have : (gAll ls cs ls.length)[upOf ls cs m n] = gAt ls cs ls.length (m + 1) (nm ls cs (m + 1))[idx (grpOf (lv ls (m + 1)) (headC ls cs m n)) (nm ls cs (m + 1))] := hge
      rw [this, hnm]
      show grpOf (lv ls (m + 1)) cs[q] = grpOf (lv ls (m + 1)) (headC ls cs m n)
      rw [hh]
      obtain ⟨q', hq', h1, h2⟩ := hit p hp'
      have e : q = q' := by
        have : ((q : Nat) : Int) = q' := he.symm.trans h1
        omega
      subst e
      rw [lv_get hk]
      rw [lv_get hm] at h2 hgr
      exact path_nests h (hc _ (List.getElem_mem hq)) (hc _ (List.getElem_mem hi)) (fun l hl => hp l hl _ (List.getElem_mem hq)) (fun l hl => hp l hl _ (List.getElem_mem hi)) m hk (h2.trans hgr.symm)
  · left
    unfold gAt
    dsimp only
    rw [if_neg hk]
    exact ⟨rfl, by omega⟩
theorem order_at {ls : List Lev} {cs : List ByteArray} {k i : Nat} (hi : i + 1 < (gAll ls cs k).length) : (gAll ls cs k)[i].lvl < (gAll ls cs k)[i + 1].lvl ∨ (gAll ls cs k)[i].lvl = (gAll ls cs k)[i + 1].lvl ∧ ltB (gAll ls cs k)[i].name (gAll ls cs k)[i + 1].name = true :=
  List.pairwise_iff_getElem.1 (gAll_order ls cs k) i (i + 1) (by omega) hi (by omega)
/-- Does a group hold a place (a code at a level)? -/
def hitB (L : Nat) (q : Nat) (g : Grp) : Bool := decide (g.lvl = ((q % L : Nat) : Int)) && decide (((q / L : Nat) : Int) ∈ g.items)
def metTo (L : Nat) (gs : List Grp) (j q : Nat) : Nat := ((gs.take j).filter (hitB L q)).length
/-- ..and p items of the next one. -/
def metAt (L : Nat) (gs : List Grp) (j : Nat) (g : Grp) (p q : Nat) : Nat := metTo L gs j q + if hitB L q { g with items := g.items.take p } = true then 1 else 0
theorem one_of {α : Type} {p : α → Bool} {a : α} : ∀ {l : List α}, l.Nodup → a ∈ l → p a = true → (∀ b ∈ l, p b = true → b = a) → (l.filter p).length = 1
  | [], _, h, _, _ => absurd h (by simp)
  | x :: r, hn, h, ha, hu => by
    rw [List.nodup_cons] at hn
    by_cases e : x = a
    · subst e
      rw [List.filter_cons_of_pos ha]
      have : r.filter p = [] := by
        rw [List.filter_eq_nil_iff]
        intro b hb hpb
        exact hn.1 ((hu b (List.mem_cons_of_mem _ hb) hpb) ▸ hb)
      rw [this]
      rfl
    · have hx : ¬ p x = true := fun hx => e (hu x List.mem_cons_self hx)
      rw [List.filter_cons_of_neg hx]
      refine one_of hn.2 ?_ ha (fun b hb => hu b (List.mem_cons_of_mem _ hb))
      rcases List.mem_cons.1 h with h | h
      · exact absurd h.symm e
      · exact h
theorem ltB_irr {a : ByteArray} (h : ltB a a = true) : False := ltB_ne h rfl
theorem gAll_nodup (ls : List Lev) (cs : List ByteArray) (k : Nat) : (gAll ls cs k).Nodup := by
  refine List.Pairwise.imp ?_ (gAll_order ls cs k)
  intro a b h e
  subst e
  rcases h with h | ⟨_, h⟩
  · omega
  · exact ltB_irr h
/-- Each code is in one group at each level. -/
theorem met_end (ls : List Lev) (cs : List ByteArray) (q : Nat) (hq : q < cs.length * ls.length) : metTo ls.length (gAll ls cs ls.length) (gAll ls cs ls.length).length q = 1 := by
  unfold metTo
  rw [List.take_of_length_le (Nat.le_refl _)]
  have hL : 0 < ls.length := by
    rcases Nat.eq_zero_or_pos ls.length with h | h
    · rw [h] at hq; omega
    · exact h
  have h1 : q / ls.length < cs.length := (Nat.div_lt_iff_lt_mul hL).2 hq
  have h2 : q % ls.length < ls.length := Nat.mod_lt _ hL
  refine one_of (a := gAt ls cs ls.length (q % ls.length) (grpOf (lv ls (q % ls.length)) cs[q / ls.length])) (gAll_nodup ls cs _) (mem_gAll.2 ⟨_, _, h2, nm_of h1, rfl⟩) ?_ ?_
  · unfold hitB
    rw [Bool.and_eq_true, decide_eq_true_eq, decide_eq_true_eq]
    exact ⟨rfl, mem_itm.2 ⟨_, h1, rfl, rfl⟩⟩
  · intro b hb hp
    obtain ⟨m, n, hm, hn, rfl⟩ := mem_gAll.1 hb
    unfold hitB at hp
    rw [Bool.and_eq_true, decide_eq_true_eq, decide_eq_true_eq] at hp
    have e1 : m = q % ls.length := by
      have : (m : Int) = ((q % ls.length : Nat) : Int) := hp.1
      omega
    obtain ⟨i, hi, h3, h4⟩ := mem_itm.1 hp.2
    have e2 : i = q / ls.length := by
      have := h4
      omega
    subst e1
    subst e2
    rw [h3]
theorem metAt_zero (L : Nat) (gs : List Grp) (j : Nat) (g : Grp) (q : Nat) : metAt L gs j g 0 q = metTo L gs j q := by
  unfold metAt hitB
  simp
theorem metAt_end (L : Nat) (gs : List Grp) (j : Nat) (hj : j < gs.length) (q : Nat) : metAt L gs j gs[j] gs[j].items.length q = metTo L gs (j + 1) q := by
  unfold metAt metTo
  rw [List.take_succ_eq_append_getElem hj, List.filter_append, List.length_append, List.take_of_length_le (Nat.le_refl _)]
  congr 1
  by_cases e : hitB L q gs[j] = true
  · rw [if_pos e, List.filter_cons_of_pos e]; rfl
  · rw [if_neg e, List.filter_cons_of_neg e]; rfl
/-- One item more. -/
theorem metAt_succ (L : Nat) (gs : List Grp) (j : Nat) (g : Grp) (m c p : Nat) (hm : m < L) (hl : g.lvl = m) (ho : g.items.Pairwise (· < ·)) (hp : p < g.items.length) (hc : g.items[p] = c) (q : Nat) :
    metAt L gs j g (p + 1) q = if q = c * L + m then metAt L gs j g p q + 1 else metAt L gs j g p q := by
  have hdm := Nat.div_add_mod q L
  have hiff : (q % L = m ∧ q / L = c) ↔ q = c * L + m := by
    constructor
    · rintro ⟨rfl, rfl⟩
      rw [Nat.mul_comm]
      exact hdm.symm
    · rintro rfl
      have hL : 0 < L := by omega
      refine ⟨by rw [Nat.mul_comm, Nat.mul_add_mod]; exact Nat.mod_eq_of_lt hm, by rw [Nat.mul_comm, Nat.mul_add_div hL, Nat.div_eq_of_lt hm]; rfl⟩
  have hno : ((c : Nat) : Int) ∉ g.items.take p := by
    intro h
    obtain ⟨i, hi, he⟩ := List.mem_iff_getElem.1 h
    rw [List.length_take] at hi
    rw [List.getElem_take] at he
    have := List.pairwise_iff_getElem.1 ho i p (by omega) hp (by omega)
    omega
  have hb1 : ∀ k, hitB L q { g with items := g.items.take k } = true ↔ (q % L = m ∧ ((q / L : Nat) : Int) ∈ g.items.take k) := fun k => by
    unfold hitB
    rw [Bool.and_eq_true, decide_eq_true_eq, decide_eq_true_eq, hl]
    constructor
    · rintro ⟨h1, h2⟩; exact ⟨by omega, h2⟩
    · rintro ⟨h1, h2⟩; exact ⟨by omega, h2⟩
  have hmem : ((q / L : Nat) : Int) ∈ g.items.take (p + 1) ↔ ((q / L : Nat) : Int) ∈ g.items.take p ∨ q / L = c := by
    rw [List.take_succ_eq_append_getElem hp, List.mem_append, List.mem_singleton, hc]
    constructor
    · rintro (h | h)
      · exact Or.inl h
      · exact Or.inr (by omega)
    · rintro (h | h)
      · exact Or.inl h
      · exact Or.inr (by omega)
  unfold metAt
  by_cases e : q = c * L + m
  · rw [if_pos e]
    obtain ⟨e1, e2⟩ := hiff.2 e
    rw [if_pos ((hb1 (p + 1)).2 ⟨e1, hmem.2 (Or.inr e2)⟩), if_neg (fun h => hno (by have := ((hb1 p).1 h).2; rw [e2] at this; exact this))]
  · rw [if_neg e]
    congr 1
    by_cases h1 : hitB L q { g with items := g.items.take p } = true
    · have h2 := (hb1 p).1 h1
      rw [if_pos h1, if_pos ((hb1 (p + 1)).2 ⟨h2.1, hmem.2 (Or.inl h2.2)⟩)]
    · rw [if_neg h1, if_neg]
      intro h3
      have h4 := (hb1 (p + 1)).1 h3
      rcases hmem.1 h4.2 with h5 | h5
      · exact h1 ((hb1 p).2 ⟨h4.1, h5⟩)
      · exact e (hiff.1 ⟨h4.1, h5⟩)
theorem metTo_le (L : Nat) (gs : List Grp) (j q : Nat) : metTo L gs j q ≤ gs.length := by
  unfold metTo
  refine Nat.le_trans (List.length_filter_le _ _) ?_
  rw [List.length_take]
  omega
theorem metAt_le (L : Nat) (gs : List Grp) (j : Nat) (g : Grp) (p q : Nat) : metAt L gs j g p q ≤ gs.length + 1 := by
  have := metTo_le L gs j q
  unfold metAt
  split <;> omega
/-- The row of counts. -/
def metV (N : Nat) (f : Nat → Nat) : List Value := (List.range N).map (fun q => .int .i64 (f q : Nat))
theorem metV_set (N : Nat) (f h : Nat → Nat) (i : Nat) (e : ∀ q, h q = if q = i then f q + 1 else f q) : (metV N f).set i (.int .i64 ((f i + 1 : Nat) : Int)) = metV N h := by
  unfold metV
  refine List.ext_getElem? (fun q => ?_)
  rw [List.getElem?_set, List.getElem?_map, List.getElem?_map, List.length_map, List.length_range]
  by_cases hq : q < N
  · rw [List.getElem?_range hq]
    by_cases hi : i = q
    · subst hi
      rw [if_pos rfl, if_pos hq]
      simp only [Option.map_some]
      rw [e, if_pos rfl]
    · rw [if_neg hi]
      simp only [Option.map_some]
      rw [e, if_neg (fun h => hi h.symm)]
  · have hn : (List.range N)[q]? = none := List.getElem?_eq_none (by rw [List.length_range]; omega)
    rw [hn]
    by_cases hi : i = q
    · rw [if_pos hi, if_neg (by omega)]; rfl
    · rw [if_neg hi]; rfl
theorem metV_zero (N : Nat) (f : Nat → Nat) (h : ∀ q, f q = 0) : metV N f = List.replicate N (.int .i64 0) := by
  unfold metV
  refine List.eq_replicate_iff.2 ⟨by simp, fun v hv => ?_⟩
  obtain ⟨q, _, rfl⟩ := List.mem_map.1 hv
  rw [h]
  rfl
theorem metV_get {N : Nat} {f : Nat → Nat} {q : Nat} (h : q < N) : (metV N f)[q]? = some (.int .i64 (f q : Nat)) := by
  unfold metV
  rw [List.getElem?_map, List.getElem?_range h]
  rfl
theorem metV_congr {N : Nat} {f h : Nat → Nat} (e : ∀ q, f q = h q) : metV N f = metV N h := by
  have : f = h := funext e
  rw [this]
theorem place_lt {c n m L : Nat} (hc : c < n) (hm : m < L) : c * L + m < n * L := by
  have : (c + 1) * L ≤ n * L := Nat.mul_le_mul_right _ hc
  rw [Nat.add_mul] at this
  omega
end Go.Proofs.YtelklmdlodgdpaaGreat
