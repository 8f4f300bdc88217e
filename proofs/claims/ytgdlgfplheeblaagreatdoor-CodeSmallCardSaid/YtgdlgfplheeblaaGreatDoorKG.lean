/-
  Package code: codeOf.
-/
import Derived.Test.YtgdlgfplheeblaaGreatDoorKD
import Derived.Test.YtgdlgfplheeblaaGreatDoorKF
import Derived.Lib.AtoiErrMem
namespace Go.Proofs.YtgdlgfplheeblaaGreatDoor
open Go.RowKit
set_option linter.unusedVariables false
set_option maxRecDepth 100000
/-- Where the loop of codeOf stands: k kinds done, b digits taken, cs is the code so far. -/
def CodeInv (ks : List Bool) (D : List UInt8) (k b : Nat) (cs : List UInt8) : Prop :=
  cs.length = k ∧ k ≤ ks.length ∧ b = widthL (ks.take k) ∧ unnum ks D = (unnum (ks.drop k) (D.drop b)).map (cs ++ ·)
theorem inv_zero (ks : List Bool) (D : List UInt8) : CodeInv ks D 0 0 [] := ⟨rfl, Nat.zero_le _, by simp [widthL], by simp⟩
theorem width_snoc (ks : List Bool) (k : Nat) (h : k < ks.length) : widthL (ks.take (k + 1)) = widthL (ks.take k) + if ks[k] then 2 else 1 := by
  unfold widthL
  rw [List.take_succ_eq_append_getElem h, List.map_append, List.sum_append]
  simp
theorem width_take_le (ks : List Bool) (k : Nat) : widthL (ks.take k) ≤ widthL ks := by
  have : widthL ks = widthL (ks.take k) + widthL (ks.drop k) := by
    conv => lhs; rw [← List.take_append_drop k ks]
    unfold widthL
    rw [List.map_append, List.sum_append]
  omega
theorem inv_bound {ks : List Bool} {D cs : List UInt8} {k b : Nat} (h : CodeInv ks D k b cs) (hk : k < ks.length) : b + (if ks[k] then 2 else 1) ≤ widthL ks := by
  rw [h.2.2.1, ← width_snoc ks k hk]; exact width_take_le _ _
theorem inv_digit {ks : List Bool} {D cs : List UInt8} {k b : Nat} (h : CodeInv ks D k b cs) (hk : k < ks.length) (hkb : ks[k] = false) (hb : b < D.length) : CodeInv ks D (k + 1) (b + 1) (cs ++ [D[b]]) := by
  refine ⟨by rw [List.length_append, h.1]; rfl, hk, by rw [width_snoc ks k hk, hkb, h.2.2.1]; rfl, ?_⟩
  rw [h.2.2.2, List.drop_eq_getElem_cons hk, hkb, List.drop_eq_getElem_cons hb, unnum, Option.map_map]
  congr 1
  funext l
  simp
theorem inv_letter {ks : List Bool} {D cs : List UInt8} {k b n : Nat} (h : CodeInv ks D k b cs) (hk : k < ks.length) (hkb : ks[k] = true) (hb : b + 1 < D.length) (hn : 10 * (D[b].toNat - 48) + (D[b + 1].toNat - 48) = n) (h1 : 1 ≤ n) (h2 : n ≤ 26) : CodeInv ks D (k + 1) (b + 2) (cs ++ [UInt8.ofNat (64 + n)]) := by
  refine ⟨by rw [List.length_append, h.1]; rfl, hk, by rw [width_snoc ks k hk, hkb, h.2.2.1]; rfl, ?_⟩
  rw [h.2.2.2, List.drop_eq_getElem_cons hk, hkb, List.drop_eq_getElem_cons (by omega : b < D.length), List.drop_eq_getElem_cons hb, unnum, hn, if_neg (by omega), Option.map_map]
  congr 1
  funext l
  simp
theorem inv_bad {ks : List Bool} {D cs : List UInt8} {k b n : Nat} (h : CodeInv ks D k b cs) (hk : k < ks.length) (hkb : ks[k] = true) (hb : b + 1 < D.length) (hn : 10 * (D[b].toNat - 48) + (D[b + 1].toNat - 48) = n) (h1 : n < 1 ∨ 26 < n) : unnum ks D = none := by
  rw [h.2.2.2, List.drop_eq_getElem_cons hk, hkb, List.drop_eq_getElem_cons (by omega : b < D.length), List.drop_eq_getElem_cons hb, unnum, hn, if_pos h1]
  rfl
theorem inv_end {ks : List Bool} {D cs : List UInt8} {b : Nat} (h : CodeInv ks D ks.length b cs) : unnum ks D = some cs := by
  rw [h.2.2.2, List.drop_length]
  simp [unnum]
theorem dropWhile_twice (p : UInt8 → Bool) : ∀ l : List UInt8, (l.dropWhile p).dropWhile p = l.dropWhile p
  | [] => rfl
  | a :: l => by
    cases h : p a
    · rw [List.dropWhile_cons_of_neg (by simp [h]), List.dropWhile_cons_of_neg (by simp [h])]
    · rw [List.dropWhile_cons_of_pos h]; exact dropWhile_twice p l
theorem dropWhile_nil (p : UInt8 → Bool) : ∀ l : List UInt8, l.dropWhile p = [] ↔ ∀ x ∈ l, p x = true
  | [] => by simp
  | a :: l => by
    cases h : p a
    · rw [List.dropWhile_cons_of_neg (by simp [h])]; simp [h]
    · rw [List.dropWhile_cons_of_pos h, dropWhile_nil p l]; simp [h]
theorem trimB_nil (l : List UInt8) (c : UInt8) : Lib.trimB l c = [] ↔ l.all (fun x => x == c) = true := by
  unfold Lib.trimB Lib.trimLeftB Lib.trimRightB
  rw [dropWhile_nil, List.all_eq_true]
  constructor
  · intro h
    have h2 : ∀ x ∈ l.reverse.dropWhile (· == c), (x == c) = true := fun x hx => h x (List.mem_reverse.2 hx)
    rw [← dropWhile_nil, dropWhile_twice, dropWhile_nil] at h2
    exact fun x hx => h2 x (List.mem_reverse.2 hx)
  · intro h x hx
    have : x ∈ l.reverse := by
      have := List.mem_reverse.1 hx
      exact (List.dropWhile_sublist (· == c)).subset this
    exact h x (List.mem_reverse.1 this)
def letB (n : Nat) : ByteArray := ⟨[UInt8.ofNat (64 + n)].toArray⟩
theorem conv_letter (n : Nat) (hn : n < 26) (W : World) : Sem.run Tryz.prog (convert 21 9 (.int .i32 (65 + (n : Int)))) W = .ok (.string (letB (n + 1))) W :=
  match n, hn with
  | 0, _ => by as_aux_lemma => kernel_rfl
  | 1, _ => by as_aux_lemma => kernel_rfl
  | 2, _ => by as_aux_lemma => kernel_rfl
  | 3, _ => by as_aux_lemma => kernel_rfl
  | 4, _ => by as_aux_lemma => kernel_rfl
  | 5, _ => by as_aux_lemma => kernel_rfl
  | 6, _ => by as_aux_lemma => kernel_rfl
  | 7, _ => by as_aux_lemma => kernel_rfl
  | 8, _ => by as_aux_lemma => kernel_rfl
  | 9, _ => by as_aux_lemma => kernel_rfl
  | 10, _ => by as_aux_lemma => kernel_rfl
  | 11, _ => by as_aux_lemma => kernel_rfl
  | 12, _ => by as_aux_lemma => kernel_rfl
  | 13, _ => by as_aux_lemma => kernel_rfl
  | 14, _ => by as_aux_lemma => kernel_rfl
  | 15, _ => by as_aux_lemma => kernel_rfl
  | 16, _ => by as_aux_lemma => kernel_rfl
  | 17, _ => by as_aux_lemma => kernel_rfl
  | 18, _ => by as_aux_lemma => kernel_rfl
  | 19, _ => by as_aux_lemma => kernel_rfl
  | 20, _ => by as_aux_lemma => kernel_rfl
  | 21, _ => by as_aux_lemma => kernel_rfl
  | 22, _ => by as_aux_lemma => kernel_rfl
  | 23, _ => by as_aux_lemma => kernel_rfl
  | 24, _ => by as_aux_lemma => kernel_rfl
  | 25, _ => by as_aux_lemma => kernel_rfl
  | n + 26, h => absurd h (by omega)
theorem pat_width {j : Nat} (hj : j = 1 ∨ j = 2 ∨ j = 3) : (patS j).size + Lib.countByte (patS j).data.toList 76 = widthL (patOf j) := by rcases hj with rfl | rfl | rfl <;> decide
theorem atoi_digits {l : List UInt8} (hd : ∀ c ∈ l, 48 ≤ c.toNat ∧ c.toNat ≤ 57) (h0 : l ≠ []) {m : Nat} (h : Lib.decFrom 0 l = some m) : Lib.atoi l = some (m : Int) := by
  cases l with
  | nil => exact absurd rfl h0
  | cons b r =>
    have hb := hd b List.mem_cons_self
    have e1 : (b == 45) = false := by
      rw [beq_eq_false_iff_ne]; rintro rfl; exact absurd hb.1 (by decide)
    have e2 : (b == 43) = false := by
      rw [beq_eq_false_iff_ne]; rintro rfl; exact absurd hb.1 (by decide)
    rw [Lib.atoi, e1, e2]
    simp only [Bool.false_eq_true, if_false, Lib.decNat, List.isEmpty_cons]
    rw [h]
    rfl
theorem digitVal_ok {c : UInt8} (h : 48 ≤ c.toNat ∧ c.toNat ≤ 57) : Lib.digitVal c = some (c.toNat - 48) := by
  unfold Lib.digitVal; rw [if_pos h]
theorem decFrom_ok : ∀ (l : List UInt8) (acc : Nat), (∀ c ∈ l, 48 ≤ c.toNat ∧ c.toNat ≤ 57) → ∃ m, Lib.decFrom acc l = some m
  | [], acc, _ => ⟨acc, rfl⟩
  | c :: l, acc, h => by
    rw [Lib.decFrom, digitVal_ok (h c List.mem_cons_self)]
    exact decFrom_ok l _ (fun x hx => h x (List.mem_cons_of_mem _ hx))
theorem decFrom_two {x y : UInt8} (hx : 48 ≤ x.toNat ∧ x.toNat ≤ 57) (hy : 48 ≤ y.toNat ∧ y.toNat ≤ 57) : Lib.decFrom 0 [x, y] = some (10 * (x.toNat - 48) + (y.toNat - 48)) := by
  rw [Lib.decFrom, digitVal_ok hx]
  simp only
  rw [Lib.decFrom, digitVal_ok hy]
  simp only [Lib.decFrom]
  congr 1
  omega
theorem atoi_any (s : ByteArray) (m : Nat) (W : World) (hs : s.size ≤ 18) (h0 : 1 ≤ s.size) (hd : digB s = true) (hm : Lib.decFrom 0 s.data.toList = some m) :
    Calls Tryz.prog 30 #[.string s] W fun e w' => e = .returned (.tuple #[.int .i64 (m : Nat), .nilIface]) ∧ Below W.heap.size W w' := by
  have hne : s.data.toList ≠ [] := fun h => by
    have : s.data.toList.length = s.size := rfl
    rw [h] at this
    simp at this
    omega
  refine (Tryz.strconv_Atoi s (m : Int) hs (atoi_digits (digB_iff.1 hd) hne hm) W).mono ?_
  rintro e w' ⟨rfl, t, rfl⟩
  exact ⟨rfl, Lib.bytesWorld_below _ _ _⟩
theorem trim_any (s : ByteArray) (W : World) (hs : s.size ≤ 100) :
    Calls Tryz.prog 56 #[.string s, .string ⟨#[48]⟩] W fun e w' => ∃ t, e = .returned (.string t) ∧ Below W.heap.size W w' ∧ t.toList.isEmpty = s.data.toList.all (fun x => x == 48) := by
  refine (Tryz.strings_Trim_one s 48 (by decide) W (by omega)).mono ?_
  rintro e w' ⟨rfl, hw⟩
  refine ⟨_, rfl, ?_, ?_⟩
  · rcases hw with rfl | rfl
    · exact Below.refl _ _
    · exact (Below.refl _ _).drew
  · rw [ByteArray.toList_eq]
    show (Lib.trimB s.data.toList 48).isEmpty = _
    rw [Bool.eq_iff_iff, List.isEmpty_iff, trimB_nil]
def CodeOfPost (j : Nat) (d : ByteArray) (w : World) (e : Ending) (w' : World) : Prop :=
  ((codeOfL j d.data.toList = none ∧ e = .returned (.tuple #[.string ⟨#[]⟩, .bool false])) ∨ ∃ l, codeOfL j d.data.toList = some l ∧ e = .returned (.tuple #[.string ⟨l.toArray⟩, .bool true])) ∧ Below w.heap.size w w'
set_option maxHeartbeats 8000000 in
theorem codeOf_any (j : Nat) (d : ByteArray) (w : World) (hj : j = 1 ∨ j = 2 ∨ j = 3) (hsz : d.size = 9) (hd : digB d = true) :
    Calls Tryz.prog 29 #[.int .u8 (j : Nat), .string d] w (CodeOfPost j d w) := by
  have hwl : widthL (patOf j) ≤ 9 := by rcases hj with rfl | rfl | rfl <;> decide
  obtain ⟨o, ho⟩ : ∃ o, 9 - widthL (patOf j) = o := ⟨_, rfl⟩
  have ho9 : o + widthL (patOf j) = 9 := by omega
  obtain ⟨c, hc⟩ : ∃ c, Lib.countByte (patS j).data.toList 76 = c := ⟨_, rfl⟩
  obtain ⟨q, hq⟩ : ∃ q, (patS j).size = q := ⟨_, rfl⟩
  have hqc := pat_width hj
  rw [hc, hq] at hqc
  have hqp : q = (patOf j).length := by rw [← hq]; exact patS_size hj
  have HCT : Hid (∀ W, Calls Tryz.prog 55 #[.string (patS j), .string ⟨#[76]⟩] W fun e w' => e = .returned (.int .i64 (c : Nat)) ∧ W = w') := fun W => by
    refine (Tryz.strings_Count_one (patS j) 76 W).mono ?_
    rintro e w' ⟨rfl, rfl⟩
    rw [hc]
    exact ⟨rfl, rfl⟩
  have hox : (d.extract 0 o).size = o := by rw [ByteArray.size_extract]; omega
  have HTR := Lib.hid (fun W => trim_any (d.extract 0 o) W (by omega))
  have hpa := pats_at j (by omega)
  have hda := digB_iff.1 hd
  have hdl : d.data.toList.length = 9 := hsz
  have FN : Hid (∀ w', codeOfL j d.data.toList = none → Below w.heap.size w w' → CodeOfPost j d w (.returned (.tuple #[.string ⟨#[]⟩, .bool false])) w') := fun w' h hb => ⟨.inl ⟨h, rfl⟩, hb⟩
  have FS : Hid (∀ w' l, codeOfL j d.data.toList = some l → Below w.heap.size w w' → CodeOfPost j d w (.returned (.tuple #[.string ⟨l.toArray⟩, .bool true])) w') := fun w' l h hb => ⟨.inr ⟨l, h, rfl⟩, hb⟩
  have hz : (d.extract 0 o).data.toList = d.data.toList.take o := by rw [extract_list]; simp
  rw [hz] at HTR
  have hall : codeOfL j d.data.toList = if (d.data.toList.take o).all (fun x => x == 48) then unnum (patOf j) (d.data.toList.drop o) else none := by unfold codeOfL; rw [ho]
  have hq9 : q ≤ 9 := by omega
  have hc9 : c ≤ 9 := by omega
  have ho9' : o ≤ 9 := by omega
  have hoi : (9 : Int) - (q : Int) - (c : Int) = (o : Int) := by omega
  have hsI : d.size = 9 := hsz
  have HQ := Lib.hid hqp
  have HDA := Lib.hid hda
  have HO := Lib.hid ho9
  clear hc ho hqc hwl hox hz hd hdl hqp hda ho9
  cases hal : (d.data.toList.take o).all (fun x => x == 48)
  · rw [hal] at HTR hall
    simp only [Bool.false_eq_true, if_false] at hall
    have FN' := Lib.hid (fun w' => FN.out w' hall)
    clear FN FS hall hal HDA HQ
    go_enter Tryz.func29, Tryz.ntmps29
    go_wp2_with fail
    refine (patterns_any _).mono ?_
    rintro e w1 ⟨rfl, hb1⟩
    have HB1 := Lib.hid hb1
    clear hb1
    go_wp2_with fail
    refine (HCT.out _).mono ?_
    rintro e w2 ⟨rfl, rfl⟩
    go_wp2_with fail
    refine (HTR.out _).mono ?_
    rintro e w3 ⟨t, rfl, hb3, hte⟩
    have HB3 := Lib.hid (HB1.out.trans (hb3.mono HB1.out.size))
    have hte2 : (!t.toList.isEmpty) = true := by rw [hte]; rfl
    clear hb3
    go_wp2_with fail
    go_ret2
    exact FN'.out _ HB3.out
  · rw [hal] at HTR hall
    simp only [if_true] at hall
    have HL := Lib.hid hall
    clear hall hal
    go_enter Tryz.func29, Tryz.ntmps29
    go_wp2_with fail
    refine (patterns_any _).mono ?_
    rintro e w1 ⟨rfl, hb1⟩
    have HB1 := Lib.hid hb1
    clear hb1
    go_wp2_with fail
    refine (HCT.out _).mono ?_
    rintro e w2 ⟨rfl, rfl⟩
    go_wp2_with fail
    refine (HTR.out _).mono ?_
    rintro e w3 ⟨t, rfl, hb3, hte⟩
    have HB3 := Lib.hid (HB1.out.trans (hb3.mono HB1.out.size))
    have hte2 : (!t.toList.isEmpty) = false := by rw [hte]; rfl
    clear hb3
    go_wp2_with fail
    obtain ⟨W2, K, hW2, hK, hit, HB2, hKw⟩ : ∃ W2 K, w3.iter (patS j) 0 = W2 ∧ w3.heap.size = K ∧ W2.heap[K]? = some (.stringIter (patS j) 0) ∧ Hid (Below w.heap.size w W2) ∧ w.heap.size ≤ K := ⟨_, _, rfl, rfl, World.iter_heap _ _ _, HB3.out.trans (((Below.refl _ w3).alloc (Nat.le_refl _) _).mono HB3.out.size), HB3.out.size⟩
    rw [hW2, hK]
    clear hW2 hK hte hte2 HCT HTR HB3 HB1
    go_loopw [7, 8] (fun a v wr => ∃ (k b : Nat) (cs : List UInt8), CodeInv (patOf j) (d.data.toList.drop o) k b cs ∧ a = .int .i64 ((o + b : Nat) : Int) ∧ v = .string ⟨cs.toArray⟩ ∧ wr.heap[K]? = some (.stringIter (patS j) k) ∧ Below w.heap.size w wr) (fun _ _ wr => (patOf j).length - itPos wr K)
    case atStart => exact ⟨0, 0, [], inv_zero _ _, rfl, rfl, hit, HB2.out⟩
    case round =>
      clear hit HB2
      obtain ⟨k, b, cs, hinv, rfl, rfl, hit, hB⟩ := hrel
      have hmu : itPos wr K = k := by show itPos wr K = k; unfold itPos; rw [hit]
      have hkl := hinv.2.1
      have hcl := hinv.1
      have hpl := patOf_len hj
      obtain ⟨acc, hacc⟩ : ∃ acc : ByteArray, acc = ⟨cs.toArray⟩ := ⟨_, rfl⟩
      have hasz : acc.size ≤ 6 := by rw [hacc, ba_mk_size]; omega
      rw [← hacc]
      by_cases hlt : k < (patOf j).length
      · have hlp : k < (patS j).size := by rw [patS_size hj]; exact hlt
        have hpat := patS_at hj k hlp hlt
        have hbd := inv_bound hinv hlt
        obtain ⟨a, ha⟩ : ∃ a, o + b = a := ⟨_, rfl⟩
        rw [ha]
        have hho := HO.out
        have hdl : d.data.toList.length = 9 := hsI
        have hDl : (d.data.toList.drop o).length = 9 - o := by rw [List.length_drop, hdl]
        obtain ⟨W1, hW1⟩ : ∃ W1, wr.iterAt K (patS j) (k + 1) = W1 := ⟨_, rfl⟩
        have HI1 : Hid (W1.heap[K]? = some (.stringIter (patS j) (k + 1))) := by rw [← hW1]; exact Lib.iterAt_heap wr K (patS j) k (k + 1) hit
        have HB1 : Hid (Below w.heap.size w W1) := by rw [← hW1]; exact Lib.below_iterAt hB hKw _ _
        have HK1 : Hid (K < W1.heap.size) := (Array.getElem?_eq_some_iff.1 HI1.out).1
        cases hkb : (patOf j)[k]
        · rw [hkb] at hpat hbd
          simp only [Bool.false_eq_true, if_false] at hbd
          have hnx : ∀ ty, (Instr.next (.pointer (some ⟨K, 0, none⟩)) true ty).run Tryz.prog wr = .ok (.tuple #[.bool true, .int .i64 k, .int .i32 68]) W1 := fun ty => by
            rw [Lib.run_next_ascii_at (P := Tryz.prog) wr K (patS j) k ty hit hlp (by rw [hpat]; decide), hW1, hpat]; rfl
          have hbD : b < (d.data.toList.drop o).length := by rw [hDl]; omega
          have HV := Lib.hid (inv_digit hinv hlt hkb hbD)
          have hxe : acc ++ d.extract a (a + 1) = ⟨(cs ++ [(d.data.toList.drop o)[b]]).toArray⟩ := by
            rw [extract_one d a (by omega), hacc, ba_mk_append, List.getElem_drop]
            simp only [ha]
          have HX := Lib.hid hxe
          have HM : Hid (itPos W1 K = k + 1) := by show itPos W1 K = k + 1; unfold itPos; rw [HI1.out]
          have HAE := Lib.hid ha
          have hov : ¬ 9223372036854775807 < acc.size + (d.extract a (a + 1)).size := by rw [ByteArray.size_extract]; omega
          have ha9 : a + 1 ≤ d.size := by omega
          have ha9' : (a : Int) + 1 ≤ 9 := by omega
          clear hxe ha hacc hinv hpat hit hB hW1 hkb hho hdl hDl hbd hlp hcl hasz hj
          go_wp2_with fail
          go_roundw
          case rel => exact ⟨k + 1, b + 1, _, HV.out, by have := HAE.out; go_num, by rw [HX.out], HI1.out, HB1.out⟩
          case measure => rw [HM.out, hmu]; omega
        · rw [hkb] at hpat hbd
          simp only [if_true] at hbd
          have hnx : ∀ ty, (Instr.next (.pointer (some ⟨K, 0, none⟩)) true ty).run Tryz.prog wr = .ok (.tuple #[.bool true, .int .i64 k, .int .i32 76]) W1 := fun ty => by
            rw [Lib.run_next_ascii_at (P := Tryz.prog) wr K (patS j) k ty hit hlp (by rw [hpat]; decide), hW1, hpat]; rfl
          have hbD : b + 1 < (d.data.toList.drop o).length := by rw [hDl]; omega
          have hx1 := HDA.out _ (List.mem_of_mem_drop (List.getElem_mem (by omega : b < (d.data.toList.drop o).length)))
          have hx2 := HDA.out _ (List.mem_of_mem_drop (List.getElem_mem hbD))
          obtain ⟨m, hm⟩ : ∃ m, 10 * ((d.data.toList.drop o)[b].toNat - 48) + ((d.data.toList.drop o)[b + 1].toNat - 48) = m := ⟨_, rfl⟩
          have hm99 : m ≤ 99 := by omega
          have hex : (d.extract a (a + 2)).data.toList = [(d.data.toList.drop o)[b], (d.data.toList.drop o)[b + 1]] := by
            have ed : d.data.toList.drop a = (d.data.toList.drop o).drop b := by rw [List.drop_drop, ha]
            rw [extract_list, ed, List.drop_eq_getElem_cons (by omega : b < (d.data.toList.drop o).length), List.drop_eq_getElem_cons hbD, show a + 2 - a = 2 by omega]
            rfl
          have hdv : Lib.decFrom 0 (d.extract a (a + 2)).data.toList = some m := by rw [hex, decFrom_two hx1 hx2, hm]
          have hez : (d.extract a (a + 2)).size = 2 := by rw [ByteArray.size_extract]; omega
          have HAT : Hid (∀ W, Calls Tryz.prog 30 #[.string (d.extract a (a + 2))] W fun e w' => e = .returned (.tuple #[.int .i64 (m : Nat), .nilIface]) ∧ Below W.heap.size W w') := fun W =>
            atoi_any _ m W (by omega) (by omega) (digB_iff.2 (fun c hc => by
              rw [hex] at hc
              rcases List.mem_cons.1 hc with rfl | hc
              · exact hx1
              · rw [List.mem_singleton] at hc; subst hc; exact hx2)) hdv
          have ha9 : a + 2 ≤ d.size := by omega
          have ha9' : (a : Int) + 2 ≤ 9 := by omega
          have HAE := Lib.hid ha
          by_cases hr : 1 ≤ m ∧ m ≤ 26
          · have HV := Lib.hid (inv_letter hinv hlt hkb hbD hm hr.1 hr.2)
            have HX : Hid (acc ++ letB m = ⟨(cs ++ [UInt8.ofNat (64 + m)]).toArray⟩) := by
              show acc ++ letB m = _
              rw [hacc]; exact ba_mk_append _ _
            have hcv : ∀ W, Sem.run Tryz.prog (convert 21 9 (.int .i32 (65 + (m : Int) - 1))) W = .ok (.string (letB m)) W := fun W => by
              have := conv_letter (m - 1) (by omega) W
              rw [show (65 + ((m - 1 : Nat) : Int)) = 65 + (m : Int) - 1 by omega, show m - 1 + 1 = m by omega] at this
              exact this
            have hm1 : (1 : Int) ≤ (m : Int) := by omega
            have hm2 : (m : Int) ≤ 26 := by omega
            have e1 : decide ((m : Int) < 1) = false := decide_eq_false (by omega)
            have e2 : decide (26 < (m : Int)) = false := decide_eq_false (by omega)
            have hov : ¬ 9223372036854775807 < acc.size + (letB m).size := by show ¬ 9223372036854775807 < acc.size + 1; omega
            clear ha hacc hinv hpat hit hB hW1 hkb hho hdl hDl hbd hlp hcl hasz hj hm hex hdv hez hx1 hx2 hr hm99
            generalize letB m = lb at HX hcv hov
            go_wp2_with fail
            refine (HAT.out _).mono ?_
            rintro e w4 ⟨rfl, hb4⟩
            have HI4 : Hid (w4.heap[K]? = some (.stringIter (patS j) (k + 1))) := (hb4.block K HK1.out).trans HI1.out
            have HB4 : Hid (Below w.heap.size w w4) := HB1.out.trans (hb4.mono HB1.out.size)
            have HM : Hid (itPos w4 K = k + 1) := by show itPos w4 K = k + 1; unfold itPos; rw [HI4.out]
            clear hb4
            go_wp2_with fail
            go_roundw
            case rel => exact ⟨k + 1, b + 2, _, HV.out, by have := HAE.out; go_num, by rw [HX.out], HI4.out, HB4.out⟩
            case measure => rw [HM.out, hmu]; omega
          · have HN := Lib.hid (HL.out.trans (inv_bad hinv hlt hkb hbD hm (by omega)))
            clear ha hacc hinv hpat hit hB hW1 hkb hho hdl hDl hbd hlp hcl hasz hj hm hex hdv hez hx1 hx2
            by_cases hr1 : m < 1
            · have e1 : decide ((m : Int) < 1) = true := decide_eq_true (by omega)
              clear hr
              go_wp2_with fail
              refine (HAT.out _).mono ?_
              rintro e w4 ⟨rfl, hb4⟩
              have HB4 : Hid (Below w.heap.size w w4) := HB1.out.trans (hb4.mono HB1.out.size)
              clear hb4
              go_wp2_with fail
              go_ret2
              exact FN.out _ HN.out HB4.out
            · have e1 : decide ((m : Int) < 1) = false := decide_eq_false (by omega)
              have e2 : decide (26 < (m : Int)) = true := decide_eq_true (by omega)
              clear hr
              go_wp2_with fail
              refine (HAT.out _).mono ?_
              rintro e w4 ⟨rfl, hb4⟩
              have HB4 : Hid (Below w.heap.size w w4) := HB1.out.trans (hb4.mono HB1.out.size)
              clear hb4
              go_wp2_with fail
              go_ret2
              exact FN.out _ HN.out HB4.out
      · obtain rfl : k = (patOf j).length := by omega
        have hnx : ∀ ty, (Instr.next (.pointer (some ⟨K, 0, none⟩)) true ty).run Tryz.prog wr = .ok (.tuple #[.bool false]) wr := fun ty => Lib.run_next_end_at (P := Tryz.prog) wr K (patS j) (patOf j).length ty hit (by rw [patS_size hj]; exact Nat.lt_irrefl _)
        have HF := Lib.hid (FS.out wr cs (HL.out.trans (inv_end hinv)) hB)
        have HAC := Lib.hid hacc
        clear hacc hinv hit hB hkl hcl hpl hasz hj hlt hmu
        go_wp2_with fail
        go_ret2
        have := HF.out
        rw [← HAC.out] at this
        exact this
end Go.Proofs.YtgdlgfplheeblaaGreatDoor
