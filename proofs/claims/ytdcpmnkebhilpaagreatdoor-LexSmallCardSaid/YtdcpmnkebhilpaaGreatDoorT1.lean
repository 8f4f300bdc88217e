/-
  Contracts of the reference's Two, kept and Fold (letterbagref05).
-/
import Derived.Test.YtdcpmnkebhilpaaGreatDoorBp
import Derived.Test.YtdcpmnkebhilpaaGreatDoorNd
import Derived.Test.YtdcpmnkebhilpaaGreatDoorR1
import Derived.Test.YtdcpmnkebhilpaaGreatDoorAlw
import Derived.Deep.Light
namespace Go.Proofs.YtdcpmnkebhilpaaGreatDoor
open Go.RowKit
set_option linter.unusedVariables false
def refT2 (b : Int) : List UInt8 :=
  if b ≤ 131 ∨ b = 133 then [65] else if b = 132 ∨ b = 134 then [65, 69] else if b = 135 then [67] else if b ≤ 139 then [69] else if b ≤ 143 then [73] else if b = 144 then [68] else if b = 145 then [78]
  else if b ≤ 149 ∨ b = 152 then [79] else if b = 150 then [79, 69] else if b = 151 then [] else if b ≤ 155 then [85] else if b = 156 then [85, 69] else if b = 157 then [89] else [84, 72]
def refTwoP (a b : Int) : List UInt8 :=
  if a = 197 then (if b = 146 ∨ b = 147 then [79, 69] else if b = 160 ∨ b = 161 then [83] else if b = 189 ∨ b = 190 then [90] else [])
  else if ¬ a = 195 ∨ b < 128 ∨ 191 < b then [] else if b = 159 then [83, 83] else if b = 191 then [89] else if 160 ≤ b then refT2 (b - 32) else refT2 b
theorem two_195 : ∀ b : Fin 256, refTwoP 195 (b.val : Int) = lettersP 195 (b.val : Int) := by decide +kernel
theorem two_197 : ∀ b : Fin 256, refTwoP 197 (b.val : Int) = lettersP 197 (b.val : Int) := by decide +kernel
theorem two_eq (a : Int) (b : UInt8) : refTwoP a (b.toNat : Int) = lettersP a (b.toNat : Int) := by
  by_cases h1 : a = 197
  · subst h1; exact two_197 ⟨b.toNat, b.toNat_lt⟩
  by_cases h2 : a = 195
  · subst h2; exact two_195 ⟨b.toNat, b.toNat_lt⟩
  · unfold refTwoP lettersP
    rw [if_neg h1, if_pos (.inl h2), if_neg (by simpa using h1), if_pos (by simpa using h2)]
def twoL (s : ByteArray) (i : Nat) : List UInt8 := if i + 1 < s.size then lettersP (byteAt s i).toNat (byteAt s (i + 1)).toNat else []
set_option maxRecDepth 100000 in
set_option maxHeartbeats 8000000 in
theorem two_any (s : ByteArray) (i : Nat) (w : World) (hs : s.size ≤ 60000) (hi : i < s.size) :
    Calls Tryz.prog 85 #[.string s, .int .i64 i] w fun e w' => e = .returned (.string ⟨(twoL s i).toArray⟩) ∧ w = w' := by
  by_cases h1 : i + 1 < s.size
  · have ht : twoL s i = refTwoP (s[i].toNat : Int) (s[i + 1].toNat : Int) := by
      unfold twoL
      rw [if_pos h1, byteAt_eq hi, byteAt_eq h1, two_eq]
    rw [ht]
    have ha := s[i].toNat_lt
    have hb := s[i + 1].toNat_lt
    clear ht
    generalize hA : s[i] = ca at ha ⊢
    generalize hB : s[i + 1] = cb at hb ⊢
    go_enter Tryz.func85, Tryz.ntmps85
    go_wp2_with fail
    all_goals
      go_ret
      refine ⟨ret_str ?_, rfl⟩
      go_light
      clear hA hB
      (try simp only [beq_iff_eq] at *)
      (try simp only [beq_eq_false_iff_ne, ne_eq] at *)
      (try simp only [bne_iff_ne, ne_eq] at *)
      (try simp only [bne_eq_false_iff_eq] at *)
      unfold refTwoP
      (repeat (first | rw [if_pos (by omega)] | rw [if_neg (by omega)]))
      (try unfold refT2)
      (repeat (first | rw [if_pos (by omega)] | rw [if_neg (by omega)]))
  · have ht : twoL s i = [] := by unfold twoL; rw [if_neg h1]
    rw [ht]
    go_enter Tryz.func85, Tryz.ntmps85
    go_wp2_with fail
    go_ret
    exact ⟨rfl, rfl⟩
theorem kept_any (n : Int) (w : World) : Calls Tryz.prog 86 #[.int .u8 n] w fun e w' => e = .returned (.bool (keptB n)) ∧ w = w' := by
  go_enter Tryz.func86, Tryz.ntmps86
  go_wp2_with fail
  all_goals
    go_ret
    refine ⟨ret_bool ?_, rfl⟩
    go_light
    (try simp only [beq_iff_eq] at *)
    (try simp only [beq_eq_false_iff_ne, ne_eq] at *)
    unfold keptB
    rw [Bool.eq_iff_iff]
    simp
    try omega
theorem fa_kept {s : ByteArray} {k : Nat} (h : k < s.size) (h1 : keptB (s[k].toNat : Int) = true) : foldAt s k = ([s[k]], 1) := by
  unfold foldAt; rw [byteAt_eq h, if_pos h1]
theorem fa_low {s : ByteArray} {k : Nat} (h : k < s.size) (h1 : keptB (s[k].toNat : Int) = false) (h2 : lowB (s[k].toNat : Int) = true) : foldAt s k = ([s[k] - 32], 1) := by
  unfold foldAt; rw [byteAt_eq h, h1, if_neg (by simp), if_pos h2]
theorem fa_two {s : ByteArray} {k : Nat} (h : k < s.size) (h1 : keptB (s[k].toNat : Int) = false) (h2 : lowB (s[k].toNat : Int) = false) (h3 : twoL s k ≠ []) : foldAt s k = (twoL s k, 2) ∧ k + 1 < s.size := by
  unfold twoL at h3 ⊢
  by_cases h4 : k + 1 < s.size
  · rw [if_pos h4] at h3 ⊢
    refine ⟨?_, h4⟩
    unfold foldAt
    rw [byteAt_eq h] at h3 ⊢
    rw [h1, if_neg (by simp), h2, if_neg (by simp), if_pos ⟨h4, h3⟩]
  · rw [if_neg h4] at h3; exact absurd rfl h3
theorem fa_none {s : ByteArray} {k : Nat} (h : k < s.size) (h1 : keptB (s[k].toNat : Int) = false) (h2 : lowB (s[k].toNat : Int) = false) (h3 : twoL s k = []) : foldAt s k = ([], 1) := by
  unfold twoL at h3
  unfold foldAt
  rw [byteAt_eq h, h1, if_neg (by simp), h2, if_neg (by simp), if_neg]
  rintro ⟨h4, h5⟩
  rw [if_pos h4, byteAt_eq h] at h3
  exact h5 h3
theorem conv_succ {s : ByteArray} {n k : Nat} (h : k < s.size) {p : List UInt8} {a : Nat} (hf : foldAt s k = (p, a)) (hp : p ≠ []) : conv s (n + 1) k = p ++ conv s n (k + a) := by
  rw [conv, if_pos h, hf, if_neg hp]
theorem conv_blank {s : ByteArray} {n k : Nat} (h : k < s.size) (hf : foldAt s k = ([], 1)) : conv s (n + 1) k = [32] ++ conv s n (k + 1) := by
  rw [conv, if_pos h, hf, if_pos rfl]
theorem conv_end {s : ByteArray} {n k : Nat} (h : ¬ k < s.size) : conv s n k = [] := by
  cases n with
  | zero => rfl
  | succ n => rw [conv, if_neg h]
theorem app_more {t x : ByteArray} {p r R : List UInt8} (h : t.data.toList ++ (p ++ r) = R) (hx : x.data.toList = p) : Hid ((t ++ x).data.toList ++ r = R) := Lib.hid (by
  rw [ByteArray.data_append, Array.toList_append, hx, List.append_assoc]; exact h)
theorem app_size {t x : ByteArray} {p : List UInt8} {k a : Nat} (ht : t.size ≤ 2 * k) (hx : x.data.toList = p) (hp : p.length ≤ 2 * a) : (t ++ x).size ≤ 2 * (k + a) := by
  have : x.size = p.length := by rw [← hx]; simp
  rw [ByteArray.size_append]; omega
theorem word_size (t : ByteArray) : ∀ b ∈ wordsB t, b.size ≤ t.size := by
  intro b hb
  rw [wordsB_spans] at hb
  obtain ⟨p, _, rfl⟩ := List.mem_map.1 hb
  unfold cutOut
  rw [ByteArray.size_extract]
  omega
theorem joinB_take_succ (W : List ByteArray) (k : Nat) (h : k < W.length) (h0 : 0 < k) : joinB (wl (W.take (k + 1))) = joinB (wl (W.take k)) ++ 32 :: W[k].data.toList := by
  rw [List.take_succ_eq_append_getElem h, wl_snoc, joinB_snoc]
  apply List.ne_nil_of_length_pos
  unfold wl
  rw [List.length_map, List.length_take]
  omega
theorem joinB_take_one (W : List ByteArray) (h : 0 < W.length) : joinB (wl (W.take (0 + 1))) = W[0].data.toList := by
  rw [List.take_succ_eq_append_getElem h]; rfl
set_option maxRecDepth 100000 in
set_option maxHeartbeats 8000000 in
theorem refFold_any (s : ByteArray) (w : World) (hs : s.size ≤ 20000) :
    Calls Tryz.prog 61 #[.string s] w fun e w' => e = .returned (.string ⟨(foldL s).toArray⟩) ∧ Below w.heap.size w w' := by
  go_enter Tryz.func61, Tryz.ntmps61
  go_wp2_with fail
  go_loopw [3, 4] (fun v i wr => ∃ (k n : Nat) (t : ByteArray), i = .int .i64 k ∧ v = .string t ∧ k ≤ s.size ∧ s.size ≤ k + n ∧ t.size ≤ 2 * k ∧ Hid (t.data.toList ++ conv s n k = conv s s.size 0) ∧ Below w.heap.size w wr) (fun _ i _ => s.size - (intOf i).toNat)
  case atStart => exact ⟨0, s.size, ⟨#[]⟩, rfl, rfl, Nat.zero_le _, by omega, by decide, rfl, Below.refl _ _⟩
  case round =>
    obtain ⟨k, n, t, rfl, rfl, hk, hn, ht, HT, hB⟩ := hrel
    by_cases hlt : k < s.size
    · obtain ⟨n, rfl⟩ : ∃ j, n = j + 1 := ⟨n - 1, by omega⟩
      obtain ⟨tw, htw⟩ : ∃ tw : ByteArray, tw.data.toList = twoL s k := ⟨⟨(twoL s k).toArray⟩, rfl⟩
      have hcall : ∀ W, Calls Tryz.prog 85 #[.string s, .int .i64 k] W fun e w' => e = .returned (.string tw) ∧ W = w' := fun W => by
        refine (two_any s k W (by omega) hlt).mono ?_
        rintro e w' ⟨rfl, rfl⟩
        exact ⟨by rw [show (⟨(twoL s k).toArray⟩ : ByteArray) = tw from WideShapes.bytes_inj (by rw [htw])], rfl⟩
      have H2 := Lib.hid hcall
      have hx := extract_one hlt
      have hxs : (s.extract k (k + 1)).size ≤ 1 := by rw [ByteArray.size_extract]; omega
      have htl : (twoL s k).length ≤ 2 := by
        unfold twoL
        split
        · exact letters_two _ _
        · simp
      have htws : tw.size ≤ 2 := by
        have : tw.data.toList.length = tw.size := by simp
        rw [htw] at this; omega
      have HX := Lib.hid hx
      have HW := Lib.hid htw
      have hc := s[k].toNat_lt
      clear hcall hx htw
      cases hkp : keptB (s[k].toNat : Int)
      · have HKP := Lib.hid hkp
        have hk2 : ∀ W, Calls Tryz.prog 86 #[.int .u8 (s[k].toNat : Int)] W fun e w' => e = .returned (.bool false) ∧ W = w' := fun W => by
          have := kept_any (s[k].toNat : Int) W
          rw [hkp] at this
          exact this
        have HK2 := Lib.hid hk2
        clear hk2 hkp
        cases hlow : lowB (s[k].toNat : Int)
        · have hlow2 := hlow
          unfold lowB at hlow2
          simp only [decide_eq_false_iff_not] at hlow2
          by_cases h2 : twoL s k = []
          · have hcv := conv_blank (n := n) hlt (fa_none hlt HKP.out hlow h2)
            have hte : tw.toList.isEmpty = true ∧ tw.toList = [] := eq_of_not_pos (by
              have e1 : tw.data.toList.length = tw.size := by simp
              rw [HW.out, h2] at e1; simp at e1; omega)
            have hnext := app_more (t := t) (x := ⟨#[32]⟩) (R := conv s s.size 0) (by rw [← hcv]; exact HT.out) rfl
            have hsz := app_size (t := t) (x := ⟨#[32]⟩) (p := [32]) (k := k) (a := 1) ht rfl (by decide)
            obtain ⟨e1, e2⟩ := hte
            by_cases h97 : 97 ≤ (s[k].toNat : Int)
            all_goals
              clear HT HW HX hcv h2 HKP hlow
              go_wp2_with (first
                | (go_at_call 85; refine (H2.out _).mono ?_; rintro e w' ⟨rfl, rfl⟩)
                | (go_at_call 86; refine (HK2.out _).mono ?_; rintro e w' ⟨rfl, rfl⟩))
              go_roundw
              case rel => exact ⟨k + 1, n, _, by go_num, rfl, by omega, by omega, hsz, hnext, hB⟩
              case measure => simp [intOf]; omega
          · obtain ⟨hfa, hk1⟩ := fa_two hlt HKP.out hlow h2
            have hcv := conv_succ (n := n) hlt hfa h2
            have hte : tw.toList.isEmpty = false ∧ ¬ tw.toList = [] := ne_of_pos (by
              have e1 : tw.data.toList.length = tw.size := by simp
              rw [HW.out] at e1
              have := List.length_pos_iff.2 h2
              omega)
            have hnext := app_more (t := t) (x := tw) (R := conv s s.size 0) (by rw [← hcv]; exact HT.out) HW.out
            have hsz := app_size (t := t) (x := tw) (k := k) (a := 2) ht HW.out (by omega)
            obtain ⟨e1, e2⟩ := hte
            by_cases h97 : 97 ≤ (s[k].toNat : Int)
            all_goals
              clear HT HW HX hcv h2 HKP hlow hfa
              go_wp2_with (first
                | (go_at_call 85; refine (H2.out _).mono ?_; rintro e w' ⟨rfl, rfl⟩)
                | (go_at_call 86; refine (HK2.out _).mono ?_; rintro e w' ⟨rfl, rfl⟩))
              go_roundw
              case rel => exact ⟨k + 2, n, _, by go_num, rfl, by omega, by omega, hsz, hnext, hB⟩
              case measure => simp [intOf]; omega
        · have hcv := conv_succ (n := n) hlt (fa_low hlt HKP.out hlow) (by simp)
          unfold lowB at hlow
          simp only [decide_eq_true_eq] at hlow
          obtain ⟨l1, l2⟩ := hlow
          have hnext := app_more (t := t) (x := ⟨#[s[k] - 32]⟩) (R := conv s s.size 0) (by rw [← hcv]; exact HT.out) rfl
          have hsz := app_size (t := t) (x := ⟨#[s[k] - 32]⟩) (p := [s[k] - 32]) (k := k) (a := 1) ht rfl (by simp)
          have hk := conv1 ((s[k].toNat : Int) - 32) (s[k] - 32) (by
            have : (s[k] - 32).toNat = s[k].toNat - 32 := by
              rw [UInt8.toNat_sub_of_le]
              · rfl
              · rw [UInt8.le_iff_toNat_le]; show 32 ≤ s[k].toNat; omega
            omega)
          clear HT HW HX hcv HKP
          go_wp2_with (first
            | (go_at_call 85; refine (H2.out _).mono ?_; rintro e w' ⟨rfl, rfl⟩)
            | (go_at_call 86; refine (HK2.out _).mono ?_; rintro e w' ⟨rfl, rfl⟩))
          go_roundw
          case rel => exact ⟨k + 1, n, _, by go_num, rfl, by omega, by omega, hsz, hnext, hB.alloc hB.size _⟩
          case measure => simp [intOf]; omega
      · have hk2 : ∀ W, Calls Tryz.prog 86 #[.int .u8 (s[k].toNat : Int)] W fun e w' => e = .returned (.bool true) ∧ W = w' := fun W => by
          have := kept_any (s[k].toNat : Int) W
          rw [hkp] at this
          exact this
        have HK2 := Lib.hid hk2
        have hcv := conv_succ (n := n) hlt (fa_kept hlt hkp) (by simp)
        have hnext := app_more (t := t) (x := s.extract k (k + 1)) (R := conv s s.size 0) (by rw [← hcv]; exact HT.out) HX.out
        have hsz := app_size (t := t) (x := s.extract k (k + 1)) (k := k) (a := 1) ht HX.out (by simp)
        clear hk2 hkp HT HW HX hcv
        go_wp2_with (first
          | (go_at_call 85; refine (H2.out _).mono ?_; rintro e w' ⟨rfl, rfl⟩)
          | (go_at_call 86; refine (HK2.out _).mono ?_; rintro e w' ⟨rfl, rfl⟩))
        go_roundw
        case rel => exact ⟨k + 1, n, _, by go_num, rfl, by omega, by omega, hsz, hnext, hB⟩
        case measure => simp [intOf]; omega
    · have hcv := HT.out
      rw [conv_end hlt, List.append_nil] at hcv
      have hfin : foldL s = joinB (wl (wordsB t)) := by rw [join_words, hcv, foldL_conv]
      have hts : t.size ≤ 40000 := by omega
      have hwz := word_size t
      have hwn : (wordsB t).length ≤ 40001 := by
        have := (wordsTo_le t (t.size + 1)).2
        unfold wordsB; omega
      have hrw := fun W => refWords_any t W (by omega)
      generalize wordsB t = V at hfin hwz hwn hrw
      have HF := Lib.hid hfin
      have HZ := Lib.hid hwz
      have HRW := Lib.hid hrw
      clear hcv hfin hwz hrw HT
      go_wp2_with (go_at_call 87; refine (HRW.out _).mono ?_; rintro e w2 ⟨v, rfl, hb2, hown⟩; obtain ⟨va, vc, rfl⟩ := slice_of_row hown; replace hB := hB.trans (hb2.mono hB.size); clear hb2)
      have HRD : Hid (0 < V.length → ∃ g off, va = some ⟨g, off, none⟩ ∧ ∀ k (hk : k < V.length), w2.cell? ⟨g, off + k, none⟩ = some (.string V[k])) := Lib.hid (row_reads (n := 0) hown)
      go_loop [7, 8] (fun o i => ∃ (k : Nat) (q : ByteArray), k ≤ V.length ∧ i = .int .i64 k ∧ o = .string q ∧ q.size ≤ k * 40001 ∧ Hid (q.data.toList = joinB (wl (V.take k)))) (fun _ i => V.length - (intOf i).toNat)
      case atStart => exact ⟨0, ⟨#[]⟩, Nat.zero_le _, rfl, rfl, by decide, rfl⟩
      case round =>
        obtain ⟨k, q, hk, rfl, rfl, hq, HQ⟩ := hrel
        by_cases hlt : k < V.length
        · obtain ⟨g, off, rfl, hc⟩ := HRD.out (by omega)
          have c1 := hc k hlt
          have hz := HZ.out _ (List.getElem_mem hlt)
          clear hc HRD
          by_cases hk0 : 0 < k
          · have hj := joinB_take_succ V k hlt hk0
            have HJ := Lib.hid hj
            clear hj
            generalize V[k] = x at c1 hz HJ
            go_wp2_with fail
            go_round
            case rel => exact ⟨k + 1, _, by omega, by go_num, rfl, by simp only [ByteArray.size_append]; show q.size + 1 + x.size ≤ _; omega, Lib.hid (by rw [HJ.out, ← HQ.out]; simp)⟩
            case measure => simp [intOf]; omega
          · obtain rfl : k = 0 := by omega
            rw [Nat.add_zero] at c1
            have hj := joinB_take_one V hlt
            have HJ := Lib.hid hj
            clear hj
            generalize V[0] = x at c1 hz HJ
            have hq0 : q = ⟨#[]⟩ := WideShapes.bytes_inj (by rw [HQ.out]; rfl)
            subst hq0
            go_wp2_with fail
            go_round
            case rel => exact ⟨1, _, by omega, rfl, rfl, by simp only [ByteArray.size_append]; show 0 + x.size ≤ _; omega, Lib.hid (by rw [HJ.out]; simp)⟩
            case measure => simp [intOf]; omega
        · obtain rfl : k = V.length := by omega
          go_wp2_with fail
          go_ret
          refine ⟨congrArg Ending.returned (str_eq ?_), hB⟩
          rw [HQ.out, List.take_length]
          exact HF.out.symm
end Go.Proofs.YtdcpmnkebhilpaaGreatDoor
