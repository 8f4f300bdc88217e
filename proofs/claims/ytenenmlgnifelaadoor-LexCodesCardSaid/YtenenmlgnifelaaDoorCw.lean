/-
  The walk of letterbaglaw08.LexCodes.
-/
import Derived.Test.YtenenmlgnifelaaDoorCp
import Derived.Test.YtenenmlgnifelaaDoorNd
import Derived.Test.YtenenmlgnifelaaDoorAw
namespace Go.Proofs.YtenenmlgnifelaaDoor
open Go.RowKit
set_option linter.unusedVariables false
theorem code_evB {c : Int} {s t : ByteArray} {b : Bool} (h : codeR c s = (t.data.toList, b)) (hs : s.size ≤ maxLen) (w : World) : Calls Tryd.prog 30 #[.int .u8 c, .string s] w fun e w' => e = .returned (.tuple #[.string t, .bool b]) ∧ Below w.heap.size w w' := by
  refine (code_ev h hs w).mono ?_
  rintro e w' ⟨rfl, hb⟩
  exact ⟨by rw [show (⟨t.data.toList.toArray⟩ : ByteArray) = t from WideShapes.bytes_inj (by simp)], hb⟩
theorem ba_of (l : List UInt8) : ∃ t : ByteArray, t.data.toList = l ∧ t.size = l.length := ⟨⟨l.toArray⟩, rfl, by simp [ByteArray.size]⟩
/-- A text as bytes, one byte changed, and a text again. -/
theorem other_facts (W : World) (t u : ByteArray) (i : Nat) (hi : i < t.size) (c : UInt8) (hu : u.data.toList = t.data.toList.set i c) : ∃ (cap : Nat) (C : Array Value), t.size ≤ cap ∧
    Sem.run Tryd.prog (convert 9 37 (.string t)) W = .ok (.slice (some ⟨W.heap.size, 0, none⟩) t.size cap) (W.drew.alloc (.cells C 5 (C.size, C.size + 1))) ∧
    (∃ c0, (W.alloc (.cells C 5 (C.size, C.size + 1))).cell? ⟨W.heap.size, i, none⟩ = some c0) ∧ (W.alloc (.cells C 5 (C.size, C.size + 1))).frozen? ⟨W.heap.size, i, none⟩ = false ∧
    Sem.run Tryd.prog (convert 37 9 (.slice (some ⟨W.heap.size, 0, none⟩) t.size cap)) ((W.alloc (.cells C 5 (C.size, C.size + 1))).setCell ⟨W.heap.size, i, none⟩ (.int .u8 (c.toNat : Int))).drew = .ok (.string u) ((W.alloc (.cells C 5 (C.size, C.size + 1))).setCell ⟨W.heap.size, i, none⟩ (.int .u8 (c.toNat : Int))).drew := by
  have hcap := grownCap_ge W t.size 0 5
  have hconv := run_bytes_of_string (P := Tryd.prog) W 9 37 5 t Tryd.underlying9 Tryd.underlying37 Tryd.underlying5
  generalize grownCap W t.size 0 5 = cap at hcap hconv
  have hC : ∀ j (h : j < t.size), (bytesRow t cap)[j]? = some (.int .u8 (t[j].toNat : Int)) := fun j h => by
    unfold bytesRow
    rw [Array.getElem?_append_left (by simpa using h), Array.getElem?_map, Array.getElem?_eq_getElem h]
    rfl
  have hsz : t.size ≤ (bytesRow t cap).size := by
    unfold bytesRow
    simp
  generalize bytesRow t cap = C at hconv hC hsz
  have hblk : (W.alloc (.cells C 5 (C.size, C.size + 1))).heap[W.heap.size]? = some (.cells C 5 (C.size, C.size + 1)) := World.alloc_heap_new W _
  have hcell : ∀ j (h : j < t.size), (W.alloc (.cells C 5 (C.size, C.size + 1))).cell? ⟨W.heap.size, j, none⟩ = some (.int .u8 (t[j].toNat : Int)) := fun j h => by
    simp only [World.cell?, hblk]
    exact hC j h
  refine ⟨cap, C, hcap, hconv, ⟨_, hcell i hi⟩, ?_, ?_⟩
  · simp only [World.frozen?, hblk]
    simp
    omega
  · have hl : u.data.toList.length = t.size := by rw [hu]; simp
    have hb := run_convert_bytes_back (P := Tryd.prog) ((W.alloc (.cells C 5 (C.size, C.size + 1))).setCell ⟨W.heap.size, i, none⟩ (.int .u8 (c.toNat : Int))).drew 37 9 5 ⟨W.heap.size, 0, none⟩ cap u.data.toList Tryd.underlying37 Tryd.underlying5 Tryd.underlying9 (fun j hj => by
      have hj' : j < t.size := by omega
      have ea : (⟨W.heap.size, 0, none⟩ : Addr).add j = ⟨W.heap.size, j, none⟩ := by unfold Addr.add; split <;> simp_all
      rw [ea]
      show ((W.alloc (.cells C 5 (C.size, C.size + 1))).setCell ⟨W.heap.size, i, none⟩ (.int .u8 (c.toNat : Int))).cell? ⟨W.heap.size, j, none⟩ = _
      by_cases hij : i = j
      · subst hij
        have : u.data.toList[i] = c := by simp [hu]
        rw [this]
        exact World.cell?_setCell_same' _ _ _ (by rw [hcell i hi]; rfl)
      · rw [World.cell?_setCell_other _ _ _ _ (fun e => hij (by injection e)), hcell j hj']
        have : u.data.toList[j] = t[j] := by simp only [hu]; rw [List.getElem_set_ne hij]; rfl
        rw [this])
    rw [hl] at hb
    exact hb
/-- The sorts of two bytes. -/
theorem sort_cases {k : Bool} {d c : UInt8} (h : kindB k d.toNat = true) :
    ((48 ≤ (d.toNat : Int) ∧ (d.toNat : Int) ≤ 57) ∧ (48 ≤ (c.toNat : Int) ∧ (c.toNat : Int) ≤ 57) ∧ sameSort d c = true) ∨
    ((48 ≤ (d.toNat : Int) ∧ (d.toNat : Int) ≤ 57) ∧ (c.toNat : Int) < 48 ∧ sameSort d c = false) ∨
    ((48 ≤ (d.toNat : Int) ∧ (d.toNat : Int) ≤ 57) ∧ (57 < (c.toNat : Int)) ∧ sameSort d c = false) ∨
    (57 < (d.toNat : Int) ∧ (65 ≤ (c.toNat : Int) ∧ (c.toNat : Int) ≤ 90) ∧ sameSort d c = true) ∨
    (57 < (d.toNat : Int) ∧ (c.toNat : Int) < 65 ∧ sameSort d c = false) ∨
    (57 < (d.toNat : Int) ∧ 90 < (c.toNat : Int) ∧ sameSort d c = false) := by
  unfold sameSort
  cases k
  · have hd : isDigit (d.toNat : Int) = true := h
    rw [hd]
    have hd' := hd
    unfold isDigit at hd'
    simp only [decide_eq_true_eq] at hd'
    by_cases h1 : (c.toNat : Int) < 48
    · right; left; refine ⟨hd', h1, ?_⟩; unfold isDigit; simp; omega
    · by_cases h2 : 57 < (c.toNat : Int)
      · right; right; left; refine ⟨hd', h2, ?_⟩; unfold isDigit; simp; omega
      · left; refine ⟨hd', by omega, ?_⟩; unfold isDigit; simp; omega
  · have hl : isLetter (d.toNat : Int) = true := h
    have hd := digit_not_letter' hl
    rw [hd]
    unfold isLetter at hl
    simp only [decide_eq_true_eq] at hl
    right; right; right
    by_cases h1 : (c.toNat : Int) < 65
    · right; left; refine ⟨by omega, h1, ?_⟩; unfold isLetter; simp; omega
    · by_cases h2 : 90 < (c.toNat : Int)
      · right; right; refine ⟨by omega, h2, ?_⟩; unfold isLetter; simp; omega
      · left; refine ⟨by omega, by omega, ?_⟩; unfold isLetter; simp; omega
theorem rep_any (s t : ByteArray) (m : Int) (W : World) (hs : s.size ≤ 1000) (hm : W.cell? ⟨0, 0, none⟩ = some (.int .i64 m)) (ht : t.data.toList = Lib.replaceAll s.data.toList [32] []) :
    Calls Tryd.prog 31 #[.string s, .string ⟨#[32]⟩, .string ⟨#[]⟩] W fun e w' => e = .returned (.string t) ∧ Below W.heap.size W w' := by
  refine (Tryd.strings_ReplaceAll s ⟨#[32]⟩ ⟨#[]⟩ m W (by omega) hm (by decide) ?_).mono ?_
  · show s.size + Lib.countB s ⟨#[32]⟩ * 0 ≤ _
    omega
  · rintro e w' ⟨rfl, hb⟩
    exact ⟨by rw [show (⟨(Lib.replaceAll s.data.toList (⟨#[32]⟩ : ByteArray).data.toList (⟨#[]⟩ : ByteArray).data.toList).toArray⟩ : ByteArray) = t from WideShapes.bytes_inj (by rw [ht])], hb⟩
theorem ext01 (t : ByteArray) : (t ++ t.extract 0 1).data.toList = t.data.toList ++ t.data.toList.take 1 := by
  simp [ByteArray.data_extract, Array.toList_extract, List.extract_eq_take_drop]
theorem codes_next {w wr : World} {s : ByteArray} {m : Int} (h0 : 0 < w.heap.size) (hm : w.cell? ⟨0, 0, none⟩ = some (.int .i64 m)) (hB : Below w.heap.size w wr) : wr.cell? ⟨0, 0, none⟩ = some (.int .i64 m) := (hB.cell (p := ⟨0, 0, none⟩) h0).trans hm
set_option maxRecDepth 100000 in
set_option maxHeartbeats 8000000 in
theorem lexCodes_walk (s : ByteArray) (x : Int) (c : UInt8) (m : Int) (w : World) (hs : s.size ≤ maxLen) (hx : -9223372036854775808 ≤ x) (hx2 : x ≤ 9223372036854775807) (h0 : 0 < w.heap.size) (hm : w.cell? ⟨0, 0, none⟩ = some (.int .i64 m)) :
    Calls Tryd.prog 9 #[.string s, .int .i64 x, .int .u8 c.toNat] w fun e w' => e = .returned (.bool true) ∧ Below w.heap.size w w' := by
  have HM := Lib.hid hm
  clear hm
  have hsm := hs
  unfold maxLen at hs
  by_cases hlong : 1000 < s.size
  · go_enter Tryd.func9, Tryd.ntmps9
    go_wp2_with (go_at_call 11; refine (awake_any m _ h0 HM.out).mono ?_; rintro e w1 ⟨rfl, hB⟩)
    go_ret
    exact ⟨rfl, hB⟩
  · have hc255 : (c.toNat : Int) ≤ 255 := by have := c.toNat_lt; omega
    go_enter Tryd.func9, Tryd.ntmps9
    go_wp2_with (go_at_call 11; refine (awake_any m _ h0 HM.out).mono ?_; rintro e w1 ⟨rfl, hB⟩)
    go_loopw [7, 8] (fun n i wr => ∃ k : Nat, k ≤ 256 ∧ i = .int .i64 k ∧ n = .int .i64 (cntTo s k) ∧ Below w.heap.size w wr) (fun _ i _ => 256 - (intOf i).toNat)
    case atStart => exact ⟨0, Nat.zero_le _, rfl, rfl, hB⟩
    case round =>
      clear hB
      obtain ⟨k, hk, rfl, rfl, hB⟩ := hrel
      have hcl := (cnt_le s k).1
      by_cases h256 : k < 256
      · have hst : cntTo s (k + 1) = cntTo s k + if (codeR (k : Int) s).2 then 1 else 0 := rfl
        generalize cntTo s k = cn at hcl hst ⊢
        have hwrap : IntKind.u8.wrap (k : Int) = (k : Int) := by simp [IntKind.wrap, IntKind.bits, IntKind.signed]; omega
        rcases hR : codeR (k : Int) s with ⟨l, is⟩
        cases is
        · obtain rfl := code_no hR
          rw [hR] at hst
          have HS := Lib.hid hst
          have HR := Lib.hid hR
          clear hR hst
          go_wp2_with (go_at_call 30; refine (code_ev HR.out hsm _).mono ?_; rintro e w2 ⟨rfl, hb2⟩; replace hB := hB.trans (hb2.mono hB.size); clear hb2)
          go_roundw
          case rel => exact ⟨k + 1, by omega, by go_num, int_eq (by rw [HS.out]; simp), hB⟩
          case measure => simp [intOf]; omega
        · rw [hR] at hst
          have hci := code_is hR
          obtain ⟨t, rfl, htl⟩ := ba_of l
          obtain ⟨⟨hl4, hl6⟩, hself, hmore, hother, hblank⟩ := hci
          have ht4 : 4 ≤ t.size := by omega
          have ht6 : t.size ≤ 6 := by omega
          have htm : t.size ≤ maxLen := by unfold maxLen; omega
          have hselfB : codeR (k : Int) t = (t.data.toList, true) := by rw [show t = ⟨t.data.toList.toArray⟩ from WideShapes.bytes_inj (by simp)]; simpa using hself
          have hmoreB : codeR (k : Int) (t ++ t.extract 0 1) = ([], false) := by rw [show t ++ t.extract 0 1 = ⟨(t.data.toList ++ t.data.toList.take 1).toArray⟩ from WideShapes.bytes_inj (by rw [ext01])]; exact hmore
          have hx1 : (t.extract 0 1).size ≤ 1 := by rw [ByteArray.size_extract]; omega
          have hmoreS : (t ++ t.extract 0 1).size ≤ maxLen := by rw [ByteArray.size_append]; unfold maxLen; omega
          obtain ⟨i, hi⟩ : ∃ i : Nat, x % (t.size : Int) = i := ⟨(x % (t.size : Int)).toNat, by have := Int.emod_nonneg x (show (t.size : Int) ≠ 0 by omega); omega⟩
          have hit : i < t.size := by have := Int.emod_lt_of_pos x (show 0 < (t.size : Int) by omega); omega
          have hpk := fun W => pick_any x (t.size : Int) W (by omega) (by omega) hx hx2
          rw [hi] at hpk
          obtain ⟨u, hu, hul⟩ := ba_of (t.data.toList.set i c)
          have hus : u.size ≤ maxLen := by rw [hul]; unfold maxLen; simp; omega
          have hoth := hother i c (by simpa using hit)
          have hgi : t.data.toList.getD i 0 = t[i] := by rw [List.getD_eq_getElem?_getD, List.getElem?_eq_getElem (by simpa using hit)]; rfl
          rw [hgi, show (⟨(t.data.toList.set i c).toArray⟩ : ByteArray) = u from WideShapes.bytes_inj (by rw [hu])] at hoth
          obtain ⟨kd, hkd⟩ : ∃ kd, kindB kd t[i].toNat = true := by
            rcases code_cases (k : Int) s with e | ⟨j, ek, hj, e, hmm⟩
            · rw [hR] at e; exact absurd (Prod.mk.inj e).2 (by decide)
            · rw [hR] at e
              have el := (Prod.mk.inj e).1
              rw [← el] at hmm
              have := matches_at i hmm (by simpa using hit)
              rw [hgi] at this
              exact ⟨_, this⟩
          have hsort := sort_cases (c := c) hkd
          have hHR : codeR (k : Int) s = (t.data.toList, true) := hR
          rcases hRu : codeR (k : Int) u with ⟨lu, bu⟩
          rw [hRu] at hoth
          simp only at hoth
          subst hoth
          have HS := Lib.hid hst
          have HR := Lib.hid hHR
          have H1 := Lib.hid hselfB
          have H2 := Lib.hid hmoreB
          have H3 := Lib.hid hRu
          have HP := Lib.hid hpk
          have HU := Lib.hid hu
          have HB := Lib.hid hblank
          clear hst hHR hR hselfB hmoreB hRu hpk hu hblank hself hmore hother hgi hkd kd hi hul htl hl4 hl6
          go_wp2_with fail
          refine (code_evB HR.out hsm _).mono ?_
          rintro e w2 ⟨rfl, hb2⟩
          replace hB := hB.trans (hb2.mono hB.size)
          clear hb2
          go_wp2_with fail
          refine (code_evB H1.out htm _).mono ?_
          rintro e w3 ⟨rfl, hb3⟩
          replace hB := hB.trans (hb3.mono hB.size)
          clear hb3
          go_wp2_with fail
          refine (code_ev H2.out hmoreS _).mono ?_
          rintro e w4 ⟨rfl, hb4⟩
          replace hB := hB.trans (hb4.mono hB.size)
          clear hb4
          obtain ⟨cap, C, hcap, hconv, ⟨c0, hc0⟩, hfz, hback⟩ := other_facts w4 t u i hit c HU.out
          go_wp2_with (go_at_call 20; refine (HP.out _).mono ?_; rintro e w5 ⟨rfl, rfl⟩)
          generalize sameSort t[i] c = sb at hsort H3 ⊢
          refine (code_ev H3.out hus _).mono ?_
          rintro e w6 ⟨rfl, hb6⟩
          have hB2 := ((hB.alloc hB.size (.cells C 5 (C.size, C.size + 1))).setCell (p := ⟨w4.heap.size, i, none⟩) hB.size (.int .u8 (c.toNat : Int))).drew
          replace hB := hB2.trans (hb6.mono hB2.size)
          clear hb6 hB2 hconv hback hfz hc0
          have hrep := rep_any s t m w6 (by omega) (codes_next (s := s) h0 HM.out hB) HB.out
          have HRP := Lib.hid hrep
          clear hrep
          rcases hsort with ⟨⟨d1, d2⟩, ⟨e1, e2⟩, rfl⟩ | ⟨⟨d1, d2⟩, e1, rfl⟩ | ⟨⟨d1, d2⟩, e1, rfl⟩ | ⟨d1, ⟨e1, e2⟩, rfl⟩ | ⟨d1, e1, rfl⟩ | ⟨d1, e1, rfl⟩
          all_goals
            go_wp2_with (go_at_call 31; refine HRP.out.mono ?_; rintro e w7 ⟨rfl, hb7⟩; replace hB := hB.trans (hb7.mono hB.size); clear hb7)
            go_roundw
            case rel => exact ⟨k + 1, by omega, by go_num, int_eq (by rw [HS.out]; simp), hB⟩
            case measure => simp [intOf]; omega
      · obtain rfl : k = 256 := by omega
        generalize cntTo s 256 = cn at hcl ⊢
        go_wp2_with fail
        go_ret
        have hd : decide ((cn : Int) ≤ 1) = true := by simp; omega
        exact ⟨ret_bool (by first | exact hd | (simp; omega)), hB⟩
end Go.Proofs.YtenenmlgnifelaaDoor
