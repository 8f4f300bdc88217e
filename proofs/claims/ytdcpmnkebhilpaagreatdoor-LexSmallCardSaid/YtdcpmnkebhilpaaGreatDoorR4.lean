/-
  Contract of the reference's Classes (letterbagref08).
-/
import Derived.Test.YtdcpmnkebhilpaaGreatDoorR3
import Derived.Deep.DeepCutAuto
namespace Go.Proofs.YtdcpmnkebhilpaaGreatDoor
open Go.RowKit
set_option linter.unusedVariables false
theorem sumTo_congr {f g : Nat → Bool} : ∀ n, (∀ k, k < n → f k = g k) → sumTo f n = sumTo g n
  | 0, _ => rfl
  | n + 1, h => by rw [sumTo, sumTo, sumTo_congr n (fun k hk => h k (by omega)), h n (by omega)]
theorem classesTo_sum (s : ByteArray) : ∀ n, classesTo s n = sumTo (hasB s) n
  | 0 => rfl
  | n + 1 => by rw [classesTo, sumTo, classesTo_sum s n]
theorem ref_classes (s : ByteArray) : sumTo (refHas s.data.toList) 14 = classesB s := by
  unfold classesB
  rw [classesTo_sum]
  exact sumTo_congr 14 (fun k hk => ref_has s k hk)
def SumIs (f : Nat → Bool) (k : Nat) (o : Value) : Prop := ∃ x : Nat, o = .int .u16 x ∧ sumTo f k = x
theorem SumIs.yes {f : Nat → Bool} {k x : Nat} {n : Int} (h : sumTo f k = x) (hf : f k = true) (hn : n = (x : Int) + ((2 ^ k : Nat) : Int)) : SumIs f (k + 1) (.int .u16 n) :=
  ⟨x + 2 ^ k, by rw [hn]; push_cast; rfl, by rw [sumTo, h, if_pos hf]⟩
theorem SumIs.no {f : Nat → Bool} {k x : Nat} (h : sumTo f k = x) (hf : f k = false) : SumIs f (k + 1) (.int .u16 x) :=
  ⟨x, rfl, by rw [sumTo, h, hf]; simp⟩
theorem shape_ev (s : ByteArray) (hs : s.size ≤ 60000) : ∃ t : ByteArray, t.data.toList = s.data.toList.map shpC ∧ ∀ W, Calls Tryz.prog 40 #[.string s] W fun e w' => e = .returned (.string t) ∧ W = w' :=
  ⟨⟨(s.data.toList.map shpC).toArray⟩, rfl, fun W => shape_any s W hs⟩
theorem refNumber_ev (s : ByteArray) (hs : s.size ≤ 60000) : ∃ t : ByteArray, t.data.toList = (refNumR s.data.toList).2.1 ∧ ∀ W, Calls Tryz.prog 18 #[.string s] W fun e w' => e = .returned (.tuple #[.int .i64 (refNumR s.data.toList).1, .string t, .bool (refNumR s.data.toList).2.2]) ∧ Below W.heap.size W w' :=
  ⟨⟨(refNumR s.data.toList).2.1.toArray⟩, rfl, fun W => (refNumber_any s W hs).mono (by
    rintro e w' ⟨t, ht, rfl, hb⟩
    exact ⟨by rw [show (⟨(refNumR s.data.toList).2.1.toArray⟩ : ByteArray) = t from WideShapes.bytes_inj (by rw [ht])], hb⟩)⟩
set_option maxRecDepth 100000 in
set_option maxHeartbeats 16000000 in
theorem refClasses_any (s : ByteArray) (w : World) (hs : s.size ≤ 60000) : Calls Tryz.prog 22 #[.string s] w fun e w' => e = .returned (.int .u16 (classesB s)) ∧ Below w.heap.size w w' := by
  rw [← ref_classes]
  obtain ⟨sh, hsh, hshape⟩ := shape_ev s hs
  obtain ⟨tl, htl, hnum⟩ := refNumber_ev s hs
  have hcnt := fun W => counts_any s W hs
  have hknd := fun W => refKinds_any s W
  have hk64 := kindsB_lt s.data.toList
  have hb3 := three_le s.data.toList
  have hlen : s.data.toList.length = s.size := by simp
  rw [hlen] at hb3
  have f0 : refHas s.data.toList 0 = ((refNumR s.data.toList).2.2 && decide ((refNumR s.data.toList).2.1 = [])) := rfl
  have f1 : refHas s.data.toList 1 = ((refNumR s.data.toList).2.2 && !decide ((refNumR s.data.toList).2.1 = [])) := rfl
  have f2 : refHas s.data.toList 2 = (decide (0 < cntP isLetter s.data.toList) && decide (cntP isLetter s.data.toList + cntP isDigit s.data.toList + cntP isHy s.data.toList = s.data.toList.length)) := rfl
  have f7 : refHas s.data.toList 7 = (decide (1 ≤ s.data.toList.length) && decide (s.data.toList.length ≤ 6) && decide (cntP isLetter s.data.toList + cntP isDigit s.data.toList = s.data.toList.length)) := rfl
  rw [← htl] at f0 f1
  rw [hlen] at f2 f7
  have f3 : refHas s.data.toList 3 = decide (kindsB s.data.toList / 2 % 2 = 1) := rfl
  have f4 : refHas s.data.toList 4 = decide (kindsB s.data.toList / 4 % 2 = 1) := rfl
  have f5 : refHas s.data.toList 5 = decide (kindsB s.data.toList / 8 % 2 = 1) := rfl
  have f6 : refHas s.data.toList 6 = decide (kindsB s.data.toList / 16 % 2 = 1) := rfl
  have f8 : refHas s.data.toList 8 = decide (s.data.toList.map shpC = [65, 65]) := rfl
  have f9 : refHas s.data.toList 9 = decide (s.data.toList.map shpC = [48, 48, 48, 48, 48]) := rfl
  have f10 : refHas s.data.toList 10 = decide (s.data.toList.map shpC = [65, 48, 65, 48, 65, 48]) := rfl
  have f11 : refHas s.data.toList 11 = decide (s.data.toList.map shpC = [65, 48, 65]) := rfl
  have f12 : refHas s.data.toList 12 = decide (s.data.toList.map shpC = [48, 65, 48]) := rfl
  have f13 : refHas s.data.toList 13 = decide (s.data.toList.map shpC = [48, 48, 48, 48]) := rfl
  rw [← hsh, ← ByteArray.toList_eq sh] at f8 f9 f10 f11 f12 f13
  rw [← ByteArray.toList_eq tl] at f0 f1
  generalize refHas s.data.toList = f at f0 f1 f2 f3 f4 f5 f6 f7 f8 f9 f10 f11 f12 f13 ⊢
  generalize (refNumR s.data.toList).2.2 = is at f0 f1 hnum
  generalize (refNumR s.data.toList).1 = nn at hnum
  generalize cntP isLetter s.data.toList = L at f2 f7 hcnt hb3
  generalize cntP isDigit s.data.toList = D at f2 f7 hcnt hb3
  generalize cntP isHy s.data.toList = H at f2 hcnt hb3
  generalize kindsB s.data.toList = K at f3 f4 f5 f6 hknd hk64
  have F0 := Lib.hid f0
  have F1 := Lib.hid f1
  have F2 := Lib.hid f2
  have F3 := Lib.hid f3
  have F4 := Lib.hid f4
  have F5 := Lib.hid f5
  have F6 := Lib.hid f6
  have F7 := Lib.hid f7
  have F8 := Lib.hid f8
  have F9 := Lib.hid f9
  have F10 := Lib.hid f10
  have F11 := Lib.hid f11
  have F12 := Lib.hid f12
  have F13 := Lib.hid f13
  have HC := Lib.hid hcnt
  have HN := Lib.hid hnum
  have HK := Lib.hid hknd
  have HS := Lib.hid hshape
  clear f0 f1 f2 f3 f4 f5 f6 f7 f8 f9 f10 f11 f12 f13 hcnt hnum hknd hshape htl hsh hlen
  go_enter Tryz.func22, Tryz.ntmps22
  have hB : Below w.heap.size w w := Below.refl _ _
  go_upto_region 4 with (first
      | (go_at_call 39; refine (HC.out _).mono ?_; rintro e w' ⟨rfl, rfl⟩)
      | (go_at_call 40; refine (HS.out _).mono ?_; rintro e w' ⟨rfl, rfl⟩)
      | (go_at_call 18; refine (HN.out _).mono ?_; rintro e w' ⟨rfl, hb'⟩; replace hB := hB.trans (hb'.mono hB.size); clear hb')
      | (go_at_call 58; refine (HK.out _).mono ?_; rintro e w' ⟨rfl, hb'⟩; replace hB := hB.trans (hb'.mono hB.size); clear hb'))
  go_cut [28] (fun b wx => b = .bool (f 0) ∧ Below w.heap.size w wx)
  case first =>
    cases is
    · have HF : f 0 = false := by rw [F0.out]; rfl
      have HG := Lib.hid HF
      clear HF
      go_wp2_with fail
      go_meet
      exact ⟨congrArg Value.bool HG.out.symm, hB⟩
    · by_cases h : tl.toList = []
      · have HF : f 0 = true := by rw [F0.out]; simp [h]
        have e1 : tl.toList.isEmpty = true := by rw [h]; rfl
        have HG := Lib.hid HF
        clear HF
        go_wp2_with fail
        go_meet
        exact ⟨congrArg Value.bool HG.out.symm, hB⟩
      · have HF : f 0 = false := by rw [F0.out]; simp [h]
        have e1 : tl.toList.isEmpty = false := by cases e : tl.toList.isEmpty; rfl; exact absurd (List.isEmpty_iff.1 e) h
        have HG := Lib.hid HF
        clear HF
        go_wp2_with fail
        go_meet
        exact ⟨congrArg Value.bool HG.out.symm, hB⟩
  case rest =>
    clear hB
    obtain ⟨rfl, hB⟩ := hcut
    go_upto_if 28 with fail
    go_cut [3] (fun o wx => SumIs f 1 o ∧ Below w.heap.size w wx)
    case first =>
      cases HF : f 0
      all_goals
        have HG := Lib.hid HF
        clear HF
        go_wp2_with fail
        go_meet
        first | exact ⟨SumIs.yes (x := 0) rfl HG.out (by push_cast; try omega), hB⟩ | exact ⟨SumIs.no (x := 0) rfl HG.out, hB⟩
    case rest =>
      clear hB
      obtain ⟨⟨x, rfl, hx⟩, hB⟩ := hcut
      have hxl := sumTo_lt f 1
      rw [hx] at hxl
      have HX := Lib.hid hx
      clear hx
      go_upto_region 6 with (first
          | (go_at_call 39; refine (HC.out _).mono ?_; rintro e w' ⟨rfl, rfl⟩)
          | (go_at_call 40; refine (HS.out _).mono ?_; rintro e w' ⟨rfl, rfl⟩)
          | (go_at_call 18; refine (HN.out _).mono ?_; rintro e w' ⟨rfl, hb'⟩; replace hB := hB.trans (hb'.mono hB.size); clear hb')
          | (go_at_call 58; refine (HK.out _).mono ?_; rintro e w' ⟨rfl, hb'⟩; replace hB := hB.trans (hb'.mono hB.size); clear hb'))
      go_cut [35] (fun b wx => b = .bool (f 1) ∧ Below w.heap.size w wx)
      case first =>
        cases is
        · have HF : f 1 = false := by rw [F1.out]; rfl
          have HG := Lib.hid HF
          clear HF
          go_wp2_with fail
          go_meet
          exact ⟨congrArg Value.bool HG.out.symm, hB⟩
        · by_cases h : tl.toList = []
          · have HF : f 1 = false := by rw [F1.out]; simp [h]
            have e1 : tl.toList.isEmpty = true := by rw [h]; rfl
            have HG := Lib.hid HF
            clear HF
            go_wp2_with fail
            go_meet
            exact ⟨congrArg Value.bool HG.out.symm, hB⟩
          · have HF : f 1 = true := by rw [F1.out]; simp [h]
            have e1 : tl.toList.isEmpty = false := by cases e : tl.toList.isEmpty; rfl; exact absurd (List.isEmpty_iff.1 e) h
            have HG := Lib.hid HF
            clear HF
            go_wp2_with fail
            go_meet
            exact ⟨congrArg Value.bool HG.out.symm, hB⟩
      case rest =>
        clear hB
        obtain ⟨rfl, hB⟩ := hcut
        go_upto_if 35 with fail
        go_cut [3] (fun o wx => SumIs f 2 o ∧ Below w.heap.size w wx)
        case first =>
          cases HF : f 1
          all_goals
            have HG := Lib.hid HF
            clear HF
            go_wp2_with fail
            go_meet
            first | exact ⟨SumIs.yes (x := x) HX.out HG.out (by push_cast; try omega), hB⟩ | exact ⟨SumIs.no (x := x) HX.out HG.out, hB⟩
        case rest =>
          clear hB HX hxl x
          obtain ⟨⟨x, rfl, hx⟩, hB⟩ := hcut
          have hxl := sumTo_lt f 2
          rw [hx] at hxl
          have HX := Lib.hid hx
          clear hx
          go_upto_region 8 with (first
              | (go_at_call 39; refine (HC.out _).mono ?_; rintro e w' ⟨rfl, rfl⟩)
              | (go_at_call 40; refine (HS.out _).mono ?_; rintro e w' ⟨rfl, rfl⟩)
              | (go_at_call 18; refine (HN.out _).mono ?_; rintro e w' ⟨rfl, hb'⟩; replace hB := hB.trans (hb'.mono hB.size); clear hb')
              | (go_at_call 58; refine (HK.out _).mono ?_; rintro e w' ⟨rfl, hb'⟩; replace hB := hB.trans (hb'.mono hB.size); clear hb'))
          go_cut [49] (fun b wx => b = .bool (f 2) ∧ Below w.heap.size w wx)
          case first =>
            by_cases h : 0 < L
            · by_cases h2 : L + D + H = s.size
              · have HF : f 2 = true := by rw [F2.out]; simp [h, h2]
                have e1 : ((L : Int) + (D : Int) + (H : Int) == (s.size : Int)) = true := by simp; omega
                have HH := Lib.hid h2
                clear h2
                have HG := Lib.hid HF
                clear HF
                go_wp2_with fail
                go_meet
                exact ⟨congrArg Value.bool HG.out.symm, hB⟩
              · have HF : f 2 = false := by rw [F2.out]; simp [h2]
                have e1 : ((L : Int) + (D : Int) + (H : Int) == (s.size : Int)) = false := by simp; omega
                have HG := Lib.hid HF
                clear HF
                go_wp2_with fail
                go_meet
                exact ⟨congrArg Value.bool HG.out.symm, hB⟩
            · have HF : f 2 = false := by rw [F2.out]; simp [h]
              have HG := Lib.hid HF
              clear HF
              go_wp2_with fail
              go_meet
              exact ⟨congrArg Value.bool HG.out.symm, hB⟩
          case rest =>
            clear hB
            obtain ⟨rfl, hB⟩ := hcut
            go_upto_if 49 with fail
            go_cut [3] (fun o wx => SumIs f 3 o ∧ Below w.heap.size w wx)
            case first =>
              cases HF : f 2
              all_goals
                have HG := Lib.hid HF
                clear HF
                go_wp2_with fail
                go_meet
                first | exact ⟨SumIs.yes (x := x) HX.out HG.out (by push_cast; try omega), hB⟩ | exact ⟨SumIs.no (x := x) HX.out HG.out, hB⟩
            case rest =>
              clear hB HX hxl x
              obtain ⟨⟨x, rfl, hx⟩, hB⟩ := hcut
              have hxl := sumTo_lt f 3
              rw [hx] at hxl
              have HX := Lib.hid hx
              clear hx
              go_upto_if 57 with (first
                  | (go_at_call 39; refine (HC.out _).mono ?_; rintro e w' ⟨rfl, rfl⟩)
                  | (go_at_call 40; refine (HS.out _).mono ?_; rintro e w' ⟨rfl, rfl⟩)
                  | (go_at_call 18; refine (HN.out _).mono ?_; rintro e w' ⟨rfl, hb'⟩; replace hB := hB.trans (hb'.mono hB.size); clear hb')
                  | (go_at_call 58; refine (HK.out _).mono ?_; rintro e w' ⟨rfl, hb'⟩; replace hB := hB.trans (hb'.mono hB.size); clear hb'))
              go_cut [3] (fun o wx => SumIs f 4 o ∧ Below w.heap.size w wx)
              case first =>
                by_cases h : K / 2 % 2 = 1
                · have HF : f 3 = true := by rw [F3.out]; simp [h]
                  have e1 : ((K : Int) / 2 % 2 == 1) = true := by simp; omega
                  have HH := Lib.hid h
                  clear h
                  have HG := Lib.hid HF
                  clear HF
                  go_wp2_with fail
                  go_meet
                  first | exact ⟨SumIs.yes (x := x) HX.out HG.out (by push_cast; try omega), hB⟩ | exact ⟨SumIs.no (x := x) HX.out HG.out, hB⟩
                · have HF : f 3 = false := by rw [F3.out]; simp [h]
                  have e1 : ((K : Int) / 2 % 2 == 1) = false := by simp; omega
                  have HG := Lib.hid HF
                  clear HF
                  go_wp2_with fail
                  go_meet
                  first | exact ⟨SumIs.yes (x := x) HX.out HG.out (by push_cast; try omega), hB⟩ | exact ⟨SumIs.no (x := x) HX.out HG.out, hB⟩
              case rest =>
                clear hB HX hxl x
                obtain ⟨⟨x, rfl, hx⟩, hB⟩ := hcut
                have hxl := sumTo_lt f 4
                rw [hx] at hxl
                have HX := Lib.hid hx
                clear hx
                go_upto_if 63 with (first
                    | (go_at_call 39; refine (HC.out _).mono ?_; rintro e w' ⟨rfl, rfl⟩)
                    | (go_at_call 40; refine (HS.out _).mono ?_; rintro e w' ⟨rfl, rfl⟩)
                    | (go_at_call 18; refine (HN.out _).mono ?_; rintro e w' ⟨rfl, hb'⟩; replace hB := hB.trans (hb'.mono hB.size); clear hb')
                    | (go_at_call 58; refine (HK.out _).mono ?_; rintro e w' ⟨rfl, hb'⟩; replace hB := hB.trans (hb'.mono hB.size); clear hb'))
                go_cut [3] (fun o wx => SumIs f 5 o ∧ Below w.heap.size w wx)
                case first =>
                  by_cases h : K / 4 % 2 = 1
                  · have HF : f 4 = true := by rw [F4.out]; simp [h]
                    have e1 : ((K : Int) / 4 % 2 == 1) = true := by simp; omega
                    have HH := Lib.hid h
                    clear h
                    have HG := Lib.hid HF
                    clear HF
                    go_wp2_with fail
                    go_meet
                    first | exact ⟨SumIs.yes (x := x) HX.out HG.out (by push_cast; try omega), hB⟩ | exact ⟨SumIs.no (x := x) HX.out HG.out, hB⟩
                  · have HF : f 4 = false := by rw [F4.out]; simp [h]
                    have e1 : ((K : Int) / 4 % 2 == 1) = false := by simp; omega
                    have HG := Lib.hid HF
                    clear HF
                    go_wp2_with fail
                    go_meet
                    first | exact ⟨SumIs.yes (x := x) HX.out HG.out (by push_cast; try omega), hB⟩ | exact ⟨SumIs.no (x := x) HX.out HG.out, hB⟩
                case rest =>
                  clear hB HX hxl x
                  obtain ⟨⟨x, rfl, hx⟩, hB⟩ := hcut
                  have hxl := sumTo_lt f 5
                  rw [hx] at hxl
                  have HX := Lib.hid hx
                  clear hx
                  go_upto_if 69 with (first
                      | (go_at_call 39; refine (HC.out _).mono ?_; rintro e w' ⟨rfl, rfl⟩)
                      | (go_at_call 40; refine (HS.out _).mono ?_; rintro e w' ⟨rfl, rfl⟩)
                      | (go_at_call 18; refine (HN.out _).mono ?_; rintro e w' ⟨rfl, hb'⟩; replace hB := hB.trans (hb'.mono hB.size); clear hb')
                      | (go_at_call 58; refine (HK.out _).mono ?_; rintro e w' ⟨rfl, hb'⟩; replace hB := hB.trans (hb'.mono hB.size); clear hb'))
                  go_cut [3] (fun o wx => SumIs f 6 o ∧ Below w.heap.size w wx)
                  case first =>
                    by_cases h : K / 8 % 2 = 1
                    · have HF : f 5 = true := by rw [F5.out]; simp [h]
                      have e1 : ((K : Int) / 8 % 2 == 1) = true := by simp; omega
                      have HH := Lib.hid h
                      clear h
                      have HG := Lib.hid HF
                      clear HF
                      go_wp2_with fail
                      go_meet
                      first | exact ⟨SumIs.yes (x := x) HX.out HG.out (by push_cast; try omega), hB⟩ | exact ⟨SumIs.no (x := x) HX.out HG.out, hB⟩
                    · have HF : f 5 = false := by rw [F5.out]; simp [h]
                      have e1 : ((K : Int) / 8 % 2 == 1) = false := by simp; omega
                      have HG := Lib.hid HF
                      clear HF
                      go_wp2_with fail
                      go_meet
                      first | exact ⟨SumIs.yes (x := x) HX.out HG.out (by push_cast; try omega), hB⟩ | exact ⟨SumIs.no (x := x) HX.out HG.out, hB⟩
                  case rest =>
                    clear hB HX hxl x
                    obtain ⟨⟨x, rfl, hx⟩, hB⟩ := hcut
                    have hxl := sumTo_lt f 6
                    rw [hx] at hxl
                    have HX := Lib.hid hx
                    clear hx
                    go_upto_if 75 with (first
                        | (go_at_call 39; refine (HC.out _).mono ?_; rintro e w' ⟨rfl, rfl⟩)
                        | (go_at_call 40; refine (HS.out _).mono ?_; rintro e w' ⟨rfl, rfl⟩)
                        | (go_at_call 18; refine (HN.out _).mono ?_; rintro e w' ⟨rfl, hb'⟩; replace hB := hB.trans (hb'.mono hB.size); clear hb')
                        | (go_at_call 58; refine (HK.out _).mono ?_; rintro e w' ⟨rfl, hb'⟩; replace hB := hB.trans (hb'.mono hB.size); clear hb'))
                    go_cut [3] (fun o wx => SumIs f 7 o ∧ Below w.heap.size w wx)
                    case first =>
                      by_cases h : K / 16 % 2 = 1
                      · have HF : f 6 = true := by rw [F6.out]; simp [h]
                        have e1 : ((K : Int) / 16 % 2 == 1) = true := by simp; omega
                        have HH := Lib.hid h
                        clear h
                        have HG := Lib.hid HF
                        clear HF
                        go_wp2_with fail
                        go_meet
                        first | exact ⟨SumIs.yes (x := x) HX.out HG.out (by push_cast; try omega), hB⟩ | exact ⟨SumIs.no (x := x) HX.out HG.out, hB⟩
                      · have HF : f 6 = false := by rw [F6.out]; simp [h]
                        have e1 : ((K : Int) / 16 % 2 == 1) = false := by simp; omega
                        have HG := Lib.hid HF
                        clear HF
                        go_wp2_with fail
                        go_meet
                        first | exact ⟨SumIs.yes (x := x) HX.out HG.out (by push_cast; try omega), hB⟩ | exact ⟨SumIs.no (x := x) HX.out HG.out, hB⟩
                    case rest =>
                      clear hB HX hxl x
                      obtain ⟨⟨x, rfl, hx⟩, hB⟩ := hcut
                      have hxl := sumTo_lt f 7
                      rw [hx] at hxl
                      have HX := Lib.hid hx
                      clear hx
                      go_upto_region 19 with (first
                          | (go_at_call 39; refine (HC.out _).mono ?_; rintro e w' ⟨rfl, rfl⟩)
                          | (go_at_call 40; refine (HS.out _).mono ?_; rintro e w' ⟨rfl, rfl⟩)
                          | (go_at_call 18; refine (HN.out _).mono ?_; rintro e w' ⟨rfl, hb'⟩; replace hB := hB.trans (hb'.mono hB.size); clear hb')
                          | (go_at_call 58; refine (HK.out _).mono ?_; rintro e w' ⟨rfl, hb'⟩; replace hB := hB.trans (hb'.mono hB.size); clear hb'))
                      go_cut [93] (fun b wx => b = .bool (f 7) ∧ Below w.heap.size w wx)
                      case first =>
                        by_cases h : 1 ≤ s.size
                        · by_cases h1 : s.size ≤ 6
                          · by_cases h2 : L + D = s.size
                            · have HF : f 7 = true := by rw [F7.out]; simp [h, h1, h2]
                              have e1 : ((L : Int) + (D : Int) == (s.size : Int)) = true := by simp; omega
                              have HH := Lib.hid h2
                              clear h2
                              have HG := Lib.hid HF
                              clear HF
                              go_wp2_with fail
                              go_meet
                              exact ⟨congrArg Value.bool HG.out.symm, hB⟩
                            · have HF : f 7 = false := by rw [F7.out]; simp [h2]
                              have e1 : ((L : Int) + (D : Int) == (s.size : Int)) = false := by simp; omega
                              have HG := Lib.hid HF
                              clear HF
                              go_wp2_with fail
                              go_meet
                              exact ⟨congrArg Value.bool HG.out.symm, hB⟩
                          · have HF : f 7 = false := by rw [F7.out]; simp [h1]
                            have HG := Lib.hid HF
                            clear HF
                            go_wp2_with fail
                            go_meet
                            exact ⟨congrArg Value.bool HG.out.symm, hB⟩
                        · have HF : f 7 = false := by rw [F7.out]; simp [h]
                          have HG := Lib.hid HF
                          clear HF
                          go_wp2_with fail
                          go_meet
                          exact ⟨congrArg Value.bool HG.out.symm, hB⟩
                      case rest =>
                        clear hB
                        obtain ⟨rfl, hB⟩ := hcut
                        go_upto_if 93 with fail
                        go_cut [3] (fun o wx => SumIs f 8 o ∧ Below w.heap.size w wx)
                        case first =>
                          cases HF : f 7
                          all_goals
                            have HG := Lib.hid HF
                            clear HF
                            go_wp2_with fail
                            go_meet
                            first | exact ⟨SumIs.yes (x := x) HX.out HG.out (by push_cast; try omega), hB⟩ | exact ⟨SumIs.no (x := x) HX.out HG.out, hB⟩
                        case rest =>
                          clear hB HX hxl x
                          obtain ⟨⟨x, rfl, hx⟩, hB⟩ := hcut
                          have hxl := sumTo_lt f 8
                          rw [hx] at hxl
                          have HX := Lib.hid hx
                          clear hx
                          go_upto_if 99 with (first
                              | (go_at_call 39; refine (HC.out _).mono ?_; rintro e w' ⟨rfl, rfl⟩)
                              | (go_at_call 40; refine (HS.out _).mono ?_; rintro e w' ⟨rfl, rfl⟩)
                              | (go_at_call 18; refine (HN.out _).mono ?_; rintro e w' ⟨rfl, hb'⟩; replace hB := hB.trans (hb'.mono hB.size); clear hb')
                              | (go_at_call 58; refine (HK.out _).mono ?_; rintro e w' ⟨rfl, hb'⟩; replace hB := hB.trans (hb'.mono hB.size); clear hb'))
                          go_cut [3] (fun o wx => SumIs f 9 o ∧ Below w.heap.size w wx)
                          case first =>
                            by_cases h : sh.toList = [65, 65]
                            · have HF : f 8 = true := by rw [F8.out]; simp [h]
                              have e1 : (sh.toList == [65, 65]) = true := by rw [h]; rfl
                              rw [e1]
                              have HH := Lib.hid h
                              clear h
                              have HG := Lib.hid HF
                              clear HF
                              go_wp2_with fail
                              go_meet
                              first | exact ⟨SumIs.yes (x := x) HX.out HG.out (by push_cast; try omega), hB⟩ | exact ⟨SumIs.no (x := x) HX.out HG.out, hB⟩
                            · have HF : f 8 = false := by rw [F8.out]; simp [h]
                              have e1 : (sh.toList == [65, 65]) = false := by simpa using h
                              rw [e1]
                              have HG := Lib.hid HF
                              clear HF
                              go_wp2_with fail
                              go_meet
                              first | exact ⟨SumIs.yes (x := x) HX.out HG.out (by push_cast; try omega), hB⟩ | exact ⟨SumIs.no (x := x) HX.out HG.out, hB⟩
                          case rest =>
                            clear hB HX hxl x
                            obtain ⟨⟨x, rfl, hx⟩, hB⟩ := hcut
                            have hxl := sumTo_lt f 9
                            rw [hx] at hxl
                            have HX := Lib.hid hx
                            clear hx
                            go_upto_if 103 with (first
                                | (go_at_call 39; refine (HC.out _).mono ?_; rintro e w' ⟨rfl, rfl⟩)
                                | (go_at_call 40; refine (HS.out _).mono ?_; rintro e w' ⟨rfl, rfl⟩)
                                | (go_at_call 18; refine (HN.out _).mono ?_; rintro e w' ⟨rfl, hb'⟩; replace hB := hB.trans (hb'.mono hB.size); clear hb')
                                | (go_at_call 58; refine (HK.out _).mono ?_; rintro e w' ⟨rfl, hb'⟩; replace hB := hB.trans (hb'.mono hB.size); clear hb'))
                            go_cut [3] (fun o wx => SumIs f 10 o ∧ Below w.heap.size w wx)
                            case first =>
                              by_cases h : sh.toList = [48, 48, 48, 48, 48]
                              · have HF : f 9 = true := by rw [F9.out]; simp [h]
                                have e1 : (sh.toList == [48, 48, 48, 48, 48]) = true := by rw [h]; rfl
                                rw [e1]
                                have HH := Lib.hid h
                                clear h
                                have HG := Lib.hid HF
                                clear HF
                                go_wp2_with fail
                                go_meet
                                first | exact ⟨SumIs.yes (x := x) HX.out HG.out (by push_cast; try omega), hB⟩ | exact ⟨SumIs.no (x := x) HX.out HG.out, hB⟩
                              · have HF : f 9 = false := by rw [F9.out]; simp [h]
                                have e1 : (sh.toList == [48, 48, 48, 48, 48]) = false := by simpa using h
                                rw [e1]
                                have HG := Lib.hid HF
                                clear HF
                                go_wp2_with fail
                                go_meet
                                first | exact ⟨SumIs.yes (x := x) HX.out HG.out (by push_cast; try omega), hB⟩ | exact ⟨SumIs.no (x := x) HX.out HG.out, hB⟩
                            case rest =>
                              clear hB HX hxl x
                              obtain ⟨⟨x, rfl, hx⟩, hB⟩ := hcut
                              have hxl := sumTo_lt f 10
                              rw [hx] at hxl
                              have HX := Lib.hid hx
                              clear hx
                              go_upto_if 107 with (first
                                  | (go_at_call 39; refine (HC.out _).mono ?_; rintro e w' ⟨rfl, rfl⟩)
                                  | (go_at_call 40; refine (HS.out _).mono ?_; rintro e w' ⟨rfl, rfl⟩)
                                  | (go_at_call 18; refine (HN.out _).mono ?_; rintro e w' ⟨rfl, hb'⟩; replace hB := hB.trans (hb'.mono hB.size); clear hb')
                                  | (go_at_call 58; refine (HK.out _).mono ?_; rintro e w' ⟨rfl, hb'⟩; replace hB := hB.trans (hb'.mono hB.size); clear hb'))
                              go_cut [3] (fun o wx => SumIs f 11 o ∧ Below w.heap.size w wx)
                              case first =>
                                by_cases h : sh.toList = [65, 48, 65, 48, 65, 48]
                                · have HF : f 10 = true := by rw [F10.out]; simp [h]
                                  have e1 : (sh.toList == [65, 48, 65, 48, 65, 48]) = true := by rw [h]; rfl
                                  rw [e1]
                                  have HH := Lib.hid h
                                  clear h
                                  have HG := Lib.hid HF
                                  clear HF
                                  go_wp2_with fail
                                  go_meet
                                  first | exact ⟨SumIs.yes (x := x) HX.out HG.out (by push_cast; try omega), hB⟩ | exact ⟨SumIs.no (x := x) HX.out HG.out, hB⟩
                                · have HF : f 10 = false := by rw [F10.out]; simp [h]
                                  have e1 : (sh.toList == [65, 48, 65, 48, 65, 48]) = false := by simpa using h
                                  rw [e1]
                                  have HG := Lib.hid HF
                                  clear HF
                                  go_wp2_with fail
                                  go_meet
                                  first | exact ⟨SumIs.yes (x := x) HX.out HG.out (by push_cast; try omega), hB⟩ | exact ⟨SumIs.no (x := x) HX.out HG.out, hB⟩
                              case rest =>
                                clear hB HX hxl x
                                obtain ⟨⟨x, rfl, hx⟩, hB⟩ := hcut
                                have hxl := sumTo_lt f 11
                                rw [hx] at hxl
                                have HX := Lib.hid hx
                                clear hx
                                go_upto_if 111 with (first
                                    | (go_at_call 39; refine (HC.out _).mono ?_; rintro e w' ⟨rfl, rfl⟩)
                                    | (go_at_call 40; refine (HS.out _).mono ?_; rintro e w' ⟨rfl, rfl⟩)
                                    | (go_at_call 18; refine (HN.out _).mono ?_; rintro e w' ⟨rfl, hb'⟩; replace hB := hB.trans (hb'.mono hB.size); clear hb')
                                    | (go_at_call 58; refine (HK.out _).mono ?_; rintro e w' ⟨rfl, hb'⟩; replace hB := hB.trans (hb'.mono hB.size); clear hb'))
                                go_cut [3] (fun o wx => SumIs f 12 o ∧ Below w.heap.size w wx)
                                case first =>
                                  by_cases h : sh.toList = [65, 48, 65]
                                  · have HF : f 11 = true := by rw [F11.out]; simp [h]
                                    have e1 : (sh.toList == [65, 48, 65]) = true := by rw [h]; rfl
                                    rw [e1]
                                    have HH := Lib.hid h
                                    clear h
                                    have HG := Lib.hid HF
                                    clear HF
                                    go_wp2_with fail
                                    go_meet
                                    first | exact ⟨SumIs.yes (x := x) HX.out HG.out (by push_cast; try omega), hB⟩ | exact ⟨SumIs.no (x := x) HX.out HG.out, hB⟩
                                  · have HF : f 11 = false := by rw [F11.out]; simp [h]
                                    have e1 : (sh.toList == [65, 48, 65]) = false := by simpa using h
                                    rw [e1]
                                    have HG := Lib.hid HF
                                    clear HF
                                    go_wp2_with fail
                                    go_meet
                                    first | exact ⟨SumIs.yes (x := x) HX.out HG.out (by push_cast; try omega), hB⟩ | exact ⟨SumIs.no (x := x) HX.out HG.out, hB⟩
                                case rest =>
                                  clear hB HX hxl x
                                  obtain ⟨⟨x, rfl, hx⟩, hB⟩ := hcut
                                  have hxl := sumTo_lt f 12
                                  rw [hx] at hxl
                                  have HX := Lib.hid hx
                                  clear hx
                                  go_upto_if 115 with (first
                                      | (go_at_call 39; refine (HC.out _).mono ?_; rintro e w' ⟨rfl, rfl⟩)
                                      | (go_at_call 40; refine (HS.out _).mono ?_; rintro e w' ⟨rfl, rfl⟩)
                                      | (go_at_call 18; refine (HN.out _).mono ?_; rintro e w' ⟨rfl, hb'⟩; replace hB := hB.trans (hb'.mono hB.size); clear hb')
                                      | (go_at_call 58; refine (HK.out _).mono ?_; rintro e w' ⟨rfl, hb'⟩; replace hB := hB.trans (hb'.mono hB.size); clear hb'))
                                  go_cut [3] (fun o wx => SumIs f 13 o ∧ Below w.heap.size w wx)
                                  case first =>
                                    by_cases h : sh.toList = [48, 65, 48]
                                    · have HF : f 12 = true := by rw [F12.out]; simp [h]
                                      have e1 : (sh.toList == [48, 65, 48]) = true := by rw [h]; rfl
                                      rw [e1]
                                      have HH := Lib.hid h
                                      clear h
                                      have HG := Lib.hid HF
                                      clear HF
                                      go_wp2_with fail
                                      go_meet
                                      first | exact ⟨SumIs.yes (x := x) HX.out HG.out (by push_cast; try omega), hB⟩ | exact ⟨SumIs.no (x := x) HX.out HG.out, hB⟩
                                    · have HF : f 12 = false := by rw [F12.out]; simp [h]
                                      have e1 : (sh.toList == [48, 65, 48]) = false := by simpa using h
                                      rw [e1]
                                      have HG := Lib.hid HF
                                      clear HF
                                      go_wp2_with fail
                                      go_meet
                                      first | exact ⟨SumIs.yes (x := x) HX.out HG.out (by push_cast; try omega), hB⟩ | exact ⟨SumIs.no (x := x) HX.out HG.out, hB⟩
                                  case rest =>
                                    clear hB HX hxl x
                                    obtain ⟨⟨x, rfl, hx⟩, hB⟩ := hcut
                                    have hxl := sumTo_lt f 13
                                    rw [hx] at hxl
                                    have HX := Lib.hid hx
                                    clear hx
                                    go_upto_if 119 with (first
                                        | (go_at_call 39; refine (HC.out _).mono ?_; rintro e w' ⟨rfl, rfl⟩)
                                        | (go_at_call 40; refine (HS.out _).mono ?_; rintro e w' ⟨rfl, rfl⟩)
                                        | (go_at_call 18; refine (HN.out _).mono ?_; rintro e w' ⟨rfl, hb'⟩; replace hB := hB.trans (hb'.mono hB.size); clear hb')
                                        | (go_at_call 58; refine (HK.out _).mono ?_; rintro e w' ⟨rfl, hb'⟩; replace hB := hB.trans (hb'.mono hB.size); clear hb'))
                                    go_cut [3] (fun o wx => SumIs f 14 o ∧ Below w.heap.size w wx)
                                    case first =>
                                      by_cases h : sh.toList = [48, 48, 48, 48]
                                      · have HF : f 13 = true := by rw [F13.out]; simp [h]
                                        have e1 : (sh.toList == [48, 48, 48, 48]) = true := by rw [h]; rfl
                                        rw [e1]
                                        have HH := Lib.hid h
                                        clear h
                                        have HG := Lib.hid HF
                                        clear HF
                                        go_wp2_with fail
                                        go_meet
                                        first | exact ⟨SumIs.yes (x := x) HX.out HG.out (by push_cast; try omega), hB⟩ | exact ⟨SumIs.no (x := x) HX.out HG.out, hB⟩
                                      · have HF : f 13 = false := by rw [F13.out]; simp [h]
                                        have e1 : (sh.toList == [48, 48, 48, 48]) = false := by simpa using h
                                        rw [e1]
                                        have HG := Lib.hid HF
                                        clear HF
                                        go_wp2_with fail
                                        go_meet
                                        first | exact ⟨SumIs.yes (x := x) HX.out HG.out (by push_cast; try omega), hB⟩ | exact ⟨SumIs.no (x := x) HX.out HG.out, hB⟩
                                    case rest =>
                                      clear hB HX hxl x
                                      obtain ⟨⟨x, rfl, hx⟩, hB⟩ := hcut
                                      have hxl := sumTo_lt f 14
                                      rw [hx] at hxl
                                      have HX := Lib.hid hx
                                      clear hx
                                      go_wp2_with fail
                                      go_ret
                                      rw [HX.out]
                                      exact ⟨rfl, hB⟩
end Go.Proofs.YtdcpmnkebhilpaaGreatDoor
