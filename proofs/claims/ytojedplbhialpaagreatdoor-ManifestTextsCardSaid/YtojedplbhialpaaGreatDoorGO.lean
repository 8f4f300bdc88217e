import Derived.Test.YtojedplbhialpaaGreatDoorMU
import Derived.Test.YtojedplbhialpaaGreatDoorGN
import Derived.Deep.RegionHeld3
import Derived.Deep.DeepCutAuto
import Derived.Deep.DrawnRows
import Derived.Test.YtojedplbhialpaaGreatDoorGF
import Derived.Test.YtojedplbhialpaaGreatDoorGM
/-! MV -/
namespace Go.Proofs.YtojedplbhialpaaGreatDoor
open Go.RowKit
set_option linter.unusedVariables false
set_option maxRecDepth 100000
def amtL (l : Ln) : Bool := amtB l.base && amtB l.bar && amtB l.saved && amtB l.cents
set_option maxHeartbeats 4000000 in
theorem amounts_any (l : Ln) (w : World) : Calls Tryz.prog 52 #[lnA l] w fun e w' => e = .returned (.bool (amtL l)) ∧ Below w.heap.size w w' := by
  have h1 := money_right l.base
  have h2 := money_right l.bar
  have h3 := money_right l.saved
  have h4 := money_right l.cents
  have hb : Below w.heap.size w (w.alloc (lnO l)) := (Below.refl _ w).alloc (Nat.le_refl _) _
  have HB := Lib.hid hb
  clear hb
  unfold amtL lnA
  unfold lnO at HB
  generalize amtB l.base = b1 at h1
  generalize amtB l.bar = b2 at h2
  generalize amtB l.saved = b3 at h3
  generalize amtB l.cents = b4 at h4
  have H1 := Lib.hid h1
  have H2 := Lib.hid h2
  have H3 := Lib.hid h3
  have H4 := Lib.hid h4
  clear h1 h2 h3 h4
  cases b1
  case' true => cases b2
  case' true.true => cases b3
  all_goals
    go_enter Tryz.func52, Tryz.ntmps52
    go_wp2_with (first
      | (go_at_call 110; with_reducible refine (H1.out _).mono ?_; rintro e w1 ⟨rfl, rfl⟩)
      | (go_at_call 110; with_reducible refine (H2.out _).mono ?_; rintro e w1 ⟨rfl, rfl⟩)
      | (go_at_call 110; with_reducible refine (H3.out _).mono ?_; rintro e w1 ⟨rfl, rfl⟩)
      | (go_at_call 110; with_reducible refine (H4.out _).mono ?_; rintro e w1 ⟨rfl, rfl⟩))
    go_ret
    exact ⟨by simp, HB.out⟩
def wordsL (l : Ln) : List ByteArray := [itoaB l.pieces, itoaB l.barred, itoaB l.grams, moneyB l.base, moneyB l.bar, moneyB l.saved, moneyB l.cents]
structure I64 (n : Int) : Prop where
  lo : -9223372036854775808 ≤ n
  hi : n ≤ 9223372036854775807
theorem infoStr : (Tryz.prog.info? 9).map (fun i => (i.zero, i.size, i.bytes)) = some (some (.string ⟨#[]⟩), 1, 16) := by kernel_rfl
set_option maxHeartbeats 8000000 in
theorem lwords_any (l : Ln) (w : World) (hc : amtL l = true) (hp : I64 l.pieces) (hb : I64 l.barred) (hg : I64 l.grams) (ht : TabW w) :
    Calls Tryz.prog 56 #[lnA l] w fun e w' => ∃ v, e = .returned v ∧ Below w.heap.size w w' ∧ w'.ownsRow w.heap.size 9 1 v 7 ((wordsL l).map Value.string) := by
  have i1 := fun (W : World) (h : TabW W) => itoa_any l.pieces W hp.lo hp.hi h
  have i2 := fun (W : World) (h : TabW W) => itoa_any l.barred W hb.lo hb.hi h
  have i3 := fun (W : World) (h : TabW W) => itoa_any l.grams W hg.lo hg.hi h
  unfold amtL at hc
  rw [Bool.and_eq_true, Bool.and_eq_true, Bool.and_eq_true] at hc
  obtain ⟨⟨⟨a1, a2⟩, a3⟩, a4⟩ := hc
  obtain ⟨cs, hcs⟩ : ∃ cs : List Int, cs = [l.base, l.bar, l.saved, l.cents] := ⟨_, rfl⟩
  have hcl : cs.length = 4 := by rw [hcs]; rfl
  have hm : ∀ x ∈ cs, ∀ W : World, TabW W → Calls Tryz.prog 112 #[.int .i64 x] W fun e w' => e = .returned (.tuple #[.string (moneyB x), .int .i64 0]) ∧ Below W.heap.size W w' := by
    intro x hx W hW
    rw [hcs] at hx
    refine money_text x W ?_ hW
    simp only [List.mem_cons, List.not_mem_nil, or_false] at hx
    rcases hx with rfl | rfl | rfl | rfl <;> assumption
  have hw7 : ∀ k (hk : k < cs.length), (wordsL l).take (3 + (k + 1)) = (wordsL l).take (3 + k) ++ [moneyB cs[k]] := by
    subst hcs
    intro k hk
    match k, hk with
    | 0, _ => rfl
    | 1, _ => rfl
    | 2, _ => rfl
    | 3, _ => rfl
  have h3 : (wordsL l).take (3 + 0) = [itoaB l.pieces, itoaB l.barred, itoaB l.grams] := rfl
  have h7 : (wordsL l).take (3 + 4) = wordsL l := rfl
  have h70 : (wordsL l).length = 7 := rfl
  have hbox : (w.alloc (lnO l)).heap[w.heap.size]? = some (lnO l) := alloc_new w _
  have hbw : Below w.heap.size w (w.alloc (lnO l)) := (Below.refl _ w).alloc (Nat.le_refl _) _
  have hs0 : (w.alloc (lnO l)).heap.size = w.heap.size + 1 := by simp
  obtain ⟨W0, hW0⟩ : ∃ W0, W0 = w.alloc (lnO l) := ⟨_, rfl⟩
  rw [← hW0] at hbox hbw hs0
  unfold lnO at hbox hW0
  have htab : ∀ W, Below W0.heap.size W0 W → TabW W := fun W h => (ht.below hbw).below h
  unfold lnA
  generalize itoaB l.pieces = p1 at i1 h3
  generalize itoaB l.barred = p2 at i2 h3
  generalize itoaB l.grams = p3 at i3 h3
  generalize wordsL l = WL at hw7 h3 h7 h70 ⊢
  have hcsO : Obj.cells #[.int .i64 l.base, .int .i64 l.bar, .int .i64 l.saved, .int .i64 l.cents] 3 (0, 0) = Obj.cells (cs.map (Value.int .i64)).toArray 3 (0, 0) := by rw [hcs]; rfl
  have HCS := Lib.hid hcsO
  have HCL := Lib.hid hcl
  have HM := Lib.hid hm
  have HW7 := Lib.hid hw7
  have H3 := Lib.hid h3
  have H7 := Lib.hid h7
  have H70 := Lib.hid h70
  have I1 := Lib.hid i1
  have I2 := Lib.hid i2
  have I3 := Lib.hid i3
  have HTB := Lib.hid htab
  have HBW := Lib.hid hbw
  have HBOX := Lib.hid hbox
  have HW0 := Lib.hid hW0
  have HS0 := Lib.hid hs0
  have q1 := cell_of_row _ _ 1 _ _ _ hbox
  have q2 := cell_of_row _ _ 2 _ _ _ hbox
  have q3 := cell_of_row _ _ 3 _ _ _ hbox
  have hk : ∀ w', Below W0.heap.size W0 w' → w'.cell? ⟨w.heap.size, 1, none⟩ = some (.int .i64 l.pieces) ∧ w'.cell? ⟨w.heap.size, 2, none⟩ = some (.int .i64 l.barred) ∧ w'.cell? ⟨w.heap.size, 3, none⟩ = some (.int .i64 l.grams) := fun w' hw =>
    ⟨(hw.cell (p := ⟨w.heap.size, 1, none⟩) (by show w.heap.size < _; omega)).trans q1, (hw.cell (p := ⟨w.heap.size, 2, none⟩) (by show w.heap.size < _; omega)).trans q2, (hw.cell (p := ⟨w.heap.size, 3, none⟩) (by show w.heap.size < _; omega)).trans q3⟩
  have HK := Lib.hid hk
  clear i1 i2 i3 hcs hm hw7 h3 h7 h70 hbox hbw hs0 htab hcl hcsO hW0 ht hp hb hg a1 a2 a3 a4 q1 q2 q3 hk
  go_enter Tryz.func56, Tryz.ntmps56
  go_wp2_with fail
  rw [← HW0.out]
  go_cut [3] (fun v wx => ∃ g, v = .slice (some ⟨g, 0, none⟩) 3 3 ∧ Below W0.heap.size W0 wx ∧ wx.ownsRow (w.heap.size + 1) 9 1 v 3 [.string p1, .string p2, .string p3])
  case first =>
    go_region_held3 (fun w' => w'.cell? ⟨w.heap.size, 1, none⟩ = some (.int .i64 l.pieces) ∧ w'.cell? ⟨w.heap.size, 2, none⟩ = some (.int .i64 l.barred) ∧ w'.cell? ⟨w.heap.size, 3, none⟩ = some (.int .i64 l.grams))
      (first | exact HK.out _ (Below.refl _ W0).drew | exact HK.out _ (hbC.alloc hbC.size _) | exact HK.out _ hbC | exact HK.out _ hbB | exact HK.out _ hbA)
      (first
        | (go_at_call 57; (first | with_reducible refine (I1.out _ (HTB.out _ hbB)).mono ?_ | with_reducible refine (I2.out _ (HTB.out _ hbB)).mono ?_ | with_reducible refine (I3.out _ (HTB.out _ hbB)).mono ?_); rintro e wC ⟨rfl, hbC'⟩; have hbC := below_c hbB hbB.size hbC'; clear hbC')
        | (go_at_call 57; (first | with_reducible refine (I1.out _ (HTB.out _ hbA)).mono ?_ | with_reducible refine (I2.out _ (HTB.out _ hbA)).mono ?_ | with_reducible refine (I3.out _ (HTB.out _ hbA)).mono ?_); rintro e wB ⟨rfl, hbB'⟩; have hbB := below_c hbA hbA.size hbB'; clear hbB')
        | (go_at_call 57; (first | with_reducible refine (I1.out _ (HTB.out _ (Below.refl _ W0).drew)).mono ?_ | with_reducible refine (I2.out _ (HTB.out _ (Below.refl _ W0).drew)).mono ?_ | with_reducible refine (I3.out _ (HTB.out _ (Below.refl _ W0).drew)).mono ?_); rintro e wA ⟨rfl, hbA'⟩; have hbA : Below W0.heap.size W0 wA := (Below.refl _ W0).drew.trans hbA'; clear hbA'))
    go_wp2_with fail
    go_meet
    exact ⟨_, rfl, hbC.alloc hbC.size _, World.ownsRow_lit wC _ 3 (by have := hbC.size; have := HS0.out; omega) (by decide) rfl⟩
  case rest =>
    obtain ⟨g3, rfl, hbc, hown⟩ := hcut
    obtain ⟨W1, hW1⟩ : ∃ W1, W1 = wc := ⟨_, rfl⟩
    subst hW1
    have hs0 := HS0.out
    have hsz := hbc.size
    have hbx := (hbc.block w.heap.size (by omega)).trans HBOX.out
    have r4 := cell_of_row _ _ 4 _ _ _ hbx
    have r5 := cell_of_row _ _ 5 _ _ _ hbx
    have r6 := cell_of_row _ _ 6 _ _ _ hbx
    have r7 := cell_of_row _ _ 7 _ _ _ hbx
    have HBC := Lib.hid hbc
    have hown3 : (W1.alloc (.cells #[.int .i64 l.base, .int .i64 l.bar, .int .i64 l.saved, .int .i64 l.cents] 3)).ownsRow (w.heap.size + 1) 9 1 (.slice (some ⟨g3, 0, none⟩) 3 3) (3 + 0) ((WL.take (3 + 0)).map Value.string) := by rw [H3.out]; exact hown.alloc _
    have HOWN := Lib.hid hown3
    have hg3 := (hown.lt g3 rfl).2
    have hnew := alloc_new W1 (.cells #[.int .i64 l.base, .int .i64 l.bar, .int .i64 l.saved, .int .i64 l.cents] 3)
    have HNEW := Lib.hid (hnew.trans (congrArg some HCS.out))
    have HBA := Lib.hid (hbc.alloc hbc.size (.cells #[.int .i64 l.base, .int .i64 l.bar, .int .i64 l.saved, .int .i64 l.cents] 3))
    obtain ⟨i0, hi⟩ := info_parts infoStr
    have HI := Lib.hid hi
    clear hbx hbc hown hown3 hnew hi HCS HK
    go_wp2_with fail
    go_loopw [3, 28] (fun v i wr => ∃ k : Nat, k ≤ 4 ∧ i = .int .i64 k ∧ Below W0.heap.size W0 wr ∧ W1.heap.size + 1 ≤ wr.heap.size ∧ wr.heap[W1.heap.size]? = some (.cells (cs.map (Value.int .i64)).toArray 3 (0, 0)) ∧ wr.ownsRow (w.heap.size + 1) 9 1 v (3 + k) ((WL.take (3 + k)).map Value.string)) (fun _ i _ => 4 - (intOf i).toNat)
    case atStart => exact ⟨0, by omega, rfl, HBA.out, by simp, HNEW.out, HOWN.out⟩
    case round =>
      obtain ⟨k, hk, rfl, hb, hs1, hblk, ho⟩ := hrel
      have HB := Lib.hid hb
      have HBLK := Lib.hid hblk
      have HO := Lib.hid ho
      have hcl := HCL.out
      by_cases hlt : k < 4
      · have hkc : k < cs.length := by omega
        have hx := HM.out _ (List.getElem_mem hkc)
        have hcell : wr.cell? ⟨W1.heap.size, k, none⟩ = some (.int .i64 cs[k]) := by
          have := cell_of_row _ _ k _ _ _ hblk
          rw [this]
          simp [hkc]
        have hww := HW7.out k hkc
        generalize cs[k] = x at hx hcell hww
        generalize moneyB x = mb at hx hww
        have HX := Lib.hid hx
        have HWW := Lib.hid hww
        have HNB := Lib.hid (own_not ho (T := 3) (by decide))
        clear hx hww hblk ho hb hkc hcl
        go_wp2_with (first
          | (go_at_call 112; refine (HX.out _ (HTB.out _ HB.out)).mono ?_; rintro e w2 ⟨rfl, hb2⟩; have hb3 := below_c HB.out HB.out.size hb2; have ho2 := HO.out.kept (grown_none hb2) (Classical.em _); have HO2 := Lib.hid ho2; have HB3 := Lib.hid hb3; have HB2 := Lib.hid hb2; have hs2 := hb2.size; clear hb2 hb3 ho2)
          | (at_builtin; refine wpList_append_own _ rfl _ _ 126 rfl (w.heap.size + 1) 9 i0 (.string ⟨#[]⟩) 1 16 Tryz.underlying126 HI.out.1 HI.out.2.1 HI.out.2.2.1 HI.out.2.2.2 rfl (by decide) _ _ _ rfl (HO2.out.alloc _) ⟨w2.heap.size, 0, none⟩ 1 1 [.string mb] rfl rfl (cell_one_new _ _ _) (by simp [Value.oneCell']) (by unfold maxLen; omega) (by omega) (by have := HS0.out; simp; omega) ?_; intro v' w5 hown' hgrow _))
        go_roundw
        case rel =>
          refine ⟨k + 1, by omega, by go_num, ?_, ?_, ?_, ?_⟩
          · exact (HB3.out.alloc HB3.out.size _).grown hgrow (by have := HB3.out.size; simp; omega) (fun r e => by have := (HO2.out.lt r e).1; have := HS0.out; omega)
          · have := hgrow.size
            simp at this
            omega
          · refine (hgrow.block _ (by simp; omega) (fun e => HNB.out _ e.symm _ _ HBLK.out)).trans ((Below.heap_alloc _ _ _ (by omega)).trans ((HB2.out.block _ (by omega)).trans HBLK.out))
          · rw [HWW.out, List.map_append]
            exact hown'
        case measure => simp [intOf]; omega
      · obtain rfl : k = 4 := by omega
        rw [H7.out] at HO
        go_wp2_with fail
        go_ret
        exact ⟨_, rfl, below_c HBW.out HBW.out.size HB.out, own_less HO.out (Nat.le_succ _)⟩
end Go.Proofs.YtojedplbhialpaaGreatDoor

/-! MW -/
namespace Go.Proofs.YtojedplbhialpaaGreatDoor
open Go.RowKit
set_option linter.unusedVariables false
set_option maxRecDepth 100000
def RowS (w : World) (v : Value) (rest : List ByteArray) : Prop := ∃ g cap cur fz, v = .slice (some ⟨g, 0, none⟩) rest.length cap ∧ w.heap[g]? = some (.cells cur 9 fz) ∧ ∀ i (hi : i < rest.length), cur[i]? = some (.string rest[i])
theorem RowS.of_own {w : World} {base : Nat} {v : Value} {rest : List ByteArray} (h : w.ownsRow base 9 1 v rest.length (rest.map Value.string)) (h0 : 0 < rest.length) : RowS w v rest := by
  obtain ⟨_, ⟨_, e⟩ | ⟨g, cap, cur, rfl, _, hg, hn, _, hs, ht⟩⟩ := h
  · omega
  · refine ⟨g, cap, cur, _, rfl, hg, fun i hi => ?_⟩
    have h1 : (cur.toList.take (rest.length * 1))[i]? = (rest.map Value.string)[i]? := by rw [ht]
    rw [Nat.mul_one, List.getElem?_take, if_pos hi] at h1
    rw [← Array.getElem?_toList, h1, List.getElem?_map, List.getElem?_eq_getElem hi]; rfl
theorem RowS.othK {w w' : World} {v : Value} {rest : List ByteArray} {b : Nat} {cs : Array Value} {fr : Nat × Nat} (h : RowS w v rest) (hb : w.heap[b]? = some (.cells cs 125 fr)) (hk : OthK b w w') : RowS w' v rest := by
  obtain ⟨g, cap, cur, fz, rfl, hg, hc⟩ := h
  refine ⟨g, cap, cur, fz, rfl, hk g _ hg (fun e => ?_) (fun c f e => ?_), hc⟩
  · injection e with e
    subst e
    rw [hb] at hg
    injection hg with hg
    injection hg with _ hg _
    exact absurd hg (by decide)
  · injection e with _ e _
    exact absurd e (by decide)
theorem BldF.block {B b : Nat} {l : List UInt8} {w : World} (h : BldF B b l w) : ∃ cs, w.heap[b]? = some (.cells cs 125 (0, 0)) := by
  rcases h with ⟨_, v, hb, _⟩ | ⟨_, v, hb, _⟩ <;> exact ⟨_, hb⟩
def restB (rest : List ByteArray) : List UInt8 := rest.flatMap (fun r => 32 :: r.data.toList)
def wordsB (first : ByteArray) (rest : List ByteArray) : List UInt8 := first.data.toList ++ restB rest ++ [10]
theorem restB_succ (rest : List ByteArray) {k : Nat} (h : k < rest.length) : restB (rest.take (k + 1)) = restB (rest.take k) ++ (32 :: rest[k].data.toList) := by
  unfold restB
  rw [List.take_succ_eq_append_getElem h, List.flatMap_append]; simp
theorem restB_le {rest : List ByteArray} (h : ∀ r ∈ rest, r.size ≤ 100) : (restB rest).length ≤ rest.length * 101 := by
  induction rest with
  | nil => simp [restB]
  | cons a r ih =>
    have h1 := ih (fun x hx => h x (List.mem_cons_of_mem _ hx))
    have h2 := h a List.mem_cons_self
    have h3 : a.data.toList.length = a.size := Array.length_toList
    unfold restB at h1 ⊢
    rw [List.flatMap_cons, List.length_append, List.length_cons, List.length_cons, h3]
    omega
set_option maxHeartbeats 8000000 in
theorem text1_any (B b : Nat) (l : List UInt8) (first : ByteArray) (rest : List ByteArray) (v : Value) (w : World) (hb : BldF B b l w) (hB : B ≤ w.heap.size) (hl : l.length ≤ 1000000000) (hf : first.size ≤ 1000) (hr : ∀ r ∈ rest, r.size ≤ 100) (hn : rest.length ≤ 100) (hv : RowS w v rest) :
    Calls Tryz.prog 53 #[.string first, v, .pointer (some ⟨b, 0, none⟩)] w fun e w' => e = .returned (.tuple #[]) ∧ BldF B b (l ++ wordsB first rest) w' ∧ Below B w w' ∧ OthK b w w' := by
  have hfl : first.data.toList.length = first.size := Array.length_toList
  obtain ⟨vg, vcap, _, _, hve, _⟩ := id hv
  subst hve
  have HV := Lib.hid hv
  have HR := Lib.hid hr
  have HWS : Hid (∀ W, BldF B b l W → B ≤ W.heap.size → Calls Tryz.prog 54 #[.pointer (some ⟨b, 0, none⟩), .string first] W fun e w' => e = .returned (.tuple #[.int .i64 first.size, .nilIface]) ∧ BldF B b (l ++ first.data.toList) w' ∧ Below B W w' ∧ OthK b W w') := fun W h h2 => writeString_any B b l first W h (by omega) h2
  have HWB : Hid (∀ (x : List UInt8) W, BldF B b x W → x.length ≤ 2000000000 → B ≤ W.heap.size → Calls Tryz.prog 55 #[.pointer (some ⟨b, 0, none⟩), .int .u8 32] W fun e w' => e = .returned .nilIface ∧ BldF B b (x ++ [32]) w' ∧ Below B W w' ∧ OthK b W w') := fun x W h hx h2 => writeByte_any B b x 32 W h (by omega) h2
  have HWE : Hid (∀ (x : List UInt8) W, BldF B b x W → x.length ≤ 2000000000 → B ≤ W.heap.size → Calls Tryz.prog 55 #[.pointer (some ⟨b, 0, none⟩), .int .u8 10] W fun e w' => e = .returned .nilIface ∧ BldF B b (x ++ [10]) w' ∧ Below B W w' ∧ OthK b W w') := fun x W h hx h2 => writeByte_any B b x 10 W h (by omega) h2
  have HBD := Lib.hid hb
  have HLE := Lib.hid (fun k => restB_le (rest := rest.take k) (fun r h => hr r (List.mem_of_mem_take h)))
  clear hv hr hb
  go_enter Tryz.func53, Tryz.ntmps53
  go_wp2_with (go_at_call 54; refine (HWS.out _ HBD.out hB).mono ?_; rintro e w1 ⟨rfl, hb1, hbe1, hk1⟩; have hs1 := hbe1.size; have HB1 := Lib.hid hb1; have HBE1 := Lib.hid hbe1; have HK1 := Lib.hid hk1; clear hb1 hbe1 hk1)
  go_loopw [11] (fun i wr => ∃ k : Nat, k ≤ rest.length ∧ i = .int .i64 k ∧ BldF B b (l ++ first.data.toList ++ restB (rest.take k)) wr ∧ Below B w wr ∧ OthK b w wr) (fun i _ => rest.length - (intOf i).toNat)
  case atStart => exact ⟨0, Nat.zero_le _, rfl, by rw [List.take_zero]; unfold restB; rw [List.flatMap_nil, List.append_nil]; exact HB1.out, HBE1.out, HK1.out⟩
  case round =>
    obtain ⟨k, hk, rfl, hbr, hbe, hok⟩ := hrel
    have HBR := Lib.hid hbr
    have HBE := Lib.hid hbe
    have HOK := Lib.hid hok
    have hle := HLE.out k
    rw [List.length_take, Nat.min_eq_left hk] at hle
    have hle2 : (l ++ first.data.toList ++ restB (rest.take k)).length ≤ 1000020000 := by rw [List.length_append, List.length_append, hfl]; omega
    have hse := hbe.size
    by_cases hlt : k < rest.length
    · obtain ⟨cs, hcs⟩ := BldF.block HBD.out
      obtain ⟨g, cap, cur, fz, hvv, hg, hc⟩ := HV.out.othK hcs hok
      cases hvv
      have c1 : wr.cell? ⟨vg, k, none⟩ = some (.string rest[k]) := by rw [cell_of_row _ _ k _ _ _ hg]; exact hc k hlt
      have hgl := (Array.getElem?_eq_some_iff.1 hg).1
      have hrk := HR.out _ (List.getElem_mem hlt)
      have HSU := Lib.hid (restB_succ rest hlt)
      have hws : ∀ (x : List UInt8) W, BldF B b x W → x.length ≤ 2000000000 → B ≤ W.heap.size → Calls Tryz.prog 54 #[.pointer (some ⟨b, 0, none⟩), .string rest[k]] W fun e w' => e = .returned (.tuple #[.int .i64 rest[k].size, .nilIface]) ∧ BldF B b (x ++ rest[k].data.toList) w' ∧ Below B W w' ∧ OthK b W w' := fun x W h hx h2 => writeString_any B b x rest[k] W h (by omega) h2
      generalize rest[k] = r at c1 hws hrk HSU
      have HWS2 := Lib.hid hws
      obtain ⟨x, hx⟩ : ∃ x, x = l ++ first.data.toList ++ restB (rest.take k) := ⟨_, rfl⟩
      rw [← hx] at HBR hle2
      have HX := Lib.hid hx
      have hx1 : (x ++ [32]).length ≤ 2000000000 := by rw [List.length_append]; simp; omega
      have HX1 := Lib.hid hx1
      clear hws hbr hbe hok hg hc hcs hle hx hx1
      go_wp2_with (first
        | (go_at_call 55; refine (HWB.out _ _ HBR.out (by omega) (by omega)).mono ?_; rintro e w2 ⟨rfl, hb2, hbe2, hk2⟩; have hs2 := hbe2.size; have HB2 := Lib.hid hb2; have HBE2 := Lib.hid hbe2; have HK2 := Lib.hid hk2; clear hb2 hbe2 hk2)
        | (go_at_call 54; refine (HWS2.out _ _ HB2.out HX1.out (by omega)).mono ?_; rintro e w3 ⟨rfl, hb3, hbe3, hk3⟩; have hs3 := hbe3.size; have HB3 := Lib.hid hb3; have HBE3 := Lib.hid hbe3; have HK3 := Lib.hid hk3; clear hb3 hbe3 hk3))
      go_roundw
      case rel =>
        refine ⟨k + 1, by omega, by go_num, ?_, (HBE.out.trans HBE2.out).trans HBE3.out, (HOK.out.trans HK2.out).trans HK3.out⟩
        rw [HSU.out, ← List.append_assoc, ← HX.out, ← List.singleton_append, ← List.append_assoc]
        exact HB3.out
      case measure => simp [intOf]; omega
    · obtain rfl : k = rest.length := by omega
      obtain ⟨x, hx⟩ : ∃ x, x = l ++ first.data.toList ++ restB (rest.take rest.length) := ⟨_, rfl⟩
      rw [← hx] at HBR hle2
      rw [List.take_length] at hx
      have HX := Lib.hid hx
      clear hbr hbe hok hle hx
      go_wp2_with (go_at_call 55; refine (HWE.out _ _ HBR.out (by omega) (by omega)).mono ?_; rintro e w2 ⟨rfl, hb2, hbe2, hk2⟩; have HB2 := Lib.hid hb2; have HBE2 := Lib.hid hbe2; have HK2 := Lib.hid hk2; clear hb2 hbe2 hk2)
      go_end0
      refine ⟨rfl, ?_, HBE.out.trans HBE2.out, HOK.out.trans HK2.out⟩
      unfold wordsB
      rw [← List.append_assoc, ← List.append_assoc, ← HX.out]
      exact HB2.out
end Go.Proofs.YtojedplbhialpaaGreatDoor

/-! MX -/
namespace Go.Proofs.YtojedplbhialpaaGreatDoor
open Go.RowKit
set_option linter.unusedVariables false
set_option maxRecDepth 100000
structure LnT (l : Ln) : Prop where
  amt : amtL l = true
  p : I64 l.pieces
  b : I64 l.barred
  g : I64 l.grams
def rowB (ls : List Lev) (X : Man) (i : Nat) : List UInt8 := wordsB (ls.getD i ⟨⟨#[]⟩, 0, [], 0, 0⟩).name (wordsL (X.lines.getD i (zeroLn 0)))
def rowsB (ls : List Lev) (X : Man) (k : Nat) : List UInt8 := (List.range k).flatMap (rowB ls X)
def totalS : ByteArray := ⟨#[116, 111, 116, 97, 108]⟩
def packedS : ByteArray := ⟨#[112, 97, 99, 107, 101, 100]⟩
def packW (X : Man) : List ByteArray := [itoaB X.buns, itoaB X.tras, itoaB X.cons]
def textL (ls : List Lev) (X : Man) : List UInt8 := rowsB ls X ls.length ++ wordsB totalS (wordsL X.total) ++ wordsB packedS (packW X)
theorem rowsB_succ (ls : List Lev) (X : Man) (k : Nat) : rowsB ls X (k + 1) = rowsB ls X k ++ rowB ls X k := by
  unfold rowsB
  rw [List.range_succ, List.flatMap_append]; simp
theorem moneyB_size {c : Int} (h : amtB c = true) : (moneyB c).size ≤ 100 := by
  have hb : -1000000000000000 ≤ c ∧ c ≤ 1000000000000000 := by
    unfold amtB maxCents at h
    rw [Bool.and_eq_true, decide_eq_true_eq, decide_eq_true_eq] at h
    exact h
  have z1 : (itoaB ((c.natAbs : Int) % 100)).size ≤ 20 := itoaB_size _ (by omega) (by omega)
  have z2 : (itoaB ((c.natAbs : Int) / 100)).size ≤ 20 := itoaB_size _ (by omega) (by omega)
  unfold moneyB twoB
  generalize itoaB ((c.natAbs : Int) % 100) = a at z1
  generalize itoaB ((c.natAbs : Int) / 100) = b at z2
  have e1 : (⟨#[46]⟩ : ByteArray).size = 1 := rfl
  have e2 : (⟨#[48]⟩ : ByteArray).size = 1 := rfl
  have e3 : (if c < 0 then (⟨#[45]⟩ : ByteArray) else ⟨#[]⟩).size ≤ 1 := by split <;> decide
  generalize (if c < 0 then (⟨#[45]⟩ : ByteArray) else ⟨#[]⟩) = sg at e3
  rw [ByteArray.size_append, ByteArray.size_append, ByteArray.size_append]
  split
  · rw [ByteArray.size_append]; omega
  · omega
theorem wordsL_size {l : Ln} (h : LnT l) : ∀ r ∈ wordsL l, r.size ≤ 100 := by
  have ha := h.amt
  unfold amtL at ha
  rw [Bool.and_eq_true, Bool.and_eq_true, Bool.and_eq_true] at ha
  obtain ⟨⟨⟨a1, a2⟩, a3⟩, a4⟩ := ha
  intro r hr
  unfold wordsL at hr
  simp only [List.mem_cons, List.not_mem_nil, or_false] at hr
  rcases hr with rfl | rfl | rfl | rfl | rfl | rfl | rfl
  · have := itoaB_size _ h.p.lo h.p.hi; omega
  · have := itoaB_size _ h.b.lo h.b.hi; omega
  · have := itoaB_size _ h.g.lo h.g.hi; omega
  · exact moneyB_size a1
  · exact moneyB_size a2
  · exact moneyB_size a3
  · exact moneyB_size a4
theorem wordsB_le {f : ByteArray} {rest : List ByteArray} (hf : f.size ≤ 1000) (hr : ∀ r ∈ rest, r.size ≤ 100) (hn : rest.length ≤ 7) : (wordsB f rest).length ≤ 2000 := by
  have := restB_le hr
  have hfl : f.data.toList.length = f.size := Array.length_toList
  unfold wordsB
  rw [List.length_append, List.length_append, hfl]
  simp
  omega
theorem rowsB_le {ls : List Lev} {X : Man} (hl : X.lines.length = ls.length) (hn : ∀ l ∈ ls, l.name.size ≤ 1000) (hx : ∀ l ∈ X.lines, LnT l) : ∀ k, k ≤ ls.length → (rowsB ls X k).length ≤ k * 2000
  | 0, _ => by simp [rowsB]
  | k + 1, h => by
    have ih := rowsB_le hl hn hx k (by omega)
    rw [rowsB_succ, List.length_append]
    have : (rowB ls X k).length ≤ 2000 := by
      unfold rowB
      rw [List.getD_eq_getElem?_getD, List.getElem?_eq_getElem (by omega), List.getD_eq_getElem?_getD, List.getElem?_eq_getElem (show k < X.lines.length by omega)]
      exact wordsB_le (hn _ (List.getElem_mem _)) (wordsL_size (hx _ (List.getElem_mem _))) (Nat.le_refl _)
    omega
theorem right_name {ls : List Lev} (h : rightB ls = true) : ∀ l ∈ ls, l.name.size ≤ 1000 := by
  intro l hl
  obtain ⟨i, hi, rfl⟩ := List.mem_iff_getElem.1 hl
  obtain ⟨_, _, ⟨hs, hlv, _, _⟩, _⟩ := rightB_iff.1 h
  obtain ⟨hh, hr⟩ := levelB_iff.1 (hlv i hi hi)
  obtain ⟨hn, _⟩ := head_parts hh
  unfold nameB at hn
  simp at hn
  omega
theorem bld_carry {B b : Nat} {l : List UInt8} {w w' : World} {o : Obj} (h : BldF B b l w) (hb : Below w.heap.size w w') : BldF B b l (w'.alloc o) := h.below (hb.alloc hb.size _)
theorem pack_row (w : World) (X : Man) : RowS (w.alloc (.cells #[.string (itoaB X.buns), .string (itoaB X.tras), .string (itoaB X.cons)] 9)) (.slice (some ⟨w.heap.size, 0, none⟩) 3 3) (packW X) :=
  ⟨w.heap.size, 3, _, (0, 0), rfl, alloc_new w _, fun i hi => by
    match i, hi with
    | 0, _ => rfl
    | 1, _ => rfl
    | 2, _ => rfl⟩
set_option maxHeartbeats 32000000 in
theorem text_any {ls : List Lev} {X : Man} {vl v : Value} (w : World) (hr : RdLevs w vl ls) (hri : rightB ls = true) (hx : RdLns w v X.lines) (hl : X.lines.length = ls.length) (ht : LnT X.total) (hlt : ∀ l ∈ X.lines, LnT l)
    (hb : I64 X.buns) (htr : I64 X.tras) (hc : I64 X.cons) (htb : TabW w) :
    Calls Tryz.prog 20 #[vl, manA X v] w fun e w' => e = .returned (.tuple #[.string ⟨(textL ls X).toArray⟩, .int .i64 0]) ∧ Below w.heap.size w w' := by
  have hl6 := right_len hri
  have hnm := right_name hri
  have hLE := rowsB_le hl hnm hlt
  obtain ⟨W0, hW0⟩ : ∃ W0, W0 = w.alloc (.cells #[v, .int .i64 X.total.level, .int .i64 X.total.pieces, .int .i64 X.total.barred, .int .i64 X.total.grams, .int .i64 X.total.base, .int .i64 X.total.bar, .int .i64 X.total.saved, .int .i64 X.total.cents, .int .i64 X.buns, .int .i64 X.tras, .int .i64 X.cons] 44) := ⟨_, rfl⟩
  have hbox : W0.heap[w.heap.size]? = some (.cells #[v, .int .i64 X.total.level, .int .i64 X.total.pieces, .int .i64 X.total.barred, .int .i64 X.total.grams, .int .i64 X.total.base, .int .i64 X.total.bar, .int .i64 X.total.saved, .int .i64 X.total.cents, .int .i64 X.buns, .int .i64 X.tras, .int .i64 X.cons] 44) := by rw [hW0]; exact alloc_new w _
  have hb0 : Below w.heap.size w W0 := by rw [hW0]; exact (Below.refl _ w).alloc (Nat.le_refl _) _
  have hs0 : W0.heap.size = w.heap.size + 1 := by rw [hW0]; simp
  have HSR := Lib.hid (fun W (hW : Below w.heap.size w W) => right_any ls vl W (hr.below hW) (right_fits hri) (by unfold maxLen; omega))
  rw [hri] at HSR
  have HAT := Lib.hid (fun W => amounts_any X.total W)
  rw [ht.amt] at HAT
  unfold lnA at HAT
  obtain ⟨al, cl, rfl, hlc⟩ := hr
  obtain ⟨ax, cx, rfl, hxc⟩ := hx
  have HLC := Lib.hid hlc
  have HXC := Lib.hid hxc
  have HLT := Lib.hid hlt
  have HT := Lib.hid ht
  have HTB := Lib.hid htb
  have HW0 := Lib.hid hW0
  have HB0 := Lib.hid hb0
  have HBOX := Lib.hid hbox
  have HLX := Lib.hid hl
  have HLE := Lib.hid hLE
  have HNM := Lib.hid hnm
  have HBI := Lib.hid (And.intro hb (And.intro htr hc))
  have x0 := cell_of_row _ _ 0 _ _ _ hbox
  have x1 := cell_of_row _ _ 1 _ _ _ hbox
  have x2 := cell_of_row _ _ 2 _ _ _ hbox
  have x3 := cell_of_row _ _ 3 _ _ _ hbox
  have x4 := cell_of_row _ _ 4 _ _ _ hbox
  have x5 := cell_of_row _ _ 5 _ _ _ hbox
  have x6 := cell_of_row _ _ 6 _ _ _ hbox
  have x7 := cell_of_row _ _ 7 _ _ _ hbox
  have x8 := cell_of_row _ _ 8 _ _ _ hbox
  have hlx6 : X.lines.length ≤ 6 := by omega
  have hne : ((X.lines.length : Int) != (ls.length : Int)) = false := by rw [hl]; simp
  clear hlc hxc hlt ht htb hW0 hb0 hbox hLE hnm hb htr hc hri hl x0 x1 x2 x3 x4 x5 x6 x7 x8
  unfold manA
  go_enter Tryz.func20, Tryz.ntmps20
  go_wp2_with fail
  rw [← HW0.out]
  refine (HSR.out _ HB0.out).mono ?_
  rintro e w1 ⟨rfl, hb1⟩
  have hs1 := hb1.size
  have k1 := (hb1.block w.heap.size (by omega)).trans HBOX.out
  have x0 := cell_of_row _ _ 0 _ _ _ k1
  have x1 := cell_of_row _ _ 1 _ _ _ k1
  have x2 := cell_of_row _ _ 2 _ _ _ k1
  have x3 := cell_of_row _ _ 3 _ _ _ k1
  have x4 := cell_of_row _ _ 4 _ _ _ k1
  have x5 := cell_of_row _ _ 5 _ _ _ k1
  have x6 := cell_of_row _ _ 6 _ _ _ k1
  have x7 := cell_of_row _ _ 7 _ _ _ k1
  have x8 := cell_of_row _ _ 8 _ _ _ k1
  have HB1 := Lib.hid (below_c HB0.out HB0.out.size hb1)
  have K1 := Lib.hid k1
  clear k1 hb1
  go_wp2_with (go_at_call 52; refine (HAT.out _).mono ?_; rintro e w2 ⟨rfl, hb2⟩; have k2 := (hb2.block w.heap.size (by omega)).trans K1.out; have y0 := cell_of_row _ _ 0 _ _ _ k2; have K2 := Lib.hid k2; have hs2 := hb2.size; have HB2 := Lib.hid (below_c HB1.out HB1.out.size hb2); clear k2 hb2 x0 x1 x2 x3 x4 x5 x6 x7 x8 K1)
  go_loopw [32] (fun i wr => ∃ k : Nat, k ≤ X.lines.length ∧ i = .int .i64 k ∧ Below w2.heap.size w2 wr) (fun i _ => X.lines.length - (intOf i).toNat)
  case atStart => exact ⟨0, Nat.zero_le _, rfl, Below.refl _ _⟩
  case round =>
    obtain ⟨k, hk, rfl, hb⟩ := hrel
    have HB := Lib.hid hb
    have hsz := hb.size
    by_cases hlt : k < X.lines.length
    · obtain ⟨g, off, rfl, hg, hcell⟩ := HXC.out (by omega)
      have hB := below_c HB2.out HB2.out.size hb
      have hc := hcell k hlt
      have hlk := HLT.out _ (List.getElem_mem hlt)
      generalize X.lines[k] = x at hc hlk
      have c0 := (hB.cell (p := ⟨g, off + k * 8, none⟩) hg).trans (hc 0 _ rfl)
      have c1 := (hB.cell (p := ⟨g, off + k * 8 + 1, none⟩) hg).trans (hc 1 _ rfl)
      have c2 := (hB.cell (p := ⟨g, off + k * 8 + 2, none⟩) hg).trans (hc 2 _ rfl)
      have c3 := (hB.cell (p := ⟨g, off + k * 8 + 3, none⟩) hg).trans (hc 3 _ rfl)
      have c4 := (hB.cell (p := ⟨g, off + k * 8 + 4, none⟩) hg).trans (hc 4 _ rfl)
      have c5 := (hB.cell (p := ⟨g, off + k * 8 + 5, none⟩) hg).trans (hc 5 _ rfl)
      have c6 := (hB.cell (p := ⟨g, off + k * 8 + 6, none⟩) hg).trans (hc 6 _ rfl)
      have c7 := (hB.cell (p := ⟨g, off + k * 8 + 7, none⟩) hg).trans (hc 7 _ rfl)
      have hgr : g < wr.heap.size := by have := hB.size; omega
      have HAX := Lib.hid (fun W => amounts_any x W)
      rw [hlk.amt] at HAX
      unfold lnA at HAX
      clear hcell hc hlk hB hb HAT y0 HTB HSR HBI HLC HXC
      go_wp2_with (go_at_call 52; refine (HAX.out _).mono ?_; rintro e w3 ⟨rfl, hb3⟩; have HB3 := Lib.hid (below_c (HB.out.alloc HB.out.size _) (by simp; omega) hb3); clear hb3)
      go_roundw
      case rel => exact ⟨k + 1, by omega, by go_num, HB3.out⟩
      case measure => simp [intOf]; omega
    · obtain rfl : k = X.lines.length := by omega
      obtain ⟨w3, hw3⟩ : ∃ x, x = wr := ⟨wr, rfl⟩
      subst hw3
      have k3 := (hb.block w.heap.size (by omega)).trans K2.out
      have hBw : Below w.heap.size w w3 := below_c HB2.out HB2.out.size hb
      have hbx := Below.refl w3.heap.size w3
      have hbn := hbx.alloc (Nat.le_refl _) (.cells #[.pointer none, .slice none 0 0] 125)
      have k4 := (hbn.block w.heap.size (by omega)).trans k3
      have x0 := cell_of_row _ _ 0 _ _ _ k4
      have HBW := Lib.hid hBw
      have HBN := Lib.hid hbn
      have K3 := Lib.hid k3
      have hBD := bld_new w3
      have HBD := Lib.hid hBD
      have hws : w.heap.size + 1 ≤ w3.heap.size := by omega
      clear k3 k4 hb HB HB2 HB1 HB0 K2 hBw hbx hbn hBD y0 hlt HAT
      have HSZ : Hid (w3.heap.size + 1 ≤ (w3.alloc (.cells #[.pointer none, .slice none 0 0] 125)).heap.size) := by show _ ≤ _; simp
      go_wp2_with fail
      go_loopw [44] (fun i wr => ∃ k : Nat, k ≤ X.lines.length ∧ i = .int .i64 k ∧ Below w3.heap.size w3 wr ∧ w3.heap.size + 1 ≤ wr.heap.size ∧ BldF w3.heap.size w3.heap.size (rowsB ls X k) wr) (fun i _ => X.lines.length - (intOf i).toNat)
      case atStart => exact ⟨0, Nat.zero_le _, rfl, HBN.out, HSZ.out, HBD.out⟩
      case round =>
        clear HBN HBD HSZ x0
        obtain ⟨k, hk, rfl, hb, hsz3, hbd⟩ := hrel
        have HB := Lib.hid hb
        have HBD := Lib.hid hbd
        have hBw := below_c HBW.out HBW.out.size hb
        by_cases hlt : k < X.lines.length
        · obtain ⟨g, off, rfl, hg, hcell⟩ := HXC.out (by omega)
          have hc := hcell k hlt
          have hlk := HLT.out _ (List.getElem_mem hlt)
          have hkl : k < ls.length := by rw [← HLX.out]; exact hlt
          obtain ⟨gl, ol, rfl, hgl, hlc⟩ := HLC.out (by omega)
          obtain ⟨lv, _, hlat⟩ := hlc k hkl
          have hnk := HNM.out _ (List.getElem_mem hkl)
          have hle := HLE.out k (by omega)
          have hrow : rowsB ls X (k + 1) = rowsB ls X k ++ wordsB ls[k].name (wordsL X.lines[k]) := by
            rw [rowsB_succ]
            unfold rowB
            rw [List.getD_eq_getElem?_getD, List.getElem?_eq_getElem hkl, List.getD_eq_getElem?_getD, List.getElem?_eq_getElem hlt]; rfl
          have n0 := (hBw.cell (p := ⟨gl, ol + k * 5, none⟩) hgl).trans hlat.1
          have n0w := hlat.1
          have hglr : gl < wr.heap.size := by have := hBw.size; omega
          have hgr : g < wr.heap.size := by have := hBw.size; omega
          generalize ls[k].name = nm at n0 n0w hnk hrow
          generalize X.lines[k] = x at hc hlk hrow
          have c0 := (hBw.cell (p := ⟨g, off + k * 8, none⟩) hg).trans (hc 0 _ rfl)
          have c1 := (hBw.cell (p := ⟨g, off + k * 8 + 1, none⟩) hg).trans (hc 1 _ rfl)
          have c2 := (hBw.cell (p := ⟨g, off + k * 8 + 2, none⟩) hg).trans (hc 2 _ rfl)
          have c3 := (hBw.cell (p := ⟨g, off + k * 8 + 3, none⟩) hg).trans (hc 3 _ rfl)
          have c4 := (hBw.cell (p := ⟨g, off + k * 8 + 4, none⟩) hg).trans (hc 4 _ rfl)
          have c5 := (hBw.cell (p := ⟨g, off + k * 8 + 5, none⟩) hg).trans (hc 5 _ rfl)
          have c6 := (hBw.cell (p := ⟨g, off + k * 8 + 6, none⟩) hg).trans (hc 6 _ rfl)
          have c7 := (hBw.cell (p := ⟨g, off + k * 8 + 7, none⟩) hg).trans (hc 7 _ rfl)
          have HNB := Lib.hid (fun W (hW : Below w.heap.size w W) => lwords_any x W hlk.amt hlk.p hlk.b hlk.g (HTB.out.below hW))
          have HT1 := Lib.hid (fun (l : List UInt8) (v : Value) (W : World) (h1 : BldF w3.heap.size w3.heap.size l W) (h2 : w3.heap.size ≤ W.heap.size) (h3 : l.length ≤ 1000000000) (h4 : RowS W v (wordsL x)) => text1_any w3.heap.size w3.heap.size l nm (wordsL x) v W h1 h2 h3 hnk (wordsL_size hlk) (show 7 ≤ 100 by decide) h4)
          have HROW := Lib.hid hrow
          have HLE2 : Hid ((rowsB ls X k).length ≤ 1000000000) := by show _ ≤ _; omega
          unfold lnA at HNB
          have HBR := Lib.hid hBw
          obtain ⟨W4, hW4⟩ : ∃ W4, W4 = wr.alloc (.cells #[.int .i64 x.level, .int .i64 x.pieces, .int .i64 x.barred, .int .i64 x.grams, .int .i64 x.base, .int .i64 x.bar, .int .i64 x.saved, .int .i64 x.cents] 42) := ⟨_, rfl⟩
          have hln : W4.heap[wr.heap.size]? = some (.cells #[.int .i64 x.level, .int .i64 x.pieces, .int .i64 x.barred, .int .i64 x.grams, .int .i64 x.base, .int .i64 x.bar, .int .i64 x.saved, .int .i64 x.cents] 42) := by rw [hW4]; exact alloc_new wr _
          have HW4 := Lib.hid hW4
          have hbr4 : Below wr.heap.size wr W4 := by rw [hW4]; exact (Below.refl _ wr).alloc (Nat.le_refl _) _
          have hs4 : W4.heap.size = wr.heap.size + 1 := by rw [hW4]; simp
          have HLN := Lib.hid hln
          have hkk : ∀ w', Below w.heap.size w w' → w'.heap[wr.heap.size]? = W4.heap[wr.heap.size]? → w'.cell? ⟨gl, ol + k * 5, none⟩ = some (.string nm) ∧ w'.cell? ⟨wr.heap.size, 0, none⟩ = some (.int .i64 x.level) ∧ w'.cell? ⟨wr.heap.size, 1, none⟩ = some (.int .i64 x.pieces) ∧ w'.cell? ⟨wr.heap.size, 2, none⟩ = some (.int .i64 x.barred) ∧ w'.cell? ⟨wr.heap.size, 3, none⟩ = some (.int .i64 x.grams) ∧ w'.cell? ⟨wr.heap.size, 4, none⟩ = some (.int .i64 x.base) ∧ w'.cell? ⟨wr.heap.size, 5, none⟩ = some (.int .i64 x.bar) ∧ w'.cell? ⟨wr.heap.size, 6, none⟩ = some (.int .i64 x.saved) ∧ w'.cell? ⟨wr.heap.size, 7, none⟩ = some (.int .i64 x.cents) := fun w' h1 h2 => by
            have h3 := h2.trans hln
            exact ⟨(h1.cell (p := ⟨gl, ol + k * 5, none⟩) hgl).trans n0w, cell_of_row _ _ 0 _ _ _ h3, cell_of_row _ _ 1 _ _ _ h3, cell_of_row _ _ 2 _ _ _ h3, cell_of_row _ _ 3 _ _ _ h3, cell_of_row _ _ 4 _ _ _ h3, cell_of_row _ _ 5 _ _ _ h3, cell_of_row _ _ 6 _ _ _ h3, cell_of_row _ _ 7 _ _ _ h3⟩
          have HKK := Lib.hid hkk
          have HW4w : Hid (Below w.heap.size w W4) := below_c hBw hBw.size hbr4
          have HBD4 : Hid (BldF w3.heap.size w3.heap.size (rowsB ls X k) W4) := hbd.below hbr4
          have hgl4 : gl < W4.heap.size := by omega
          have HBR4 := Lib.hid hbr4
          have hl6' := hsz3
          clear hcell hc hlk hlc hlat hnk hle hrow hbd hb hBw hW4 hln hbr4 hkk n0 n0w HSR HBI HXC HLC HLT HT HNM HLX HLE K3
          go_wp2_with fail
          rw [← HW4.out]
          go_region_held3 (fun w' => w'.cell? ⟨gl, ol + k * 5, none⟩ = some (.string nm) ∧ w'.cell? ⟨wr.heap.size, 0, none⟩ = some (.int .i64 x.level) ∧ w'.cell? ⟨wr.heap.size, 1, none⟩ = some (.int .i64 x.pieces) ∧ w'.cell? ⟨wr.heap.size, 2, none⟩ = some (.int .i64 x.barred) ∧ w'.cell? ⟨wr.heap.size, 3, none⟩ = some (.int .i64 x.grams) ∧ w'.cell? ⟨wr.heap.size, 4, none⟩ = some (.int .i64 x.base) ∧ w'.cell? ⟨wr.heap.size, 5, none⟩ = some (.int .i64 x.bar) ∧ w'.cell? ⟨wr.heap.size, 6, none⟩ = some (.int .i64 x.saved) ∧ w'.cell? ⟨wr.heap.size, 7, none⟩ = some (.int .i64 x.cents))
            (first
              | exact HKK.out _ HW4w.out.drew rfl
              | exact HKK.out _ HB6w.out HL6.out
              | exact HKK.out _ HB5w.out HL5.out)
            (first
              | (go_at_call 56; refine (HNB.out _ HW4w.out.drew).mono ?_; rintro e w5 ⟨v5, rfl, hb5, ho5⟩; obtain ⟨g5, cap5, rfl⟩ := Joins.ownsRow_form ho5 (by decide); have hb5' : Below W4.heap.size W4 w5 := (Below.refl _ W4).drew.trans hb5; have HB5w := Lib.hid (below_c HW4w.out HW4w.out.size hb5'); have HL5 := Lib.hid (hb5'.block wr.heap.size (by omega)); have HBD5 := Lib.hid (HBD4.out.below hb5'); have HRS5 := Lib.hid (RowS.of_own (rest := wordsL x) ho5 (show 0 < 7 by decide)); have hs5 := hb5'.size; have HB54 := Lib.hid hb5'; clear hb5 ho5 hb5')
              | (go_at_call 53; refine (HT1.out _ _ _ HBD5.out (by omega) HLE2.out HRS5.out).mono ?_; rintro e w6 ⟨rfl, hb6, hbe6, hk6⟩; have hs6 := hbe6.size; have HB6w := Lib.hid (HB5w.out.trans (hbe6.mono (by omega))); have HL6 : Hid (w6.heap[wr.heap.size]? = W4.heap[wr.heap.size]?) := (hk6 _ _ (HL5.out.trans HLN.out) (by intro e; injection e; omega) (by intro c fz e; injection e with _ e _; exact absurd e (by decide))).trans HLN.out.symm; have HBD6 := Lib.hid hb6; have HBE6 := Lib.hid hbe6; clear hb6 hbe6 hk6))
          go_wp2_with fail
          go_roundw
          case rel =>
            refine ⟨k + 1, by omega, by go_num, ?_, by omega, ?_⟩
            · have h1 : Below w3.heap.size w3 W4 := below_c HB.out HB.out.size HBR4.out
              exact (below_c h1 h1.size HB54.out).trans HBE6.out
            · rw [HROW.out]
              exact HBD6.out
          case measure => simp [intOf]; omega
        · obtain rfl : k = X.lines.length := by omega
          have hk1 := (hb.block w.heap.size (by omega)).trans K3.out
          have x1 := cell_of_row _ _ 1 _ _ _ hk1
          have x2 := cell_of_row _ _ 2 _ _ _ hk1
          have x3 := cell_of_row _ _ 3 _ _ _ hk1
          have x4 := cell_of_row _ _ 4 _ _ _ hk1
          have x5 := cell_of_row _ _ 5 _ _ _ hk1
          have x6 := cell_of_row _ _ 6 _ _ _ hk1
          have x7 := cell_of_row _ _ 7 _ _ _ hk1
          have x8 := cell_of_row _ _ 8 _ _ _ hk1
          have HKK : Hid (∀ w', Below w3.heap.size w3 w' → w'.cell? ⟨w.heap.size, 9, none⟩ = some (.int .i64 X.buns) ∧ w'.cell? ⟨w.heap.size, 10, none⟩ = some (.int .i64 X.tras) ∧ w'.cell? ⟨w.heap.size, 11, none⟩ = some (.int .i64 X.cons)) := fun w' h => by
            have h3 := (h.block w.heap.size (by omega)).trans K3.out
            exact ⟨cell_of_row _ _ 9 _ _ _ h3, cell_of_row _ _ 10 _ _ _ h3, cell_of_row _ _ 11 _ _ _ h3⟩
          have hle := HLE.out X.lines.length (by rw [HLX.out]; exact Nat.le_refl _)
          have HLE2 : Hid ((rowsB ls X X.lines.length).length ≤ 1000000000) := by show _ ≤ _; omega
          have hlk := HT.out
          have hwt : (wordsB totalS (wordsL X.total)).length ≤ 2000 := wordsB_le (by decide) (wordsL_size hlk) (Nat.le_refl _)
          have HLE3 : Hid ((rowsB ls X X.lines.length ++ wordsB totalS (wordsL X.total)).length ≤ 1000000000) := by show _ ≤ _; rw [List.length_append]; omega
          obtain ⟨b1, b2, b3⟩ := HBI.out
          have hpz : ∀ r ∈ packW X, r.size ≤ 100 := by
            intro r hr
            unfold packW at hr
            simp only [List.mem_cons, List.not_mem_nil, or_false] at hr
            rcases hr with rfl | rfl | rfl
            · have := itoaB_size _ b1.lo b1.hi; omega
            · have := itoaB_size _ b2.lo b2.hi; omega
            · have := itoaB_size _ b3.lo b3.hi; omega
          have HNB := Lib.hid (fun W (hW : Below w.heap.size w W) => lwords_any X.total W hlk.amt hlk.p hlk.b hlk.g (HTB.out.below hW))
          have HT1 := Lib.hid (fun (l : List UInt8) (v : Value) (W : World) (h1 : BldF w3.heap.size w3.heap.size l W) (h2 : w3.heap.size ≤ W.heap.size) (h3 : l.length ≤ 1000000000) (h4 : RowS W v (wordsL X.total)) => text1_any w3.heap.size w3.heap.size l totalS (wordsL X.total) v W h1 h2 h3 (by decide) (wordsL_size hlk) (show 7 ≤ 100 by decide) h4)
          have HT2 := Lib.hid (fun (l : List UInt8) (v : Value) (W : World) (h1 : BldF w3.heap.size w3.heap.size l W) (h2 : w3.heap.size ≤ W.heap.size) (h3 : l.length ≤ 1000000000) (h4 : RowS W v (packW X)) => text1_any w3.heap.size w3.heap.size l packedS (packW X) v W h1 h2 h3 (by decide) hpz (show 3 ≤ 100 by decide) h4)
          have HI1 := Lib.hid (fun W (hW : Below w.heap.size w W) => itoa_any X.buns W b1.lo b1.hi (HTB.out.below hW))
          have HI2 := Lib.hid (fun W (hW : Below w.heap.size w W) => itoa_any X.tras W b2.lo b2.hi (HTB.out.below hW))
          have HI3 := Lib.hid (fun W (hW : Below w.heap.size w W) => itoa_any X.cons W b3.lo b3.hi (HTB.out.below hW))
          unfold lnA at HNB
          unfold totalS at HT1
          unfold packedS at HT2
          have HBR := Lib.hid hBw
          have HBW3 := HBW
          have hw3s : w.heap.size ≤ w3.heap.size := by omega
          clear hb hbd hk1 hle hlk hwt b1 b2 b3 hpz HSR HXC HLC HLT HNM K3 HBW
          go_wp2_with (first
            | (go_at_call 53; refine (HT1.out _ _ _ HBD5.out (by omega) HLE2.out HRS5.out).mono ?_; rintro e w6 ⟨rfl, hb6, hbe6, hk6⟩; have hs6 := hbe6.size; have HB6w := Lib.hid ((below_c HB.out HB.out.size HB54.out).trans hbe6); have HBD6 := Lib.hid hb6; clear hb6 hbe6 hk6)
            | (go_at_call 56; refine (HNB.out _ HBR.out).mono ?_; rintro e w5 ⟨v5, rfl, hb5, ho5⟩; obtain ⟨g5, cap5, rfl⟩ := Joins.ownsRow_form ho5 (by decide); have HBD5 := Lib.hid (HBD.out.below hb5); have HRS5 := Lib.hid (RowS.of_own (rest := wordsL X.total) ho5 (show 0 < 7 by decide)); have hs5 := hb5.size; have HB54 := Lib.hid hb5; clear hb5 ho5 x1 x2 x3 x4 x5 x6 x7 x8))
          have HB6W := Lib.hid (HBW3.out.trans (HB6w.out.mono hw3s))
          have HW6 := Lib.hid HB6w.out.size
          go_region_held3 (fun w' => w'.cell? ⟨w.heap.size, 9, none⟩ = some (.int .i64 X.buns) ∧ w'.cell? ⟨w.heap.size, 10, none⟩ = some (.int .i64 X.tras) ∧ w'.cell? ⟨w.heap.size, 11, none⟩ = some (.int .i64 X.cons))
            (first
              | exact HKK.out _ HB6w.out.drew
              | exact HKK.out _ (HB6w.out.trans HBT.out)
              | exact HKK.out _ (HB6w.out.trans ((HBC.out.alloc HBC.out.size _).mono HW6.out))
              | exact HKK.out _ (HB6w.out.trans (HBC.out.mono HW6.out))
              | exact HKK.out _ (HB6w.out.trans (HBB.out.mono HW6.out))
              | exact HKK.out _ (HB6w.out.trans (HBA.out.mono HW6.out)))
            (first
              | (go_at_call 57; (with_reducible refine (HI3.out _ (below_c HB6W.out HB6W.out.size HBB.out)).mono ?_); rintro e wC ⟨rfl, hbC⟩; have HBC := Lib.hid (below_c HBB.out HBB.out.size hbC); clear hbC; have hsC := HBC.out.size; have HBTC := Lib.hid (bld_carry (o := .cells #[.string (itoaB X.buns), .string (itoaB X.tras), .string (itoaB X.cons)] 9) HBD6.out HBC.out); have HROWC := Lib.hid (pack_row wC X))
              | (go_at_call 57; (with_reducible refine (HI2.out _ (below_c HB6W.out HB6W.out.size HBA.out)).mono ?_); rintro e wB ⟨rfl, hbB⟩; have HBB := Lib.hid (below_c HBA.out HBA.out.size hbB); clear hbB)
              | (go_at_call 57; (with_reducible refine (HI1.out _ HB6W.out.drew).mono ?_); rintro e wA ⟨rfl, hbA⟩; have hA2 : Below w6.heap.size w6 wA := (Below.refl _ w6).drew.trans hbA; have HBA := Lib.hid hA2; clear hbA hA2)
              | (go_at_call 53; refine (HT2.out _ _ _ HBTC.out (by simp; omega) HLE3.out HROWC.out).mono ?_; rintro e w7 ⟨rfl, hb7, hbe7, hk7⟩; have HBD7 := Lib.hid hb7; have hT2 : Below w3.heap.size w6 w7 := ((HBC.out.alloc HBC.out.size _).mono HW6.out).trans hbe7; have HBT := Lib.hid hT2; clear hT2; have hs7 := hbe7.size; clear hb7 hbe7 hk7))
          have HTX : Hid (textL ls X = rowsB ls X X.lines.length ++ wordsB totalS (wordsL X.total) ++ wordsB packedS (packW X)) := by show _ = _; unfold textL; rw [HLX.out]
          have hSTR := builderString_any w3.heap.size w3.heap.size (textL ls X) w7 (by rw [HTX.out]; exact HBD7.out) (Nat.le_trans HW6.out HBT.out.size)
          have HSTR := Lib.hid hSTR
          clear hSTR HKK HNB HT1 HT2 HI1 HI2 HI3
          go_wp2_with (go_at_call 58; refine HSTR.out.mono ?_; rintro e w8 ⟨rfl, hb8⟩; have HB8 := Lib.hid hb8; clear hb8)
          go_ret2
          exact ⟨rfl, HBW3.out.trans (((HB6w.out.trans HBT.out).trans HB8.out).mono hw3s)⟩
end Go.Proofs.YtojedplbhialpaaGreatDoor

/-! M5 -/
namespace Go.Proofs.YtojedplbhialpaaGreatDoor
open Go.RowKit
set_option linter.unusedVariables false
set_option maxRecDepth 100000
def endsB (Gs : List Grp) (j : Nat) : Bool := if h : j + 1 < Gs.length then decide (Gs[j + 1].lvl ≠ (Gs[j]'(by omega)).lvl) else true
theorem ends_iffB (Gs : List Grp) (j : Nat) : endsL Gs j ↔ endsB Gs j = true := by
  unfold endsL endsB
  by_cases h : j + 1 < Gs.length
  · rw [dif_pos h, decide_eq_true_eq]; exact ⟨fun H => H h, fun H _ => H⟩
  · rw [dif_neg h]; exact ⟨fun _ => rfl, fun _ h' => absurd h' h⟩
def pkStepD (k : Pck) (ps : List Pce) (zs : List Int) (Gs : List Grp) (st : PkS) (j : Nat) : PkS :=
  if hj : j < Gs.length then
    let bs := st.buns ++ bunsOf k ps zs Gs[j]
    let ts := st.tras ++ (shareR st.buns.length bs.length k.bundles.toNat).map (fun l => ⟨Gs[j].lvl, Gs[j].name, l⟩)
    if endsB Gs j = true then ⟨bs, ts, st.cons ++ (shareR st.beg ts.length k.trays.toNat).map (fun l => ⟨Gs[j].lvl, l⟩), ts.length⟩ else ⟨bs, ts, st.cons, st.beg⟩
  else st
theorem pkStep_eq (k : Pck) (ps : List Pce) (zs : List Int) (Gs : List Grp) : pkStep k ps zs Gs = pkStepD k ps zs Gs := by
  funext st j
  unfold pkStep pkStepD
  by_cases hj : j < Gs.length
  · rw [dif_pos hj, dif_pos hj]
    dsimp only
    by_cases h : endsL Gs j
    · rw [if_pos h, if_pos ((ends_iffB Gs j).1 h)]
    · rw [if_neg h, if_neg (fun h' => h ((ends_iffB Gs j).2 h'))]
  · rw [dif_neg hj, dif_neg hj]
def pkToD (k : Pck) (ps : List Pce) (zs : List Int) (Gs : List Grp) (n : Nat) : PkS := (List.range n).foldl (pkStepD k ps zs Gs) ⟨[], [], [], 0⟩
theorem pkTo_eq (k : Pck) (ps : List Pce) (zs : List Int) (Gs : List Grp) (n : Nat) : pkTo k ps zs Gs n = pkToD k ps zs Gs n := by unfold pkTo pkToD; rw [pkStep_eq]
def c100 : ByteArray := ⟨#[49, 48, 48]⟩
def c200 : ByteArray := ⟨#[50, 48, 48]⟩
def exS : List Lev := [⟨⟨#[51]⟩, 3, [], 2, 5⟩, ⟨⟨#[97, 108, 108]⟩, 0, [], 0, 0⟩]
def exMl : Mai := ⟨1, 1, ⟨#[49, 48, 48, 50, 51]⟩, [⟨1, 0, c100, 10, true⟩, ⟨2, 0, c100, 10, false⟩, ⟨3, 0, c200, 10, false⟩]⟩
def exPl : List Int := [0, 0, 1]
def exK : Pck := ⟨10, 1000, 10, 10⟩
def exG : List Grp := [⟨0, c100, 2, [0, 1]⟩, ⟨0, c200, 2, [2]⟩, ⟨1, ⟨#[]⟩, -1, [0, 1, 2]⟩]
theorem exG_eq : gAll exS (codesM exMl.ps) exS.length = exG := by kernel_rfl
theorem exS_right : rightB exS = true := by rw [rightB_eq]; kernel_rfl
theorem exM_mail : mailB exMl = true := by kernel_rfl
theorem ex_has : HasPlan exS exMl := by
  refine ⟨exS_right, exM_mail, ⟨by decide, by decide, by decide, by decide⟩, by decide, fun l hl c hc => ?_⟩
  have hl' : l.pre ≤ 3 := by
    have h : l = exS[0] ∨ l = exS[1] := by simpa [exS] using hl
    rcases h with rfl | rfl <;> decide
  have hc' : c.size = 3 := by
    have h : c = c100 ∨ c = c100 ∨ c = c200 := by simpa [exMl, codesM] using hc
    rcases h with rfl | rfl | rfl <;> rfl
  omega
theorem ex_nums : numsB exS.length exPl = true := by kernel_rfl
theorem ex_valid : validR exS exMl exPl = (true, 0) := by
  rw [validR_eq ex_has.right ex_has.mail ex_has.pre rfl ex_nums, exG_eq]
  have : grpsOkB exS exPl exG = true := by kernel_rfl
  rw [this]
theorem ex_all : allR exS exMl exPl exK = 0 := by
  unfold allR
  rw [ex_valid, if_pos rfl, if_pos ⟨rfl, by kernel_rfl⟩]
def exLod : Lod := ⟨[⟨0, c100, [1, 2], 20⟩, ⟨1, ⟨#[]⟩, [3], 10⟩], [⟨0, c100, [0]⟩, ⟨1, ⟨#[]⟩, [1]⟩], [⟨0, [0]⟩, ⟨1, [1]⟩]⟩
theorem ex_lod : lodP exK exMl.ps exPl exG = exLod := by unfold lodP; rw [pkTo_eq]; kernel_rfl
def exRt : Rat := ⟨1, [⟨20, [100, 150]⟩, ⟨50, [120, 200]⟩], 10⟩
def exMan : Man := ⟨[⟨0, 2, 1, 20, 200, 10, 10, 180⟩, ⟨1, 1, 0, 10, 150, 0, 0, 150⟩], ⟨2, 3, 1, 30, 350, 10, 10, 330⟩, 2, 2, 2⟩
theorem ex_base : ∀ i, i < 3 → (pricedR exT exRt exMl i) = ([100, 100, 150].getD i 0, 0) := by
  intro i hi
  match i, hi with
  | 0, _ => show _ = _; kernel_rfl
  | 1, _ => show _ = _; kernel_rfl
  | 2, _ => show _ = _; kernel_rfl
theorem ex_man : manOf exPl (pcLn exMl 10 (fun i => (pricedR exT exRt exMl i).1) (postR exT exRt exS exMl exPl) exS exPl) 3 2 2 2 2 = exMan := by kernel_rfl
theorem ex_text : textL exS exMan = [51, 32, 50, 32, 49, 32, 50, 48, 32, 50, 46, 48, 48, 32, 48, 46, 49, 48, 32, 48, 46, 49, 48, 32, 49, 46, 56, 48, 10, 97, 108, 108, 32, 49, 32, 48, 32, 49, 48, 32, 49, 46, 53, 48, 32, 48, 46, 48, 48, 32, 48, 46, 48, 48, 32, 49, 46, 53, 48, 10, 116, 111, 116, 97, 108, 32, 51, 32, 49, 32, 51, 48, 32, 51, 46, 53, 48, 32, 48, 46, 49, 48, 32, 48, 46, 49, 48, 32, 51, 46, 51, 48, 10, 112, 97, 99, 107, 101, 100, 32, 50, 32, 50, 32, 50, 10] := by kernel_rfl
theorem exRt_ok : RatOk 2 exRt := by
  refine ⟨by decide, by decide, fun i hi => ?_, fun s hs => ?_⟩
  · have hi2 : i < 2 := hi
    match i, hi2 with
    | 0, _ => decide
    | 1, _ => decide
  · have h : s = ⟨20, [100, 150]⟩ ∨ s = ⟨50, [120, 200]⟩ := by simpa [exRt] using hs
    rcases h with rfl | rfl
    · exact ⟨rfl, by decide⟩
    · exact ⟨rfl, by decide⟩
theorem exT_ok : TarOk 2 exT := by
  refine ⟨by decide, by decide, by decide, ?_, ?_, ?_, ?_, ?_, ?_⟩
  · intro r hr s hs
    have h : r = exRt := by simpa [exT, exRt] using hr.symm
    subst h
    have h : s = ⟨20, [100, 150]⟩ := by simpa [exRt] using hs.symm
    subst h
    rfl
  · intro r hr
    have h : r = exRt := by simpa [exT, exRt] using hr
    subst h
    exact ⟨by decide, by decide, exRt_ok⟩
  · exact List.pairwise_singleton _ _
  · intro r hr
    have h : r = ⟨⟨#[]⟩, ⟨#[]⟩, 2⟩ ∨ r = ⟨⟨#[49]⟩, ⟨#[49]⟩, 1⟩ := by simpa [exT] using hr
    rcases h with rfl | rfl
    · exact ⟨.inl rfl, .inl rfl, by decide, by decide⟩
    · exact ⟨.inr (by decide), .inr (by decide), by decide, by decide⟩
  · show List.Pairwise _ [_, _]
    refine List.Pairwise.cons (fun r hr h => ?_) (List.pairwise_singleton _ _)
    have h2 : r = ⟨⟨#[49]⟩, ⟨#[49]⟩, 1⟩ := by simpa using hr
    subst h2
    exact absurd h.1 (by decide)
  · exact ⟨_, List.mem_cons_self, rfl, rfl⟩
theorem exT_fit : FitT 100 10 5 exT exS := by
  refine ⟨by decide, ?_, ?_, ?_⟩
  · intro r hr s hs
    have h : r = exRt := by simpa [exT, exRt] using hr
    subst h
    have h : s = ⟨20, [100, 150]⟩ ∨ s = ⟨50, [120, 200]⟩ := by simpa [exRt] using hs
    rcases h with rfl | rfl <;> decide
  · intro r hr
    have h : r = exRt := by simpa [exT, exRt] using hr
    subst h
    decide
  · intro l hl
    have h : l = exS[0] ∨ l = exS[1] := by simpa [exS] using hl
    rcases h with rfl | rfl <;> decide
end Go.Proofs.YtojedplbhialpaaGreatDoor
