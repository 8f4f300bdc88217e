/-
  limits: the walk.
-/
import Derived.Test.YtdcpmnkebhilpaaGreatDoorS3
import Derived.Test.YtdcpmnkebhilpaaGreatDoorAlw
import Derived.Deep.RegionWith
import Derived.Deep.DeepCutAuto
namespace Go.Proofs.YtdcpmnkebhilpaaGreatDoor
open Go.RowKit Go.Shelf Go.Sort
set_option linter.unusedVariables false
set_option maxRecDepth 100000
theorem rep_any (s : ByteArray) (c : Nat) (w : World) (hs : s.size ≤ 100) (hc : c ≤ 1000) (ha : ∀ b ∈ s.data.toList, b.toNat < 128) :
    Calls Tryz.prog 28 #[.string s, .int .i64 (c : Nat)] w fun e w' => ∃ t : ByteArray, e = .returned (.string t) ∧ t.size = c * s.size ∧ (∀ b ∈ t.data.toList, b.toNat < 128) ∧ Below w.heap.size w w' := by
  refine (repeat_any s c w hs hc).mono ?_
  rintro e w' ⟨rfl, hb⟩
  exact ⟨_, rfl, repeat_size s c, repeat_ascii _ ha c, hb⟩
def abS : ByteArray := ⟨#[65, 32]⟩
theorem cut_facts (n : Nat) (h4 : 4 ≤ n) (h9 : n < 9) : n ≤ Lib.countB (⟨(Lib.repeatL abS.data.toList n).toArray⟩ : ByteArray) ⟨#[32]⟩ + 1 ∧ Lib.countB (⟨(Lib.repeatL abS.data.toList n).toArray⟩ : ByteArray) ⟨#[32]⟩ ≤ 100 ∧
    (Lib.splitB ⟨#[32]⟩ 0 (Lib.countB (⟨(Lib.repeatL abS.data.toList n).toArray⟩ : ByteArray) ⟨#[32]⟩) ⟨(Lib.repeatL abS.data.toList n).toArray⟩).length = Lib.countB (⟨(Lib.repeatL abS.data.toList n).toArray⟩ : ByteArray) ⟨#[32]⟩ + 1 := by
  rcases (by omega : n = 4 ∨ n = 5 ∨ n = 6 ∨ n = 7 ∨ n = 8) with rfl | rfl | rfl | rfl | rfl
  all_goals exact ⟨of_decide_eq_true (by kernel_rfl), of_decide_eq_true (by kernel_rfl), by kernel_rfl⟩
/-- Blanks between words: the parts. -/
theorem splitA (n : Nat) (h4 : 4 ≤ n) (h9 : n < 9) {m : Int} {w : World} (h : MxW m w) :
    Calls Tryz.prog 29 #[.string ⟨(Lib.repeatL abS.data.toList n).toArray⟩, .string ⟨#[32]⟩] w fun e w' => ∃ P : List ByteArray, n ≤ P.length ∧ P.length ≤ 1000 ∧ (∀ b ∈ P, b.size ≤ 1000) ∧ e = .returned (.slice (some ⟨w.heap.size, 0, none⟩) P.length P.length) ∧ w' = w.alloc (.cells (P.map Value.string).toArray 9) := by
  obtain ⟨c1, c2, c3⟩ := cut_facts n h4 h9
  have hz : (⟨(Lib.repeatL abS.data.toList n).toArray⟩ : ByteArray).size ≤ 100 := by rw [repeat_size abS n, show abS.size = 2 from rfl]; omega
  refine (Tryz.strings_Split ⟨(Lib.repeatL abS.data.toList n).toArray⟩ ⟨#[32]⟩ m w (by omega) h.at_ (by decide)).mono ?_
  rintro e w' ⟨rfl, rfl⟩
  refine ⟨_, ?_, ?_, ?_, ?_, rfl⟩
  · rw [c3]; exact c1
  · rw [c3]; omega
  · intro b hb
    have := splitB_size _ _ _ b hb
    omega
  · rw [c3]
theorem row_cut {W : World} {base n c k : Nat} {T : TypeId} {a : Option Addr} {xs : List Value} (h : W.ownsRow base T 1 (.slice a n c) n xs) (hk : k ≤ n) (h0 : 0 < n) : W.ownsRow base T 1 (.slice a k c) k (xs.take k) := by
  obtain ⟨hl, ⟨h1, h2⟩ | ⟨g, cap, cur, hv, hb, hg, hnc, hcm, hs, ht⟩⟩ := h
  · omega
  · injection hv with e1 e2 e3
    subst e1 e3
    refine ⟨by rw [List.length_take, hl]; omega, .inr ⟨g, c, cur, rfl, hb, hg, by omega, hcm, hs, ?_⟩⟩
    rw [← ht, List.take_take]
    congr 1
    omega
theorem reads_of_row {W : World} {base n c : Nat} {a : Option Addr} {ls : List ByteArray} (h : W.ownsRow base 9 1 (.slice a n c) n (ls.map Value.string)) (hn : ls.length = n) (h0 : 0 < n) : ReadsC W (.slice a n c) ls := by
  have hh := h
  obtain ⟨hl, ⟨h1, h2⟩ | ⟨g, cap, cur, hv, hb, hg, hnc, hcm, hs, ht⟩⟩ := h
  · omega
  · injection hv with e1 e2 e3
    subst e1 e3
    refine ⟨_, c, by rw [hn], by omega, fun _ => ⟨g, 0, rfl, (Array.getElem?_eq_some_iff.1 hg).1, fun i hi => ?_⟩⟩
    rw [Nat.zero_add, hh.cellAt i (by omega), List.getElem?_map, List.getElem?_eq_getElem hi]
    rfl
/-- tokens of a row of its own. -/
theorem tok_row {m : Int} {W : World} {base : Nat} {a : Option Addr} {c n : Nat} {P : List ByteArray} (h : MxW m W) (ho : W.ownsRow base 9 1 (.slice a n c) n (P.map Value.string)) (hn : P.length = n) (hl : P.length ≤ 1000) (hs : ∀ b ∈ P, b.size ≤ 1000) :
    Calls Tryz.prog 6 #[.slice a n c] W fun e w' => e = .returned (.bool true) ∧ Below W.heap.size W w' := by
  subst hn
  exact lawTokens_any P _ base m W (by omega) hs h.lt h.at_ ho
theorem tok_cut {m : Int} {W : World} {n : Nat} {P : List ByteArray} (h : MxW m W) (hn : n ≤ P.length) (hl : P.length ≤ 1000) (hs : ∀ b ∈ P, b.size ≤ 1000) :
    Calls Tryz.prog 6 #[.slice (some ⟨W.heap.size, 0, none⟩) n P.length] (W.alloc (.cells (P.map Value.string).toArray 9)) fun e w' => e = .returned (.bool true) ∧ Below W.heap.size W w' := by
  have hb : Below W.heap.size W (W.alloc (.cells (P.map Value.string).toArray 9)) := (Below.refl _ _).alloc (Nat.le_refl _) _
  have hk := h.below hb
  refine (lawTokens_any (P.take n) _ W.heap.size m _ (by rw [List.length_take]; omega) (fun s hs' => hs s (List.mem_of_mem_take hs')) hk.lt hk.at_ (row_new W P n hn hl)).mono ?_
  rintro e w' ⟨rfl, h2⟩
  exact ⟨rfl, hb.trans (h2.mono hb.size)⟩
theorem joined_any (ls : List ByteArray) (hz : ∀ s ∈ ls, s.size ≤ 1000) (hl : ls.length ≤ 10) : ∃ j : ByteArray, j.size ≤ 20000 ∧ ∀ v W, ReadsC W v ls → Calls Tryz.prog 31 #[v, .string ⟨#[10]⟩] W fun e w' => e = .returned (.string j) ∧ Below W.heap.size W w' := by
  obtain ⟨j, h1, h2, h3⟩ := join_ev ls hz (by omega)
  refine ⟨j, ?_, h3⟩
  have hlen := joinN_len (wl ls) (fun p hp => by
    obtain ⟨b, hb, rfl⟩ := List.mem_map.1 hp
    simpa using hz b hb)
  have hwl : (wl ls).length = ls.length := by simp [wl]
  rw [hwl, ← h1] at hlen
  have : j.data.toList.length = j.size := by simp
  omega
theorem sz_app (a b : ByteArray) (n m : Nat) (ha : a.size ≤ n) (hb : b.size ≤ m) : (a ++ b).size ≤ n + m := by rw [ByteArray.size_append]; omega
theorem lits : (⟨#[75]⟩ : ByteArray).size = 1 ∧ (⟨#[49]⟩ : ByteArray).size = 1 ∧ (⟨#[65]⟩ : ByteArray).size = 1 ∧ (⟨#[66]⟩ : ByteArray).size = 1 ∧ (⟨#[67]⟩ : ByteArray).size = 1 ∧ (⟨#[48]⟩ : ByteArray).size = 1 ∧ (⟨#[90]⟩ : ByteArray).size = 1 ∧ (⟨#[32]⟩ : ByteArray).size = 1 ∧ (⟨#[45]⟩ : ByteArray).size = 1 ∧ (⟨#[49, 50, 51]⟩ : ByteArray).size = 3 ∧ (⟨#[53]⟩ : ByteArray).size = 1 ∧ (⟨#[75, 49, 65]⟩ : ByteArray).size = 3 ∧ (⟨#[48, 66, 49]⟩ : ByteArray).size = 3 ∧ (⟨#[65, 10]⟩ : ByteArray).size = 2 ∧ (⟨#[32, 32]⟩ : ByteArray).size = 2 ∧ (⟨#[97]⟩ : ByteArray).size = 1 := ⟨rfl, rfl, rfl, rfl, rfl, rfl, rfl, rfl, rfl, rfl, rfl, rfl, rfl, rfl, rfl, rfl⟩
theorem tmod_nat {n d q : Nat} (h : n % d = q) : ((n : Int)).tmod (d : Int) = (q : Int) ∧ (n : Int) % (d : Int) = (q : Int) := by
  subst h
  exact ⟨by rw [Int.tmod_eq_emod_of_nonneg (Int.natCast_nonneg _)]; rfl, rfl⟩
theorem tdiv_nat {n d q : Nat} (h : n / d = q) : ((n : Int)).tdiv (d : Int) = (q : Int) ∧ (n : Int) / (d : Int) = (q : Int) := by
  subst h
  exact ⟨by rw [Int.tdiv_eq_ediv_of_nonneg (Int.natCast_nonneg _)]; rfl, rfl⟩
theorem form_row {W : World} {base n : Nat} {T : TypeId} {v : Value} {xs : List Value} (h : W.ownsRow base T 1 v n xs) : ∃ a c, v = .slice a n c := by
  rcases Joins.ownsRow_forms h with ⟨h1, h2⟩ | ⟨g, c, h1⟩
  · exact ⟨none, 0, by rw [h1, h2]⟩
  · exact ⟨_, c, h1⟩
theorem tok_five {m : Int} {W : World} {base : Nat} {a : Option Addr} {c : Nat} {P : List ByteArray} (h : MxW m W) (ho : W.ownsRow base 9 1 (.slice a 5 c) 5 (P.map Value.string)) (hn : P.length = 5) (hs : ∀ b ∈ P, b.size ≤ 1000) :
    Calls Tryz.prog 6 #[.slice a 4 c] W fun e w' => e = .returned (.bool true) ∧ Below W.heap.size W w' := by
  have := row_cut (k := 4) ho (by omega) (by omega)
  rw [← List.map_take] at this
  exact tok_row h this (by rw [List.length_take]; omega) (by rw [List.length_take]; omega) (fun b hb => hs b (List.mem_of_mem_take hb))
theorem row_cap {W : World} {base n c : Nat} {T : TypeId} {a : Option Addr} {xs : List Value} (h : W.ownsRow base T 1 (.slice a n c) n xs) (h0 : 0 < n) : n ≤ c := by
  obtain ⟨hl, ⟨h1, h2⟩ | ⟨g, cap, cur, hv, hb, hg, hnc, hcm, hs, ht⟩⟩ := h
  · omega
  · injection hv with e1 e2 e3
    omega
theorem made_seven : madeCells #[.string ⟨#[]⟩] 7 = ((List.replicate 7 (⟨#[]⟩ : ByteArray)).map Value.string).toArray := by kernel_rfl
theorem asc {l : List UInt8} (h : l.all (fun b => decide (b.toNat < 128)) = true) : ∀ b ∈ l, b.toNat < 128 := fun b hb => of_decide_eq_true (List.all_eq_true.1 h b hb)
set_option maxHeartbeats 32000000 in
theorem limits_any (m : Int) (w : World) (hmx : MxW m w) (hsp : SpW w) : Calls Tryz.prog 8 #[] w fun e w' => e = .returned (.bool true) ∧ Below w.heap.size w w' := by
  have HLN := Lib.hid (fun (s : ByteArray) (W : World) (hW : Below w.heap.size w W) (hs : s.size ≤ 20000) => lawLines_any s m W hs (hmx.below hW).lt (hmx.below hW).at_)
  have HMX := Lib.hid hmx
  have HSP := Lib.hid hsp
  obtain ⟨i0, hi⟩ := info_parts Tryz.infoS
  have HI := Lib.hid hi
  clear hmx hsp hi
  go_enter Tryz.func8, Tryz.ntmps8
  go_wp2_with fail
  go_loopw [1] (fun v wr => ∃ n : Nat, 4 ≤ n ∧ n ≤ 9 ∧ v = .int .i64 n ∧ Hid (Below w.heap.size w wr)) (fun v _ => 9 - (intOf v).toNat)
  case atStart => exact ⟨4, by omega, by omega, rfl, Below.refl _ _⟩
  case round =>
    obtain ⟨n, hn4, hn9, rfl, HB⟩ := hrel
    by_cases hlt : n < 9
    · have hd : decide ((n : Int) < 9) = true := decide_eq_true (by omega)
      have hB := HB.out
      clear HB
      go_wp2_with fail
      refine (rep_any ⟨#[65, 10]⟩ n _ (by decide) (by omega) (asc (by rfl))).mono ?_
      rintro e w1 ⟨t, rfl, ht, _, hb'⟩
      replace hB := hB.trans (hb'.mono hB.size)
      have hts : (⟨#[65, 10]⟩ : ByteArray).size = 2 := rfl
      have htl : t.size ≤ 200 := by rw [ht, hts]; omega
      clear hb' ht hts
      go_wp2_with fail
      refine (HLN.out _ _ hB (by omega)).mono ?_
      rintro e w' ⟨rfl, hb'⟩
      replace hB := hB.trans (hb'.mono hB.size)
      clear hb'
      go_wp2_with fail
      refine (rep_any ⟨#[10, 32, 44, 32, 10, 55]⟩ n _ (by decide) (by omega) (asc (by rfl))).mono ?_
      rintro e w2 ⟨t2, rfl, ht, _, hb'⟩
      replace hB := hB.trans (hb'.mono hB.size)
      have hts : (⟨#[10, 32, 44, 32, 10, 55]⟩ : ByteArray).size = 6 := rfl
      have htl2 : t2.size ≤ 200 := by rw [ht, hts]; omega
      clear hb' ht hts
      go_wp2_with fail
      refine (HLN.out _ _ hB (by omega)).mono ?_
      rintro e w3 ⟨rfl, hb'⟩
      replace hB := hB.trans (hb'.mono hB.size)
      clear hb'
      go_wp2_with fail
      refine (repeat_any ⟨#[65, 32]⟩ n _ (by decide) (by omega)).mono ?_
      rintro e w4 ⟨rfl, hb'⟩
      replace hB := hB.trans (hb'.mono hB.size)
      clear hb'
      have hsp4 : Calls Tryz.prog 29 #[.string ⟨(Lib.repeatL (⟨#[65, 32]⟩ : ByteArray).data.toList n).toArray⟩, .string ⟨#[32]⟩] w4 _ := splitA n hn4 hlt (HMX.out.below hB)
      have HS4 := Lib.hid hsp4
      generalize (⟨(Lib.repeatL (⟨#[65, 32]⟩ : ByteArray).data.toList n).toArray⟩ : ByteArray) = t4 at HS4 ⊢
      clear hsp4
      go_wp2_with fail
      refine HS4.out.mono ?_
      rintro e w5 ⟨P, hP1, hP2, hP3, rfl, rfl⟩
      have HT := Lib.hid (tok_cut (HMX.out.below hB) hP1 hP2 hP3)
      have hP4 : (n : Int) ≤ (P.length : Int) := by omega
      generalize hPl : P.length = L at hP1 hP2 hP4 HT ⊢
      have HP3 := Lib.hid hP3
      clear hPl HS4 hP3
      go_wp2_with fail
      refine HT.out.mono ?_
      rintro e w6 ⟨rfl, hb'⟩
      replace hB := hB.trans (hb'.mono hB.size)
      clear hb'
      go_wp2_with fail
      go_roundw
      case rel => exact ⟨n + 1, by omega, by omega, by go_num, hB⟩
      case measure => simp [intOf]; omega
    · have hd : decide ((n : Int) < 9) = false := decide_eq_false (by omega)
      go_wp2_with fail
      go_loopw [2] (fun v wr => ∃ n : Nat, 57 ≤ n ∧ n ≤ 63 ∧ v = .int .i64 n ∧ Hid (Below w.heap.size w wr)) (fun v _ => 63 - (intOf v).toNat)
      case atStart => exact ⟨57, by omega, by omega, rfl, HB⟩
      case round =>
        obtain ⟨n2, hn57, hn63, rfl, HB1⟩ := hrel
        clear HB
        by_cases hlt2 : n2 < 63
        · have hd2 : decide ((n2 : Int) < 63) = true := decide_eq_true (by omega)
          have hB := HB1.out
          clear HB1
          go_wp2_with fail
          refine (rep_any ⟨#[65]⟩ n2 _ (by decide) (by omega) (asc (by rfl))).mono ?_
          rintro e w1 ⟨t, rfl, ht, _, hb'⟩
          replace hB := hB.trans (hb'.mono hB.size)
          have hts : (⟨#[65]⟩ : ByteArray).size = 1 := rfl
          have htl : t.size ≤ 63 := by rw [ht, hts]; omega
          have hv1 : ¬ 9223372036854775807 < 2 + t.size := by omega
          clear hb' ht hts
          go_wp2_with fail
          refine (HLN.out _ _ hB (by first | omega | (decide; done) | ((try simp only [ByteArray.size_append]); obtain ⟨l0, l1, l2, l3, l4, l5, l6, l7, l8, l9, l10, l11, l12, l13, l14, l15⟩ := lits; omega))).mono ?_
          rintro e w' ⟨rfl, hb'⟩
          replace hB := hB.trans (hb'.mono hB.size)
          clear hb'
          go_wp2_with fail
          refine (HLN.out _ _ hB (by first | omega | (decide; done) | ((try simp only [ByteArray.size_append]); obtain ⟨l0, l1, l2, l3, l4, l5, l6, l7, l8, l9, l10, l11, l12, l13, l14, l15⟩ := lits; omega))).mono ?_
          rintro e w' ⟨rfl, hb'⟩
          replace hB := hB.trans (hb'.mono hB.size)
          clear hb'
          go_wp2_with fail
          refine (HLN.out _ _ hB (by first | omega | (decide; done) | ((try simp only [ByteArray.size_append]); obtain ⟨l0, l1, l2, l3, l4, l5, l6, l7, l8, l9, l10, l11, l12, l13, l14, l15⟩ := lits; omega))).mono ?_
          rintro e w' ⟨rfl, hb'⟩
          replace hB := hB.trans (hb'.mono hB.size)
          clear hb'
          go_wp2_with fail
          refine (tok_two _ _ (HMX.out.below hB) (by first | omega | (decide; done) | ((try simp only [ByteArray.size_append]); obtain ⟨l0, l1, l2, l3, l4, l5, l6, l7, l8, l9, l10, l11, l12, l13, l14, l15⟩ := lits; omega)) (by first | omega | (decide; done) | ((try simp only [ByteArray.size_append]); obtain ⟨l0, l1, l2, l3, l4, l5, l6, l7, l8, l9, l10, l11, l12, l13, l14, l15⟩ := lits; omega))).mono ?_
          rintro e w' ⟨rfl, hb'⟩
          replace hB := hB.trans (hb'.mono hB.size)
          clear hb'
          go_wp2_with fail
          refine (tok_two _ _ (HMX.out.below hB) (by first | omega | (decide; done) | ((try simp only [ByteArray.size_append]); obtain ⟨l0, l1, l2, l3, l4, l5, l6, l7, l8, l9, l10, l11, l12, l13, l14, l15⟩ := lits; omega)) (by first | omega | (decide; done) | ((try simp only [ByteArray.size_append]); obtain ⟨l0, l1, l2, l3, l4, l5, l6, l7, l8, l9, l10, l11, l12, l13, l14, l15⟩ := lits; omega))).mono ?_
          rintro e w' ⟨rfl, hb'⟩
          replace hB := hB.trans (hb'.mono hB.size)
          clear hb'
          go_wp2_with fail
          go_roundw
          case rel => exact ⟨n2 + 1, by omega, by omega, by go_num, hB⟩
          case measure => simp [intOf]; omega
        · have hd2 : decide ((n2 : Int) < 63) = false := decide_eq_false (by omega)
          go_wp2_with fail
          go_loopw [4] (fun v wr => ∃ n : Nat, 37 ≤ n ∧ n ≤ 44 ∧ v = .int .i64 n ∧ Hid (Below w.heap.size w wr)) (fun v _ => 44 - (intOf v).toNat)
          case atStart => exact ⟨37, by omega, by omega, rfl, HB1⟩
          case round =>
            obtain ⟨n3, hn37, hn44, rfl, HB2⟩ := hrel
            clear HB1
            by_cases hlt3 : n3 < 44
            · have hd3 : decide ((n3 : Int) < 44) = true := decide_eq_true (by omega)
              obtain ⟨d, hdd⟩ : ∃ d, n3 / 4 = d := ⟨_, rfl⟩
              obtain ⟨r, hrr⟩ : ∃ r, n3 % 4 = r := ⟨_, rfl⟩
              have d1 : ((n3 : Int)).tdiv 4 = (d : Int) := (tdiv_nat hdd).1
              have d2 : ((n3 : Int)) / 4 = (d : Int) := (tdiv_nat hdd).2
              have r1 : ((n3 : Int)).tmod 4 = (r : Int) := (tmod_nat hrr).1
              have r2 : ((n3 : Int)) % 4 = (r : Int) := (tmod_nat hrr).2
              have ld : d < 44 := by omega
              have lr : r < 4 := by omega
              have wd : IntKind.i64.wrap (d : Int) = (d : Int) := IntWalk.i64_in _ (by omega)
              clear hdd hrr
              go_wp2_with fail
              go_loopw [5, 6] (fun lv kv wr => ∃ (j : Nat) (P : List ByteArray), j ≤ 4 ∧ kv = .int .i64 j ∧ P.length = j ∧ (∀ b ∈ P, b.size ≤ 100) ∧ Hid (Below w.heap.size w wr) ∧ wr.ownsRow w.heap.size 9 1 lv j (P.map Value.string)) (fun _ kv _ => 4 - (intOf kv).toNat)
              case atStart => exact ⟨0, [], by omega, rfl, rfl, by simp, HB2, World.ownsRow_nil _ _ _ _⟩
              case round =>
                obtain ⟨j, P, hj, rfl, hPl, hPs, HB3, hown⟩ := hrel
                have HPS := Lib.hid hPs
                have HPL := Lib.hid hPl
                clear HB2 hPs hPl
                obtain ⟨la, lc, rfl⟩ := form_row hown
                by_cases hj4 : j < 4
                · have hdj : decide ((j : Int) < 4) = true := decide_eq_true (by omega)
                  have hB := HB3.out
                  clear HB3
                  go_wp2_with fail
                  refine (rep_any ⟨#[65, 32]⟩ d _ (by decide) (by omega) (asc (by rfl))).mono ?_
                  rintro e w2 ⟨t, rfl, ht, hta, hb'⟩
                  replace hB := hB.trans (hb'.mono hB.size)
                  replace hown := hown.kept (grown_none hb') (Classical.em _)
                  have hts : (⟨#[65, 32]⟩ : ByteArray).size = 2 := rfl
                  have htl : t.size ≤ 100 := by rw [ht, hts]; omega
                  have HTA := Lib.hid hta
                  clear hb' ht hts hta
                  go_wp2_with fail
                  refine (trimSpace_any t _ (by omega) HTA.out (HSP.out.below hB)).mono ?_
                  rintro e w3 ⟨q, rfl, hq, hb'⟩
                  replace hB := hB.trans (hb'.mono hB.size)
                  replace hown := hown.kept (grown_none hb') (Classical.em _)
                  have hql : q.size ≤ 100 := by omega
                  clear hb' HTA hq
                  go_wp2_with (at_builtin; refine wpList_append_own _ rfl _ _ 26 rfl w.heap.size 9 i0 (.string ⟨#[]⟩) 1 16 Tryz.underlying26 HI.out.1 HI.out.2.1 HI.out.2.2.1 HI.out.2.2.2 rfl (by decide) _ _ _ rfl (hown.alloc _) ⟨w3.heap.size, 0, none⟩ 1 1 [.string q] rfl rfl (cell_one_new _ _ _) (by simp [Value.oneCell']) (by unfold maxLen; omega) (by omega) (by have := hB.size; simp; omega) ?_; intro v' w4 hown' hgrow _; have hb1 : Below w.heap.size w w4 := (hB.alloc hB.size _).grown hgrow (by have := hB.size; simp; omega) (fun r e => (hown.lt r e).1); clear hown hgrow)
                  go_roundw
                  case rel => exact ⟨j + 1, P ++ [q], by omega, by go_num, by rw [List.length_append, HPL.out]; rfl, fun b hb => by
                                      rcases List.mem_append.1 hb with h | h
                                      · exact HPS.out b h
                                      · simp at h; rw [h]; exact hql, hb1, by rw [List.map_append]; simpa using hown'⟩
                  case measure => simp [intOf]; omega
                · have hdj : decide ((j : Int) < 4) = false := decide_eq_false (by omega)
                  have hB := HB3.out
                  clear HB3
                  go_wp2_with fail
                  refine (rep_any ⟨#[66, 32]⟩ (r + 1) _ (by decide) (by omega) (asc (by rfl))).mono ?_
                  rintro e w2 ⟨t, rfl, ht, hta, hb'⟩
                  replace hB := hB.trans (hb'.mono hB.size)
                  replace hown := hown.kept (grown_none hb') (Classical.em _)
                  have hts : (⟨#[66, 32]⟩ : ByteArray).size = 2 := rfl
                  have htl : t.size ≤ 100 := by rw [ht, hts]; omega
                  have HTA := Lib.hid hta
                  clear hb' ht hts hta
                  go_wp2_with fail
                  refine (trimSpace_any t _ (by omega) HTA.out (HSP.out.below hB)).mono ?_
                  rintro e w3 ⟨q, rfl, hq, hb'⟩
                  replace hB := hB.trans (hb'.mono hB.size)
                  replace hown := hown.kept (grown_none hb') (Classical.em _)
                  have hql : q.size ≤ 100 := by omega
                  clear hb' HTA hq
                  go_wp2_with (at_builtin; refine wpList_append_own _ rfl _ _ 26 rfl w.heap.size 9 i0 (.string ⟨#[]⟩) 1 16 Tryz.underlying26 HI.out.1 HI.out.2.1 HI.out.2.2.1 HI.out.2.2.2 rfl (by decide) _ _ _ rfl (hown.alloc _) ⟨w3.heap.size, 0, none⟩ 1 1 [.string q] rfl rfl (cell_one_new _ _ _) (by simp [Value.oneCell']) (by unfold maxLen; omega) (by omega) (by have := hB.size; simp; omega) ?_; intro v' w4 hown' hgrow _; have hb1 : Below w.heap.size w w4 := (hB.alloc hB.size _).grown hgrow (by have := hB.size; simp; omega) (fun r e => (hown.lt r e).1); clear hown hgrow)
                  have hj4e : j = 4 := by omega
                  have HP5 : Hid ((P ++ [q]).length = 5) := by show _ = _; rw [List.length_append, HPL.out, hj4e]; rfl
                  have HZ5 : Hid (∀ b ∈ P ++ [q], b.size ≤ 1000) := fun b hb => by
                    rcases List.mem_append.1 hb with h | h
                    · have := HPS.out b h; omega
                    · simp at h; rw [h]; omega
                  have HO5 : Hid (w4.ownsRow w.heap.size 9 1 v' 5 ((P ++ [q]).map Value.string)) := by
                    show World.ownsRow _ _ _ _ _ _ _
                    have h5 := hown'
                    rw [hj4e] at h5
                    rw [List.map_append]
                    simpa using h5
                  replace hB := hb1
                  generalize P ++ [q] = P5 at HP5 HZ5 HO5
                  obtain ⟨g5, c5, rfl⟩ := Joins.ownsRow_form HO5.out (by decide)
                  have hcap := row_cap HO5.out (by omega)
                  have hcap4 : (4 : Int) ≤ (c5 : Int) := by omega
                  have HTK := Lib.hid (tok_row (HMX.out.below hB) HO5.out HP5.out (by rw [HP5.out]; omega) HZ5.out)
                  clear hj4e hown' hb1 hql
                  refine HTK.out.mono ?_
                  rintro e w5 ⟨rfl, hb'⟩
                  have HO6 := Lib.hid (HO5.out.kept (grown_none hb') (Classical.em _))
                  replace hB := hB.trans (hb'.mono hB.size)
                  clear hb'
                  go_wp2_with fail
                  refine (tok_five (HMX.out.below hB) HO6.out HP5.out HZ5.out).mono ?_
                  rintro e w6 ⟨rfl, hb'⟩
                  have HO7 := Lib.hid (HO6.out.kept (grown_none hb') (Classical.em _))
                  obtain ⟨jn, hj1, hj2⟩ := joined_any P5 HZ5.out (by rw [HP5.out]; omega)
                  have HJ2 := Lib.hid hj2
                  clear hj2
                  replace hB := hB.trans (hb'.mono hB.size)
                  clear hb'
                  go_wp2_with fail
                  refine (HJ2.out _ _ (reads_of_row HO7.out HP5.out (by omega))).mono ?_
                  rintro e w7 ⟨rfl, hb'⟩
                  replace hB := hB.trans (hb'.mono hB.size)
                  clear hb'
                  go_wp2_with fail
                  refine (HLN.out _ _ hB hj1).mono ?_
                  rintro e w8 ⟨rfl, hb'⟩
                  replace hB := hB.trans (hb'.mono hB.size)
                  clear hb'
                  go_wp2_with fail
                  go_roundw
                  case rel => exact ⟨n3 + 1, by omega, by omega, by go_num, hB⟩
                  case measure => simp [intOf]; omega
            · have hd3 : decide ((n3 : Int) < 44) = false := decide_eq_false (by omega)
              have hB := HB2.out
              clear HB2
              go_wp2_with fail
              refine (tok_row (P := []) (base := 0) (HMX.out.below hB) (World.ownsRow_nil _ _ _ _) rfl (by simp) (by simp)).mono ?_
              rintro e w5 ⟨rfl, hb'⟩
              replace hB := hB.trans (hb'.mono hB.size)
              clear hb'
              have hmk : (Instr.makeSlice 26 (.int .i64 7) (.int .i64 7)).run Tryz.prog w5 = .ok (.slice (some ⟨w5.heap.size, 0, none⟩) 7 7) (w5.alloc (.cells (((List.replicate 7 (⟨#[]⟩ : ByteArray)).map Value.string).toArray) 9)) := by
                have h7 := run_make_row' (P := Tryz.prog) 26 9 (.string ⟨#[]⟩) 16 Tryz.underlying26 Tryz.infoS rfl .i64 .i64 7 (by omega) (by omega) w5
                rw [made_seven] at h7
                exact h7
              have HT7 := Lib.hid (tok_cut (P := List.replicate 7 (⟨#[]⟩ : ByteArray)) (n := 7) (HMX.out.below hB) (by simp) (by simp) (fun b hb => by rw [(List.mem_replicate.1 hb).2]; decide))
              go_wp2_with fail
              refine HT7.out.mono ?_
              rintro e w6 ⟨rfl, hb'⟩
              replace hB := hB.trans (hb'.mono hB.size)
              clear hb' hmk
              go_wp2_with fail
              refine (HLN.out _ _ hB (by decide)).mono ?_
              rintro e w7 ⟨rfl, hb'⟩
              replace hB := hB.trans (hb'.mono hB.size)
              clear hb'
              go_wp2_with fail
              go_ret
              exact ⟨rfl, hB⟩
end Go.Proofs.YtdcpmnkebhilpaaGreatDoor
