/-
  letterbaglaw23.few, schemeTells; the walk of SchemeTells.
-/
import Derived.Test.YtdahgfopighhlaaU9
namespace Go.Proofs.Ytdahgfopighhlaa
open Go.RowKit Go.Sort
set_option linter.unusedVariables false
set_option maxRecDepth 100000
def fewB (ls : List Lev) : Bool := decide (ls.length ≤ 10) && decide (sumTo ls ls.length ≤ 210)
theorem sumTo_le {ls : List Lev} {m : Nat} (hf : ∀ l ∈ ls, l.labs.length ≤ m) : ∀ k, sumTo ls k ≤ k * m
  | 0 => by simp [sumTo]
  | k + 1 => by
    have ih := sumTo_le hf k
    by_cases h : k < ls.length
    · rw [sumTo_succ ls k h, Nat.succ_mul]
      have := hf _ (List.getElem_mem h)
      omega
    · have : sumTo ls (k + 1) = sumTo ls k := by unfold sumTo; rw [List.take_of_length_le (by omega), List.take_of_length_le (by omega)]
      rw [this, Nat.succ_mul]; omega
theorem few_small (ls : List Lev) (v : Value) (w : World) (hr : RdLevs w v ls) (hb : ∀ l ∈ ls, l.labs.length ≤ 4398046511104) (h10 : ls.length ≤ 10) :
    Calls Try.prog 34 #[v] w fun e w' => e = .returned (.bool (fewB ls)) ∧ w = w' := by
  obtain ⟨a, cap, rfl, hc⟩ := hr
  have HC := Lib.hid hc
  have HBD := Lib.hid hb
  clear hc hb
  go_enter Try.func34, Try.ntmps34
  go_wp2_with fail
  go_loop [3, 4] (fun s i => ∃ k : Nat, k ≤ ls.length ∧ i = .int .i64 k ∧ s = .int .i64 (sumTo ls k : Nat)) (fun _ i => ls.length - (intOf i).toNat)
  case atStart => exact ⟨0, Nat.zero_le _, rfl, rfl⟩
  case round =>
    obtain ⟨k, hk, rfl, rfl⟩ := hrel
    by_cases hlt : k < ls.length
    · obtain ⟨g, off, rfl, hg, hcc⟩ := HC.out (by omega)
      obtain ⟨sv, hlab, hat⟩ := hcc k hlt
      obtain ⟨t0, t1, t2, t3, t4⟩ := hat
      obtain ⟨la, lc, rfl, _⟩ := hlab
      have hsb := sumTo_le HBD.out k
      have hsb2 : sumTo ls k ≤ 43980465111040 := by omega
      have hll := HBD.out _ (List.getElem_mem hlt)
      have HS := Lib.hid (sumTo_succ ls k hlt)
      generalize ls[k].labs.length = m at t2 HS hll
      generalize sumTo ls k = sk at hsb hsb2 HS ⊢
      have hd : decide ((k : Int) < (ls.length : Int)) = true := decide_eq_true (by omega)
      clear t0 t1 t3 t4 HC hcc hsb
      go_wp2_with fail
      go_round
      case rel => exact ⟨k + 1, by omega, by go_num, by rw [HS.out]; first | rfl | (congr 1; omega)⟩
      case measure => simp [intOf]; omega
    · obtain rfl : k = ls.length := by omega
      have d1 : decide ((ls.length : Int) ≤ 10) = true := decide_eq_true (by omega)
      have HF : Hid (fewB ls = decide (sumTo ls ls.length ≤ 210)) := by show _ = _; unfold fewB; rw [decide_eq_true h10]; rfl
      have hsb := sumTo_le HBD.out ls.length
      have hdd : decide (((sumTo ls ls.length : Nat) : Int) ≤ 210) = decide (sumTo ls ls.length ≤ 210) := by rw [Bool.eq_iff_iff]; simp; omega
      have HDD := Lib.hid hdd
      clear hdd
      generalize sumTo ls ls.length = sk at HF HDD ⊢
      clear hsb HC HBD
      go_wp2_with fail
      go_ret
      refine ⟨ret_bool ?_, rfl⟩
      rw [HF.out]; exact HDD.out
theorem few_large (ls : List Lev) (v : Value) (w : World) (hr : RdLevs w v ls) (hl : ls.length ≤ maxLen) (h10 : ¬ ls.length ≤ 10) :
    Calls Try.prog 34 #[v] w fun e w' => e = .returned (.bool (fewB ls)) ∧ w = w' := by
  obtain ⟨a, cap, rfl, hc⟩ := hr
  have HC := Lib.hid hc
  have HF : Hid (fewB ls = false) := by show _ = _; unfold fewB; rw [decide_eq_false h10]; rfl
  unfold maxLen at hl
  clear hc
  go_enter Try.func34, Try.ntmps34
  go_wp2_with fail
  go_loop [3, 4] (fun s i => ∃ (k : Nat) (z : Int), k ≤ ls.length ∧ i = .int .i64 k ∧ s = .int .i64 z) (fun _ i => ls.length - (intOf i).toNat)
  case atStart => exact ⟨0, 0, Nat.zero_le _, rfl, rfl⟩
  case round =>
    obtain ⟨k, z, hk, rfl, rfl⟩ := hrel
    by_cases hlt : k < ls.length
    · obtain ⟨g, off, rfl, hg, hcc⟩ := HC.out (by omega)
      obtain ⟨sv, hlab, hat⟩ := hcc k hlt
      obtain ⟨t0, t1, t2, t3, t4⟩ := hat
      obtain ⟨la, lc, rfl, _⟩ := hlab
      generalize ls[k].labs.length = m at t2
      obtain ⟨y, hy⟩ : ∃ y, IntKind.i64.wrap (z + (m : Int)) = y := ⟨_, rfl⟩
      have hd : decide ((k : Int) < (ls.length : Int)) = true := decide_eq_true (by omega)
      clear t0 t1 t3 t4 HC hcc
      go_wp2_with fail
      go_round
      case rel => exact ⟨k + 1, y, by omega, by go_num, by first | rfl | rw [← hy] | rw [hy]⟩
      case measure => simp [intOf]; omega
    · obtain rfl : k = ls.length := by omega
      have d1 : decide ((ls.length : Int) ≤ 10) = false := decide_eq_false (by omega)
      go_wp2_with fail
      go_ret
      exact ⟨ret_bool HF.out.symm, rfl⟩
theorem few_any (ls : List Lev) (v : Value) (w : World) (hr : RdLevs w v ls) (hb : ∀ l ∈ ls, l.labs.length ≤ 4398046511104) (hl : ls.length ≤ maxLen) :
    Calls Try.prog 34 #[v] w fun e w' => e = .returned (.bool (fewB ls)) ∧ w = w' := by
  by_cases h : ls.length ≤ 10
  · exact few_small ls v w hr hb h
  · exact few_large ls v w hr hl h
theorem few_each {ls : List Lev} (h : fewB ls = true) : ls.length ≤ 10 ∧ ∀ l ∈ ls, l.labs.length ≤ 210 := by
  unfold fewB at h
  rw [Bool.and_eq_true, decide_eq_true_eq, decide_eq_true_eq] at h
  refine ⟨h.1, fun l hl => ?_⟩
  obtain ⟨i, hi, rfl⟩ := List.mem_iff_getElem.1 hl
  have h1 := sumTo_succ ls i hi
  have h2 := sumTo_mono ls (show i + 1 ≤ ls.length from hi)
  omega
set_option maxHeartbeats 16000000 in
theorem schemeTells1_any (ls : List Lev) (v : Value) (i : Int) (c : ByteArray) (w : World) (hr : RdLevN w v ls) (hb : ∀ l ∈ ls, l.labs.length ≤ 4398046511104 ∧ l.name.size ≤ maxLen ∧ ∀ x ∈ l.labs, x.pre.size ≤ maxLen ∧ x.grp.size ≤ maxLen) (hl : ls.length ≤ maxLen) (hc : c.size ≤ maxLen) :
    Calls Try.prog 18 #[v, .int .i64 i, .string c] w fun e w' => e = .returned (.bool true) ∧ Below w.heap.size w w' := by
  have HFW := Lib.hid (few_any ls v w hr.reads (fun l h => (hb l h).1) hl)
  cases hfew : fewB ls
  · rw [hfew] at HFW
    obtain ⟨a, cap, rfl, _⟩ := hr
    clear hb hfew
    go_enter Try.func18, Try.ntmps18
    go_wp2_with fail
    refine HFW.out.mono ?_
    rintro e w1 ⟨rfl, rfl⟩
    go_wp2_with fail
    go_ret
    exact ⟨rfl, Below.refl _ _⟩
  · rw [hfew] at HFW
    obtain ⟨h10, h210⟩ := few_each hfew
    have hfit : ∀ l ∈ ls, LevFits l := fun l h => ⟨(hb l h).2.1, by have := h210 l h; omega, (hb l h).2.2⟩
    have hlm : ls.length ≤ maxLen := hl
    have HLT := Lib.hid (lentLevels_any ls v w hr (fun l h => by have := h210 l h; omega) (by omega))
    have HF2 : Hid (∀ W, Below w.heap.size w W → Calls Try.prog 36 #[v, .int .i64 i, .string c] W fun e w' => e = .returned (.tuple #[.string (findR ls i c).1, .int .i64 (findR ls i c).2]) ∧ Below W.heap.size W w') := fun W hW => rFind_any ls v i c W (hr.reads.below hW) hfit hlm hc
    have HP2 : Hid (∀ W, Below w.heap.size w W → Calls Try.prog 39 #[v, .string c] W fun e w' => ∃ v, e = .returned (.tuple #[v, .int .i64 (pathR ls c).2]) ∧ Below W.heap.size W w' ∧ ReadsT w' v (pathR ls c).1) := fun W hW => by
      refine (rPath_any ls v c W (hr.reads.below hW) hfit hlm hc).mono ?_
      rintro e w' ⟨x, rfl, h1, h2⟩
      exact ⟨x, rfl, h1, ReadsT.of_row h2⟩
    have HR2 : Hid (∀ W, Below w.heap.size w W → Calls Try.prog 38 #[v] W fun e w' => e = .returned (.bool (rightB ls)) ∧ Below W.heap.size W w') := fun W hW => rRight_any ls v W (hr.reads.below hW) hfit hlm
    have HC1 : Hid (∀ W, Calls Try.prog 28 #[.string c] W fun e w' => e = .returned (.bool (codeB c)) ∧ Below W.heap.size W w') := fun W => code_any c W hc
    have HC2 : Hid (∀ W, Calls Try.prog 37 #[.string c] W fun e w' => e = .returned (.bool (codeB c)) ∧ W = w') := fun W => rCode_any c W hc
    have HGEN : Hid (∀ W (u : Value), LentLevs W w.heap.size u ls → ∀ W', Below W.heap.size W W' →
        (Calls Try.prog 19 #[u, .int .i64 i, .string c] W' fun e w' => e = .returned (.tuple #[.string (findR ls i c).1, .int .i64 (findR ls i c).2]) ∧ Below W'.heap.size W' w') ∧
        (Calls Try.prog 13 #[u] W' fun e w' => e = .returned (.bool (rightB ls)) ∧ Below W'.heap.size W' w') ∧
        (Calls Try.prog 17 #[u, .string c] W' fun e w' => ∃ v, e = .returned (.tuple #[v, .int .i64 (pathR ls c).2]) ∧ Below W'.heap.size W' w' ∧ ReadsT w' v (pathR ls c).1)) := fun W u hu W' hW => by
      have hr' := (hu.below hW).reads
      refine ⟨find_any ls u i c W' hr' hfit hlm hc, right_any ls u W' hr' hfit hlm, ?_⟩
      refine (path_any ls u c W' hr' hfit hlm hc).mono ?_
      rintro e w' ⟨x, rfl, h1, h2⟩
      exact ⟨x, rfl, h1, ReadsT.of_row h2⟩
    have HK : Hid (∀ W (u : Value), LentLevs W w.heap.size u ls → Below w.heap.size w W → Calls Try.prog 40 #[u, v] W fun e w' => e = .returned (.bool true) ∧ Below W.heap.size W w') := fun W u hu hW => keptLevels_true ls u v w.heap.size W hu (hr.reads.below hW) (fun l h => by have := h210 l h; omega) (by omega)
    have hpl : (pathR ls c).1.length ≤ 100000 := by
      unfold pathR
      split
      · cases ls with
        | nil => simp
        | cons l r => dsimp only; split
                      · simp
                      · simp at h10 ⊢; omega
      · simp
    have HST : Hid (∀ W (x y : Value), ReadsT W x (pathR ls c).1 → ReadsT W y (pathR ls c).1 → Calls Try.prog 21 #[x, y] W fun e w' => e = .returned (.bool true) ∧ Below W.heap.size W w') := fun W x y hx hy => sameTexts_true _ x y W hx hy hpl
    obtain ⟨a, cap, rfl, _⟩ := hr
    clear hb hfew hpl hfit hlm hl hc h10 h210
    have hbe := ba_eq (findR ls i c).1 (findR ls i c).1
    rw [decide_eq_true rfl] at hbe
    generalize (findR ls i c).1 = fx at HF2 HGEN hbe
    generalize (findR ls i c).2 = fe at HF2 HGEN
    generalize (pathR ls c).2 = pe at HP2 HGEN
    generalize (pathR ls c).1 = px at HP2 HGEN HST
    generalize rightB ls = rb at HR2 HGEN
    generalize codeB c = cb at HC1 HC2
    go_enter Try.func18, Try.ntmps18
    go_wp2_with fail
    refine HFW.out.mono ?_
    rintro e w1 ⟨rfl, rfl⟩
    go_wp2_with fail
    refine HLT.out.mono ?_
    rintro e w2 ⟨u, rfl, hu, hb2⟩
    have HU := Lib.hid hu
    have HG := Lib.hid (HGEN.out w2 u hu)
    have HKU : Hid (∀ W, Below w2.heap.size w2 W → Below w.heap.size w W → Calls Try.prog 40 #[u, .slice a ls.length cap] W fun e w' => e = .returned (.bool true) ∧ Below W.heap.size W w') := fun W h1 h2 => HK.out W u (hu.below h1) h2
    obtain ⟨gu, hgu, _⟩ := hu
    subst hgu
    have HB2 := Lib.hid hb2
    clear hb2 HGEN HK
    go_wp2_with fail
    refine (HG.out _ (Below.refl _ _)).1.mono ?_
    rintro e w3 ⟨rfl, hb3⟩
    have HC3 : Hid (Below w2.heap.size w2 w3) := hb3
    have HB3 := Lib.hid (HB2.out.trans (hb3.mono HB2.out.size))
    clear hb3
    have hcb : (cb != cb) = false := by simp
    have hrb : (rb != rb) = false := by simp
    have hfe : (fe != fe) = false := by simp
    have hpe : (pe == pe) = true := by simp
    go_wp2_with fail
    refine (HF2.out _ HB3.out).mono ?_
    rintro e w4 ⟨rfl, hb4⟩
    have HC4 := Lib.hid (HC3.out.trans (hb4.mono HC3.out.size))
    have HB4 := Lib.hid (HB3.out.trans (hb4.mono HB3.out.size))
    clear hb4 HC3 HB3 HF2
    go_wp2_with fail
    refine (HC1.out _).mono ?_
    rintro e w5 ⟨rfl, hb5⟩
    have HC5 := Lib.hid (HC4.out.trans (hb5.mono HC4.out.size))
    have HB5 := Lib.hid (HB4.out.trans (hb5.mono HB4.out.size))
    clear hb5 HC4 HB4
    go_wp2_with fail
    refine (HC2.out _).mono ?_
    rintro e w6 ⟨rfl, rfl⟩
    go_wp2_with fail
    refine (HG.out _ HC5.out).2.1.mono ?_
    rintro e w7 ⟨rfl, hb7⟩
    have HC7 := Lib.hid (HC5.out.trans (hb7.mono HC5.out.size))
    have HB7 := Lib.hid (HB5.out.trans (hb7.mono HB5.out.size))
    clear hb7 HC5 HB5
    go_wp2_with fail
    refine (HR2.out _ HB7.out).mono ?_
    rintro e w8 ⟨rfl, hb8⟩
    have HC8 := Lib.hid (HC7.out.trans (hb8.mono HC7.out.size))
    have HB8 := Lib.hid (HB7.out.trans (hb8.mono HB7.out.size))
    clear hb8 HC7 HB7 HR2
    go_wp2_with fail
    refine (HG.out _ HC8.out).2.2.mono ?_
    rintro e w9 ⟨x, rfl, hb9, hx⟩
    have HC9 := Lib.hid (HC8.out.trans (hb9.mono HC8.out.size))
    have HB9 := Lib.hid (HB8.out.trans (hb9.mono HB8.out.size))
    have HX := Lib.hid hx
    obtain ⟨xa, xc, rfl, _⟩ := hx
    clear hb9 HC8 HB8 HG
    go_wp2_with fail
    refine (HP2.out _ HB9.out).mono ?_
    rintro e w10 ⟨y, rfl, hb10, hy⟩
    have HC10 := Lib.hid (HC9.out.trans (hb10.mono HC9.out.size))
    have HB10 := Lib.hid (HB9.out.trans (hb10.mono HB9.out.size))
    have HS := Lib.hid (HST.out _ _ _ (HX.out.below hb10) hy)
    obtain ⟨ya, yc, rfl, _⟩ := hy
    clear hb10 HC9 HB9 HP2 HST
    go_wp2_with fail
    refine HS.out.mono ?_
    rintro e w11 ⟨rfl, hb11⟩
    have HC11 := Lib.hid (HC10.out.trans (hb11.mono HC10.out.size))
    have HB11 := Lib.hid (HB10.out.trans (hb11.mono HB10.out.size))
    clear hb11 HC10 HB10
    go_wp2_with fail
    refine (HKU.out _ HC11.out HB11.out).mono ?_
    rintro e w12 ⟨rfl, hb12⟩
    have HB12 := Lib.hid (HB11.out.trans (hb12.mono HB11.out.size))
    clear hb12
    go_wp2_with fail
    go_ret
    exact ⟨rfl, HB12.out⟩
theorem schemeTells_walk (ls : List Lev) (v : Value) (i : Int) (c : ByteArray) (w : World) (hr : RdLevN w v ls) (hb : ∀ l ∈ ls, l.labs.length ≤ 4398046511104 ∧ l.name.size ≤ maxLen ∧ ∀ x ∈ l.labs, x.pre.size ≤ maxLen ∧ x.grp.size ≤ maxLen) (hl : ls.length ≤ maxLen) (hc : c.size ≤ maxLen) :
    Calls Try.prog 6 #[v, .int .i64 i, .string c] w fun e w' => e = .returned (.bool true) ∧ Below w.heap.size w w' := by
  have HS : Hid (∀ W, Below w.heap.size w W → Calls Try.prog 18 #[v, .int .i64 i, .string c] W fun e w' => e = .returned (.bool true) ∧ Below W.heap.size W w') := fun W hW => by
    refine schemeTells1_any ls v i c W ?_ hb hl hc
    obtain ⟨a, cap, e, hcc⟩ := hr
    exact ⟨a, cap, e, fun h0 => by
      obtain ⟨g, off, e2, hg, h3⟩ := hcc h0
      exact ⟨g, off, e2, Nat.lt_of_lt_of_le hg hW.size, fun i h => by
        obtain ⟨sv, h4, h5, h6⟩ := h3 i h
        exact ⟨sv, h4.below hW, h5, h6.below hW hg⟩⟩⟩
  obtain ⟨a, cap, rfl, _⟩ := hr
  go_enter Try.func6, Try.ntmps6
  go_wp2_with fail
  refine (awake_any _).mono ?_
  rintro e w1 ⟨rfl, hb1⟩
  have HB1 := Lib.hid hb1
  clear hb1
  go_wp2_with fail
  refine (HS.out _ HB1.out).mono ?_
  rintro e w2 ⟨rfl, hb2⟩
  have HB2 := Lib.hid (HB1.out.trans (hb2.mono HB1.out.size))
  clear hb2
  go_wp2_with fail
  go_ret
  exact ⟨rfl, HB2.out⟩
end Go.Proofs.Ytdahgfopighhlaa
