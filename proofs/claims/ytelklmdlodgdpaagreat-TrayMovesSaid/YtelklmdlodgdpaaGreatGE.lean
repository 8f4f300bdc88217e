import Derived.Test.YtelklmdlodgdpaaGreatGB
import Derived.Deep.OwnRows
import Derived.BigQuiet
import Derived.Test.YtelklmdlodgdpaaGreatGD
import Derived.Test.YtelklmdlodgdpaaGreatGC
/-! WA -/
namespace Go.Proofs.YtelklmdlodgdpaaGreat
open Go.RowKit Go.Sort
set_option linter.unusedVariables false
set_option maxRecDepth 100000
/-- A block holds these numbers, and nothing more. -/
def IntsAt (w : World) (g : Nat) (xs : List Int) : Prop := w.heap[g]? = some (.cells (xs.map (Value.int .i64)).toArray 3 (0, 0))
theorem IntsAt.lt {w : World} {g : Nat} {xs : List Int} (h : IntsAt w g xs) : g < w.heap.size := (Array.getElem?_eq_some_iff.1 h).1
theorem IntsAt.below {w w' : World} {g B : Nat} {xs : List Int} (h : IntsAt w g xs) (hb : Below B w w') (hg : g < B) : IntsAt w' g xs := by
  exact (hb.block g hg).trans h
theorem IntsAt.cell {w : World} {g : Nat} {xs : List Int} (h : IntsAt w g xs) {i : Nat} (hi : i < xs.length) : w.cell? ⟨g, i, none⟩ = some (.int .i64 (xs.getD i (-1))) := by
  unfold IntsAt at h
  simp [World.cell?, h, hi]
theorem IntsAt.free {w : World} {g : Nat} {xs : List Int} (h : IntsAt w g xs) (i : Nat) : w.frozen? ⟨g, i, none⟩ = false := by
  unfold IntsAt at h
  simp [World.frozen?, h]
theorem IntsAt.set {w : World} {g : Nat} {xs : List Int} (h : IntsAt w g xs) (i : Nat) (x : Int) : IntsAt (w.setCell ⟨g, i, none⟩ (.int .i64 x)) g (xs.set i x) := by
  have hl := h.lt
  unfold IntsAt at *
  simp only [World.setCell, Array.getElem?_modify, if_pos, h, Option.map_some, List.map_set]
  simp
theorem IntsAt.row {w : World} {g cap : Nat} {xs : List Int} (h : IntsAt w g xs) : RowI w (.slice (some ⟨g, 0, none⟩) xs.length cap) xs :=
  ⟨g, cap, _, rfl, h, by rw [List.take_of_length_le (by simp)]⟩
theorem IntsAt.setOther {w : World} {g : Nat} {xs : List Int} (h : IntsAt w g xs) {a : Addr} (ha : g ≠ a.block) (v : Value) : IntsAt (w.setCell a v) g xs :=
  (Below.heap_setCell _ _ _ _ ha).trans h
/-- A slice reads as numbers; its block is one of numbers, and not ahead of base. -/
def RowJ (w : World) (base : Nat) (v : Value) (zs : List Int) : Prop :=
  ∃ a cap, v = .slice a zs.length cap ∧ (0 < zs.length → ∃ g off cur, a = some ⟨g, off, none⟩ ∧ base ≤ g ∧ w.heap[g]? = some (.cells cur 3 (0, 0)) ∧ ∀ i (h : i < zs.length), cur[off + i]? = some (.int .i64 zs[i]))
theorem RowJ.rd {w : World} {base : Nat} {v : Value} {zs : List Int} (h : RowJ w base v zs) : RdInts w v zs := by
  obtain ⟨a, cap, hv, hc⟩ := h
  refine ⟨a, cap, hv, fun h0 => ?_⟩
  obtain ⟨g, off, cur, ha, _, hg, hcc⟩ := hc h0
  refine ⟨g, off, ha, (Array.getElem?_eq_some_iff.1 hg).1, fun i hi => ?_⟩
  rw [cell_of_row w g (off + i) _ _ _ hg, hcc i hi]
theorem RowJ.kept {w w' : World} {base : Nat} {v : Value} {zs : List Int} {row : Option Nat} (h : RowJ w base v zs) (hg : w.grownBy w' row) (hne : ∀ g, row = some g → g < base ∨ ∀ cur fr, w.heap[g]? ≠ some (.cells cur 3 fr)) : RowJ w' base v zs := by
  obtain ⟨a, cap, hv, hc⟩ := h
  refine ⟨a, cap, hv, fun h0 => ?_⟩
  obtain ⟨g, off, cur, ha, hb, hh, hcc⟩ := hc h0
  exact ⟨g, off, cur, ha, hb, (hg.block g (Array.getElem?_eq_some_iff.1 hh).1 (fun e => by rcases hne g e.symm with h | h; omega; exact h _ _ hh)).trans hh, hcc⟩
theorem RowJ.below {w w' : World} {base : Nat} {v : Value} {zs : List Int} (h : RowJ w base v zs) (hb : Below w.heap.size w w') : RowJ w' base v zs := h.kept (grown_none hb) (fun g e => by cases e)
theorem RowJ.mono {w : World} {base base' : Nat} {v : Value} {zs : List Int} (h : RowJ w base v zs) (hb : base' ≤ base) : RowJ w base' v zs := by
  obtain ⟨a, cap, hv, hc⟩ := h
  refine ⟨a, cap, hv, fun h0 => ?_⟩
  obtain ⟨g, off, cur, ha, hb', hh, hcc⟩ := hc h0
  exact ⟨g, off, cur, ha, by omega, hh, hcc⟩
theorem RowJ.nil (w : World) (base : Nat) (a : Option Addr) (cap : Nat) : RowJ w base (.slice a 0 cap) [] := ⟨a, cap, rfl, fun h => absurd h (by simp)⟩
theorem RowJ.of_ints {w : World} {base g : Nat} {xs : List Int} (h : IntsAt w g xs) (hb : base ≤ g) (cap : Nat) : RowJ w base (.slice (some ⟨g, 0, none⟩) xs.length cap) xs :=
  ⟨_, cap, rfl, fun _ => ⟨g, 0, _, rfl, hb, h, fun i hi => by simp [hi]⟩⟩
theorem RowJ.take {w : World} {base n cap : Nat} {a : Option Addr} {zs : List Int} (h : RowJ w base (.slice a n cap) zs) {k cap' : Nat} (hk : k ≤ zs.length) : RowJ w base (.slice a k cap') (zs.take k) := by
  obtain ⟨a', cp, hv, hc⟩ := h
  injection hv with h1 h2 h3
  subst h1
  refine ⟨a, cap', by rw [List.length_take, Nat.min_eq_left hk], fun h0 => ?_⟩
  rw [List.length_take] at h0
  obtain ⟨g, off, cur, ha, hb, hh, hcc⟩ := hc (by omega)
  exact ⟨g, off, cur, ha, hb, hh, fun i hi => by rw [List.length_take] at hi; rw [hcc i (by omega), List.getElem_take]⟩
theorem RowJ.drop {w : World} {base n cap g off : Nat} {zs : List Int} (h : RowJ w base (.slice (some ⟨g, off, none⟩) n cap) zs) {k cap' : Nat} (hk : k ≤ zs.length) : RowJ w base (.slice (some ⟨g, off + k, none⟩) (zs.length - k) cap') (zs.drop k) := by
  obtain ⟨a', cp, hv, hc⟩ := h
  injection hv with h1 h2 h3
  subst h1
  refine ⟨_, cap', by rw [List.length_drop], fun h0 => ?_⟩
  rw [List.length_drop] at h0
  obtain ⟨g', off', cur, ha, hb, hh, hcc⟩ := hc (by omega)
  injection ha with ha
  injection ha with e1 e2
  subst e1; subst e2
  refine ⟨g, off + k, cur, rfl, hb, hh, fun i hi => ?_⟩
  rw [List.length_drop] at hi
  rw [show off + k + i = off + (k + i) by omega, hcc (k + i) (by omega), List.getElem_drop]
theorem RowJ.of_owns {w : World} {base : Nat} {v : Value} {zs : List Int} (h : w.ownsInts base 3 .i64 v zs) : RowJ w base v zs := by
  obtain ⟨⟨h1, h2 | ⟨g, cap, cur, hv, hb, hg, _, _, _, ht⟩⟩, _⟩ := h
  · obtain rfl := List.length_eq_zero_iff.1 h2.2
    rw [h2.1]
    exact RowJ.nil _ _ _ _
  · refine ⟨_, cap, hv, fun _ => ⟨g, 0, cur, rfl, hb, hg, fun i hi => ?_⟩⟩
    rw [Nat.mul_one] at ht
    have : (cur.toList.take zs.length)[i]? = (zs.map (Value.int .i64))[i]? := by rw [ht]
    rw [List.getElem?_take_of_lt hi, List.getElem?_map, List.getElem?_eq_getElem hi, Array.getElem?_toList] at this
    rw [Nat.zero_add]; exact this
theorem RowJ.len {w : World} {base : Nat} {v : Value} {zs : List Int} (h : RowJ w base v zs) : ∃ a cap, v = .slice a zs.length cap := by
  obtain ⟨a, cap, hv, _⟩ := h
  exact ⟨a, cap, hv⟩
/-- A slice of slices reads as rows of numbers. -/
def RdRows (w : World) (base : Nat) (v : Value) (ts : List (List Int)) : Prop :=
  ∃ a cap, v = .slice a ts.length cap ∧ (0 < ts.length → ∃ g off, a = some ⟨g, off, none⟩ ∧ (∃ cur, w.heap[g]? = some (.cells cur 30 (0, 0))) ∧ ∀ i (h : i < ts.length), ∃ u, w.cell? ⟨g, off + i, none⟩ = some u ∧ RowJ w base u ts[i])
theorem RdRows.below {w w' : World} {base : Nat} {v : Value} {ts : List (List Int)} (h : RdRows w base v ts) (hb : Below w.heap.size w w') : RdRows w' base v ts := by
  obtain ⟨a, cap, hv, hc⟩ := h
  refine ⟨a, cap, hv, fun h0 => ?_⟩
  obtain ⟨g, off, ha, ⟨cur, hg⟩, hcc⟩ := hc h0
  have hl := (Array.getElem?_eq_some_iff.1 hg).1
  refine ⟨g, off, ha, ⟨cur, (hb.block g hl).trans hg⟩, fun i hi => ?_⟩
  obtain ⟨u, h1, h2⟩ := hcc i hi
  exact ⟨u, (hb.cell (p := ⟨g, off + i, none⟩) hl).trans h1, h2.below hb⟩
end Go.Proofs.YtelklmdlodgdpaaGreat

/-! WM -/
namespace Go.Proofs.YtelklmdlodgdpaaGreat
open Go.RowKit Go.Sort
set_option linter.unusedVariables false
set_option maxRecDepth 100000
structure Pce where
  id : Int
  point : Int
  code : ByteArray
  grams : Int
  barred : Bool
structure Mai where
  cls : Int
  ctr : Int
  origin : ByteArray
  ps : List Pce
def PceAt (w : World) (g o : Nat) (p : Pce) : Prop :=
  w.cell? ⟨g, o, none⟩ = some (.int .i64 p.id) ∧ w.cell? ⟨g, o + 1, none⟩ = some (.int .i64 p.point) ∧ w.cell? ⟨g, o + 2, none⟩ = some (.string p.code) ∧ w.cell? ⟨g, o + 3, none⟩ = some (.int .i64 p.grams) ∧ w.cell? ⟨g, o + 4, none⟩ = some (.bool p.barred)
def RdPces (w : World) (v : Value) (ps : List Pce) : Prop :=
  ∃ a cap, v = .slice a ps.length cap ∧ (0 < ps.length → ∃ g off, a = some ⟨g, off, none⟩ ∧ g < w.heap.size ∧ ∀ i (h : i < ps.length), PceAt w g (off + i * 5) ps[i])
theorem PceAt.below {w w' : World} {g o B : Nat} {p : Pce} (h : PceAt w g o p) (hb : Below B w w') (hg : g < B) : PceAt w' g o p := by
  obtain ⟨a, b, c, d, e⟩ := h
  exact ⟨(hb.cell (p := ⟨g, o, none⟩) hg).trans a, (hb.cell (p := ⟨g, o + 1, none⟩) hg).trans b, (hb.cell (p := ⟨g, o + 2, none⟩) hg).trans c, (hb.cell (p := ⟨g, o + 3, none⟩) hg).trans d, (hb.cell (p := ⟨g, o + 4, none⟩) hg).trans e⟩
theorem RdPces.below {w w' : World} {v : Value} {ps : List Pce} (h : RdPces w v ps) (hb : Below w.heap.size w w') : RdPces w' v ps := by
  obtain ⟨a, cap, hv, hc⟩ := h
  exact ⟨a, cap, hv, fun h0 => by
    obtain ⟨g, off, ha, hg, hcc⟩ := hc h0
    exact ⟨g, off, ha, Nat.lt_of_lt_of_le hg hb.size, fun i h => (hcc i h).below hb hg⟩⟩
def maiV (m : Mai) (v : Value) : Value := .agg #[.int .u8 m.cls, .int .u8 m.ctr, .string m.origin, v]
def pcB (b : Int) (p : Pce) : Bool := decide (b < p.id ∧ p.id ≤ 999999 ∧ 0 ≤ p.point ∧ p.point ≤ 999999) && (codeB p.code && decide (1 ≤ p.grams ∧ p.grams ≤ 50000))
def pcsB : Int → List Pce → Bool
  | _, [] => true
  | b, p :: r => pcB b p && pcsB p.id r
def mailB (m : Mai) : Bool := decide (1 ≤ m.cls ∧ 1 ≤ m.ctr ∧ m.ctr ≤ 3) && (codeB m.origin && (decide (m.ps.length ≤ 2000) && pcsB 0 m.ps))
def lastId (ps : List Pce) (k : Nat) : Int := if k = 0 then 0 else (ps.getD (k - 1) ⟨0, 0, ⟨#[]⟩, 0, false⟩).id
theorem lastId_succ (ps : List Pce) {k : Nat} (h : k < ps.length) : lastId ps (k + 1) = ps[k].id := by
  unfold lastId
  rw [if_neg (by omega), Nat.add_sub_cancel, List.getD_eq_getElem?_getD, List.getElem?_eq_getElem h]; rfl
theorem pcs_step (ps : List Pce) {k : Nat} (h : k < ps.length) : pcsB (lastId ps k) (ps.drop k) = (pcB (lastId ps k) ps[k] && pcsB (lastId ps (k + 1)) (ps.drop (k + 1))) := by
  rw [List.drop_eq_getElem_cons h, lastId_succ ps h]; rfl
set_option maxHeartbeats 16000000 in
theorem mailing_any (m : Mai) (v : Value) (w : World) (hr : RdPces w v m.ps) (h8 : 0 ≤ m.cls ∧ m.cls ≤ 255 ∧ 0 ≤ m.ctr ∧ m.ctr ≤ 255) (ho : m.origin.size ≤ maxLen) (hl : m.ps.length ≤ 100000) (hc : ∀ p ∈ m.ps, p.code.size ≤ maxLen) :
    Calls Tryz.prog 48 #[maiV m v] w fun e w' => e = .returned (.bool (mailB m)) ∧ Below w.heap.size w w' := by
  obtain ⟨a, cap, rfl, hcc⟩ := hr
  obtain ⟨R, hR⟩ : ∃ R, R = mailB m := ⟨_, rfl⟩
  rw [← hR]
  unfold mailB at hR
  unfold maiV
  obtain ⟨cls, ctr, org, ps⟩ := m
  dsimp only at *
  have HC := Lib.hid hc
  have HCC := Lib.hid hcc
  have HCD := Lib.hid (fun W => code_any org W ho)
  obtain ⟨ob, hob⟩ : ∃ o, o = codeB org := ⟨_, rfl⟩
  rw [← hob] at HCD hR
  clear hc hcc ho hob
  by_cases k1 : 1 ≤ cls ∧ 1 ≤ ctr ∧ ctr ≤ 3
  · rw [decide_eq_true k1, Bool.true_and] at hR
    obtain ⟨k1, k2, k3⟩ := k1
    have q1 : ¬ cls < 1 := by omega
    have q2 : ¬ ctr < 1 := by omega
    have q3 : ¬ ctr > 3 := by omega
    cases ob
    · go_enter Tryz.func48, Tryz.ntmps48
      go_wp2_with (go_at_call 40; refine (HCD.out _).mono ?_; rintro e w1 ⟨rfl, hb1⟩)
      go_ret
      exact ⟨by rw [hR]; rfl, below_ac (Below.refl _ _) (Nat.le_refl _) hb1⟩
    · rw [Bool.true_and] at hR
      by_cases k4 : ps.length ≤ 2000
      · rw [decide_eq_true k4, Bool.true_and] at hR
        have q4 : ¬ (ps.length : Int) > 2000 := by omega
        have HR := Lib.hid hR
        clear hR
        have c0 : (w.alloc (.cells #[.int .u8 cls, .int .u8 ctr, .string org, .slice a ps.length cap] 29)).cell? ⟨w.heap.size, 3, none⟩ = some (.slice a ps.length cap) := cell_of_row _ _ 3 _ _ _ (alloc_new w _)
        go_enter Tryz.func48, Tryz.ntmps48
        go_wp2_with (go_at_call 40; refine (HCD.out _).mono ?_; rintro e w1 ⟨rfl, hb1⟩; have c3 := (hb1.cell (p := ⟨w.heap.size, 3, none⟩) (by simp)).trans c0)
        have hB1 : Below w.heap.size w w1 := below_ac (Below.refl _ w) (Nat.le_refl _) hb1
        clear c3 hb1 c0
        go_loopw [3, 32] (fun b i wr => ∃ k : Nat, k ≤ ps.length ∧ i = .int .i64 k ∧ b = .int .i64 (lastId ps k) ∧ Below w.heap.size w wr ∧ R = pcsB (lastId ps k) (ps.drop k)) (fun _ i _ => ps.length - (intOf i).toNat)
        case atStart => exact ⟨0, Nat.zero_le _, rfl, rfl, hB1, HR.out⟩
        case round =>
          clear hB1 HR
          obtain ⟨k, hk, rfl, rfl, hB, hR⟩ := hrel
          by_cases hlt : k < ps.length
          · obtain ⟨g, off, rfl, hg, hat⟩ := HCC.out (by omega)
            have hp := (hat k hlt).below hB hg
            have hcs := HC.out _ (List.getElem_mem hlt)
            rw [pcs_step ps hlt] at hR
            have hid := lastId_succ ps hlt
            obtain ⟨b0, hb0⟩ : ∃ b, b = lastId ps k := ⟨_, rfl⟩
            obtain ⟨b2, hb2⟩ : ∃ b, b = pcsB (lastId ps (k + 1)) (ps.drop (k + 1)) := ⟨_, rfl⟩
            rw [← hb0, ← hb2] at hR
            rw [← hb0]
            obtain ⟨p, hpe⟩ : ∃ p, p = ps[k] := ⟨_, rfl⟩
            rw [← hpe] at hp hcs hR hid
            obtain ⟨id, pt, cd, gr, br⟩ := p
            unfold pcB at hR
            dsimp only at hcs hR hid
            obtain ⟨p0, p1, p2, p3, p4⟩ := hp
            dsimp only at p0 p1 p2 p3 p4
            have HID := Lib.hid hid
            have HB2 := Lib.hid hb2
            have HCE := Lib.hid (fun W => code_any cd W hcs)
            obtain ⟨cb, hcb⟩ : ∃ o, o = codeB cd := ⟨_, rfl⟩
            rw [← hcb] at HCE hR
            have HRR := Lib.hid hR
            clear hat hb0 hb2 hpe hid hcb hR hcs HC HCD
            by_cases j1 : id ≤ b0
            · go_wp2_with fail
              go_ret
              have hf : R = false := by rw [HRR.out, decide_eq_false (by omega)]; rfl
              exact ⟨by rw [hf]; rfl, hB.alloc hB.size _⟩
            · by_cases j2 : id > 999999
              · go_wp2_with fail
                go_ret
                have hf : R = false := by rw [HRR.out, decide_eq_false (by omega)]; rfl
                exact ⟨by rw [hf]; rfl, hB.alloc hB.size _⟩
              · by_cases j3 : pt < 0
                · go_wp2_with fail
                  go_ret
                  have hf : R = false := by rw [HRR.out, decide_eq_false (by omega)]; rfl
                  exact ⟨by rw [hf]; rfl, hB.alloc hB.size _⟩
                · by_cases j4 : pt > 999999
                  · go_wp2_with fail
                    go_ret
                    have hf : R = false := by rw [HRR.out, decide_eq_false (by omega)]; rfl
                    exact ⟨by rw [hf]; rfl, hB.alloc hB.size _⟩
                  · have e1 : R = (cb && decide (1 ≤ gr ∧ gr ≤ 50000) && b2) := by rw [HRR.out, decide_eq_true (by omega), Bool.true_and]
                    have HE := Lib.hid e1
                    clear e1 HRR
                    cases cb
                    · go_wp2_with (go_at_call 40; refine (HCE.out _).mono ?_; rintro e w1 ⟨rfl, hb1⟩)
                      go_ret
                      have hf : R = false := by rw [HE.out]; rfl
                      exact ⟨by rw [hf]; rfl, below_ac hB hB.size hb1⟩
                    · have d3 : (wr.alloc (.cells #[.int .i64 id, .int .i64 pt, .string cd, .int .i64 gr, .bool br] 45)).cell? ⟨wr.heap.size, 3, none⟩ = some (.int .i64 gr) := cell_of_row _ _ 3 _ _ _ (alloc_new wr _)
                      have d0 : (wr.alloc (.cells #[.int .i64 id, .int .i64 pt, .string cd, .int .i64 gr, .bool br] 45)).cell? ⟨wr.heap.size, 0, none⟩ = some (.int .i64 id) := cell_of_row _ _ 0 _ _ _ (alloc_new wr _)
                      by_cases j5 : gr < 1
                      · go_wp2_with (go_at_call 40; refine (HCE.out _).mono ?_; rintro e w1 ⟨rfl, hb1⟩; have e3 := (hb1.cell (p := ⟨wr.heap.size, 3, none⟩) (by simp)).trans d3)
                        go_ret
                        have hf : R = false := by rw [HE.out, decide_eq_false (by omega)]; rfl
                        exact ⟨by rw [hf]; rfl, below_ac hB hB.size hb1⟩
                      · by_cases j6 : gr > 50000
                        · go_wp2_with (go_at_call 40; refine (HCE.out _).mono ?_; rintro e w1 ⟨rfl, hb1⟩; have e3 := (hb1.cell (p := ⟨wr.heap.size, 3, none⟩) (by simp)).trans d3)
                          go_ret
                          have hf : R = false := by rw [HE.out, decide_eq_false (by omega)]; rfl
                          exact ⟨by rw [hf]; rfl, below_ac hB hB.size hb1⟩
                        · go_wp2_with (go_at_call 40; refine (HCE.out _).mono ?_; rintro e w1 ⟨rfl, hb1⟩; have e3 := (hb1.cell (p := ⟨wr.heap.size, 3, none⟩) (by simp)).trans d3; have e0 := (hb1.cell (p := ⟨wr.heap.size, 0, none⟩) (by simp)).trans d0)
                          go_roundw
                          case rel => exact ⟨k + 1, by omega, by go_num, by rw [HID.out], below_ac hB hB.size hb1, by rw [HE.out, decide_eq_true (by omega), ← HB2.out]; rfl⟩
                          case measure => simp [intOf]; omega
          · obtain rfl : k = ps.length := by omega
            go_wp2_with fail
            go_ret
            exact ⟨by rw [hR, List.drop_length]; rfl, hB⟩
      · rw [decide_eq_false k4] at hR
        have q4 : (ps.length : Int) > 2000 := by omega
        go_enter Tryz.func48, Tryz.ntmps48
        have HR := Lib.hid hR
        clear hR
        have c3 : (w.alloc (.cells #[.int .u8 cls, .int .u8 ctr, .string org, .slice a ps.length cap] 29)).cell? ⟨w.heap.size, 3, none⟩ = some (.slice a ps.length cap) := cell_of_row _ _ 3 _ _ _ (alloc_new w _)
        go_wp2_with (go_at_call 40; refine (HCD.out _).mono ?_; rintro e w1 ⟨rfl, hb1⟩; have e3 := (hb1.cell (p := ⟨w.heap.size, 3, none⟩) (by simp)).trans c3)
        go_ret
        exact ⟨by rw [HR.out]; rfl, below_ac (Below.refl _ _) (Nat.le_refl _) hb1⟩
  · rw [decide_eq_false k1] at hR
    have HR := Lib.hid hR
    clear hR
    by_cases q1 : cls < 1
    · go_enter Tryz.func48, Tryz.ntmps48
      go_wp2_with fail
      go_ret
      exact ⟨by rw [HR.out]; rfl, (Below.refl _ w).alloc (Nat.le_refl _) _⟩
    · by_cases q2 : ctr < 1
      · go_enter Tryz.func48, Tryz.ntmps48
        go_wp2_with fail
        go_ret
        exact ⟨by rw [HR.out]; rfl, (Below.refl _ w).alloc (Nat.le_refl _) _⟩
      · have q3 : ctr > 3 := by omega
        go_enter Tryz.func48, Tryz.ntmps48
        go_wp2_with fail
        go_ret
        exact ⟨by rw [HR.out]; rfl, (Below.refl _ w).alloc (Nat.le_refl _) _⟩
end Go.Proofs.YtelklmdlodgdpaaGreat

/-! WN -/
namespace Go.Proofs.YtelklmdlodgdpaaGreat
open Go.RowKit Go.Sort
set_option linter.unusedVariables false
set_option maxRecDepth 100000
theorem Tryz.infoTx : (Tryz.prog.info? 9).map (fun i => (i.zero, i.size, i.bytes)) = some (some (.string ⟨#[]⟩), 1, 16) := by kernel_rfl
def codesM (ps : List Pce) : List ByteArray := ps.map (·.code)
theorem codesM_take (ps : List Pce) {k : Nat} (h : k < ps.length) : (codesM (ps.take (k + 1))).map Value.string = (codesM (ps.take k)).map Value.string ++ [.string ps[k].code] := by
  unfold codesM
  rw [List.take_succ_eq_append_getElem h, List.map_append, List.map_append]; rfl
set_option maxHeartbeats 8000000 in
theorem codes25_any (m : Mai) (v : Value) (w : World) (hr : RdPces w v m.ps) (hl : m.ps.length ≤ 100000) :
    Calls Tryz.prog 50 #[maiV m v] w fun e w' => ∃ u, e = .returned u ∧ Below w.heap.size w w' ∧ ReadsT w' u (codesM m.ps) := by
  obtain ⟨a, cap, rfl, hcc⟩ := hr
  unfold maiV
  obtain ⟨cls, ctr, org, ps⟩ := m
  dsimp only at *
  obtain ⟨i0, hi⟩ := info_parts Tryz.infoTx
  have HI := Lib.hid hi
  have HCC := Lib.hid hcc
  clear hi hcc
  have c0 : (w.alloc (.cells #[.int .u8 cls, .int .u8 ctr, .string org, .slice a ps.length cap] 29)).cell? ⟨w.heap.size, 3, none⟩ = some (.slice a ps.length cap) := cell_of_row _ _ 3 _ _ _ (alloc_new w _)
  go_enter Tryz.func50, Tryz.ntmps50
  go_wp2_with (at_make; refine wpList_make_own _ rfl _ _ 88 rfl (w.heap.size + 1) 9 i0 (.string ⟨#[]⟩) 1 Tryz.underlying88 HI.out.1 HI.out.2.1 HI.out.2.2.1 _ _ _ ps.length rfl (by first | rfl | simp) rfl (by rw [HI.out.2.2.2]; omega) (by unfold maxLen; omega) (by simp) ?_; intro w1 hown hgrow; have hb1 : Below (w.alloc (.cells #[.int .u8 cls, .int .u8 ctr, .string org, .slice a ps.length cap] 29)).heap.size (w.alloc (.cells #[.int .u8 cls, .int .u8 ctr, .string org, .slice a ps.length cap] 29)) w1 := (Below.refl _ _).grown hgrow (Nat.le_refl _) (fun _ e => by cases e); clear hgrow; have c1 := (hb1.cell (p := ⟨w.heap.size, 3, none⟩) (by simp)).trans c0)
  have hB : Below w.heap.size w w1 := below_ac (Below.refl _ w) (Nat.le_refl _) hb1
  have hz1 := hb1.size
  simp only [World.size_alloc] at hz1
  clear c1 c0 hb1
  go_loopw [3, 13] (fun l i wr => ∃ k : Nat, k ≤ ps.length ∧ i = .int .i64 k ∧ Below w.heap.size w wr ∧ w.heap.size + 1 ≤ wr.heap.size ∧ wr.ownsRow (w.heap.size + 1) 9 1 l k ((codesM (ps.take k)).map Value.string)) (fun _ i _ => ps.length - (intOf i).toNat)
  case atStart => exact ⟨0, Nat.zero_le _, rfl, hB, by omega, by simpa [codesM] using hown⟩
  case round =>
    clear hB hown
    obtain ⟨k, hk, rfl, hB, hz, hO⟩ := hrel
    by_cases hlt : k < ps.length
    · obtain ⟨g, off, rfl, hg, hat⟩ := HCC.out (by omega)
      have hp := (hat k hlt).below hB hg
      have htk := codesM_take ps hlt
      obtain ⟨p, hpe⟩ : ∃ p, p = ps[k] := ⟨_, rfl⟩
      rw [← hpe] at hp htk
      have HTK := Lib.hid htk
      obtain ⟨id, pt, cd, gr, br⟩ := p
      obtain ⟨p0, p1, p2, p3, p4⟩ := hp
      dsimp only at p0 p1 p2 p3 p4
      clear hat htk hpe
      have hO1 := (hO.alloc (.cells #[.int .i64 id, .int .i64 pt, .string cd, .int .i64 gr, .bool br] 45)).alloc (.cells #[.string cd] 9)
      have HO1 := Lib.hid hO1
      clear hO1
      rcases Joins.ownsRow_forms hO with ⟨rfl, hpn⟩ | ⟨g2, cap2, rfl⟩
      · have HP := Lib.hid hpn
        clear hpn
        go_wp2_with (at_builtin; refine wpList_append_own _ rfl _ _ 88 rfl (w.heap.size + 1) 9 i0 (.string ⟨#[]⟩) 1 16 Tryz.underlying88 HI.out.1 HI.out.2.1 HI.out.2.2.1 HI.out.2.2.2 rfl (by decide) _ _ _ rfl HO1.out ⟨wr.heap.size + 1, 0, none⟩ 1 1 [.string cd] rfl (by simp) (by simpa using cell_one_new (wr.alloc (.cells #[.int .i64 id, .int .i64 pt, .string cd, .int .i64 gr, .bool br] 45)) (.string cd) 9) (by simp [Value.oneCell']) (by unfold maxLen; omega) (by omega) (by simp; omega) ?_; intro v' w5 hown' hgrow _)
        go_roundw
        case rel =>
          refine ⟨k + 1, by omega, by go_num, ?_, ?_, ?_⟩
          · exact ((hB.alloc hB.size _).alloc (by have := hB.size; simp; omega) _).grown hgrow (by have := hB.size; simp; omega) (fun r e => by have := (hO.lt r e).1; omega)
          · have := hgrow.size; simp at this; omega
          · rw [HTK.out]
            exact hown'
        case measure => simp [intOf]; omega
      · go_wp2_with (at_builtin; refine wpList_append_own _ rfl _ _ 88 rfl (w.heap.size + 1) 9 i0 (.string ⟨#[]⟩) 1 16 Tryz.underlying88 HI.out.1 HI.out.2.1 HI.out.2.2.1 HI.out.2.2.2 rfl (by decide) _ _ _ rfl HO1.out ⟨wr.heap.size + 1, 0, none⟩ 1 1 [.string cd] rfl (by simp) (by simpa using cell_one_new (wr.alloc (.cells #[.int .i64 id, .int .i64 pt, .string cd, .int .i64 gr, .bool br] 45)) (.string cd) 9) (by simp [Value.oneCell']) (by unfold maxLen; omega) (by omega) (by simp; omega) ?_; intro v' w5 hown' hgrow _)
        go_roundw
        case rel =>
          refine ⟨k + 1, by omega, by go_num, ?_, ?_, ?_⟩
          · exact ((hB.alloc hB.size _).alloc (by have := hB.size; simp; omega) _).grown hgrow (by have := hB.size; simp; omega) (fun r e => by have := (hO.lt r e).1; omega)
          · have := hgrow.size; simp at this; omega
          · rw [HTK.out]
            exact hown'
        case measure => simp [intOf]; omega
    · obtain rfl : k = ps.length := by omega
      rw [List.take_length] at hO
      have HO := Lib.hid hO
      have hlen : (codesM ps).length = ps.length := by unfold codesM; simp
      rcases Joins.ownsRow_forms hO with ⟨rfl, hp⟩ | ⟨g2, cap2, rfl⟩
      · go_wp2_with fail
        go_ret
        refine ⟨_, rfl, hB, ⟨none, 0, by rw [hlen, hp]; rfl, fun h0 => by rw [hlen] at h0; omega⟩⟩
      · go_wp2_with fail
        go_ret
        refine ⟨_, rfl, hB, ReadsT.of_row (base := w.heap.size + 1) ?_⟩
        unfold OwnsT
        rw [hlen]
        exact HO.out
end Go.Proofs.YtelklmdlodgdpaaGreat

/-! WO -/
namespace Go.Proofs.YtelklmdlodgdpaaGreat
open Go.RowKit Go.Sort
set_option linter.unusedVariables false
set_option maxRecDepth 100000
set_option maxHeartbeats 4000000 in
theorem numbers_any (n : Nat) (a : Option Addr) (cap : Nat) (zs : List Int) (vz : Value) (w : World) (hz : RdInts w vz zs) (hl : zs.length ≤ 1000000) (hn : n ≤ 100000) :
    Calls Tryz.prog 83 #[.slice a n cap, vz] w fun e w' => e = .returned (.bool (numsB n zs)) ∧ w = w' := by
  obtain ⟨b, cb, rfl, hc⟩ := hz
  have HC := Lib.hid hc
  have HT := Lib.hid (fun h => nums_true (n := n) (zs := zs) h)
  have HF := Lib.hid (fun k (hk : k < zs.length) h => nums_false (n := n) (zs := zs) hk h)
  obtain ⟨R, hR⟩ : ∃ R, R = numsB n zs := ⟨_, rfl⟩
  rw [← hR] at HT HF ⊢
  clear hR hc
  go_enter Tryz.func83, Tryz.ntmps83
  go_wp2_with fail
  go_loopw [9] (fun i wr => ∃ k : Nat, k ≤ zs.length ∧ i = .int .i64 k ∧ w = wr ∧ ∀ j (hj : j < zs.length), j < k → 0 ≤ zs[j] ∧ zs[j] < (n : Int)) (fun i _ => zs.length - (intOf i).toNat)
  case atStart => exact ⟨0, Nat.zero_le _, rfl, rfl, fun j _ h => absurd h (Nat.not_lt_zero _)⟩
  case round =>
    obtain ⟨k, hk, rfl, hW, hno⟩ := hrel
    subst hW
    have HB := Lib.hid hno
    clear hno
    by_cases hlt : k < zs.length
    · obtain ⟨g, off, rfl, hg, hcc⟩ := HC.out (by omega)
      have c1 := hcc k hlt
      clear hcc
      obtain ⟨z, hz⟩ : ∃ z, z = zs[k] := ⟨_, rfl⟩
      rw [← hz] at c1
      have HZ := Lib.hid hz
      clear hz
      by_cases h1 : z < 0
      · go_wp2_with fail
        go_ret
        exact ⟨by rw [HF.out k hlt (.inl (HZ.out ▸ h1))]; rfl, rfl⟩
      · by_cases h2 : z ≥ (n : Int)
        · go_wp2_with fail
          go_ret
          exact ⟨by rw [HF.out k hlt (.inr (HZ.out ▸ h2))]; rfl, rfl⟩
        · go_wp2_with fail
          go_roundw
          case rel =>
            refine ⟨k + 1, by omega, by go_num, (by first | rfl | trivial), fun j hj hjk => ?_⟩
            by_cases e : j = k
            · subst e; rw [← HZ.out]; omega
            · exact HB.out j hj (by omega)
          case measure => simp [intOf]; omega
    · go_wp2_with fail
      go_ret
      exact ⟨by rw [HT.out (fun j hj => HB.out j hj (by omega))]; rfl, rfl⟩
theorem centsAt_get {ls : List Lev} {z : Nat} (h : z < ls.length) : centsAt ls (z : Int) = ls[z].cents := by
  unfold centsAt
  rw [Int.toNat_natCast, List.getD_eq_getElem?_getD, List.getElem?_eq_getElem h]; rfl
end Go.Proofs.YtelklmdlodgdpaaGreat
