import Derived.Test.YtojedplbhialpaaGreatDoorGB
import Derived.Deep.OwnRows
import Derived.BigQuiet
import Derived.Test.YtojedplbhialpaaGreatDoorGC
/-! WA -/
namespace Go.Proofs.YtojedplbhialpaaGreatDoor
open Go.RowKit Go.Sort
set_option linter.unusedVariables false
set_option maxRecDepth 100000
def RowJ (w : World) (base : Nat) (v : Value) (zs : List Int) : Prop :=
  ∃ a cap, v = .slice a zs.length cap ∧ (0 < zs.length → ∃ g off cur, a = some ⟨g, off, none⟩ ∧ base ≤ g ∧ w.heap[g]? = some (.cells cur 3 (0, 0)) ∧ ∀ i (h : i < zs.length), cur[off + i]? = some (.int .i64 zs[i]))
theorem RowJ.rd {w : World} {base : Nat} {v : Value} {zs : List Int} (h : RowJ w base v zs) : RdInts w v zs := by
  obtain ⟨a, cap, hv, hc⟩ := h
  refine ⟨a, cap, hv, fun h0 => ?_⟩
  obtain ⟨g, off, cur, ha, _, hg, hcc⟩ := hc h0
  refine ⟨g, off, ha, (Array.getElem?_eq_some_iff.1 hg).1, fun i hi => ?_⟩
  rw [cell_of_row w g (off + i) _ _ _ hg, hcc i hi]
theorem RowJ.kept {w w' : World} {base : Nat} {v : Value} {zs : List Int} {row : Option Nat} (h : RowJ w base v zs) (hg : w.grownBy w' row) (hne : ∀ g, row = some g → g < base ∨ ∀ cur fr, w.heap[g]? ≠ some (.cells cur 3 fr)) : RowJ w' base v zs := by
  obtain ⟨a, cap, hv, hc⟩ := h
  refine ⟨a, cap, hv, fun h0 => ?_⟩
  obtain ⟨g, off, cur, ha, hb, hh, hcc⟩ := hc h0
  exact ⟨g, off, cur, ha, hb, (hg.block g (Array.getElem?_eq_some_iff.1 hh).1 (fun e => by rcases hne g e.symm with h | h; omega; exact h _ _ hh)).trans hh, hcc⟩
theorem RowJ.below {w w' : World} {base : Nat} {v : Value} {zs : List Int} (h : RowJ w base v zs) (hb : Below w.heap.size w w') : RowJ w' base v zs := h.kept (grown_none hb) (fun g e => by cases e)
theorem RowJ.mono {w : World} {base base' : Nat} {v : Value} {zs : List Int} (h : RowJ w base v zs) (hb : base' ≤ base) : RowJ w base' v zs := by
  obtain ⟨a, cap, hv, hc⟩ := h
  refine ⟨a, cap, hv, fun h0 => ?_⟩
  obtain ⟨g, off, cur, ha, hb', hh, hcc⟩ := hc h0
  exact ⟨g, off, cur, ha, by omega, hh, hcc⟩
theorem RowJ.nil (w : World) (base : Nat) (a : Option Addr) (cap : Nat) : RowJ w base (.slice a 0 cap) [] := ⟨a, cap, rfl, fun h => absurd h (by simp)⟩
end Go.Proofs.YtojedplbhialpaaGreatDoor

/-! WM -/
namespace Go.Proofs.YtojedplbhialpaaGreatDoor
open Go.RowKit Go.Sort
set_option linter.unusedVariables false
set_option maxRecDepth 100000
structure Pce where
  id : Int
  point : Int
  code : ByteArray
  grams : Int
  barred : Bool
structure Mai where
  cls : Int
  ctr : Int
  origin : ByteArray
  ps : List Pce
def PceAt (w : World) (g o : Nat) (p : Pce) : Prop :=
  w.cell? ⟨g, o, none⟩ = some (.int .i64 p.id) ∧ w.cell? ⟨g, o + 1, none⟩ = some (.int .i64 p.point) ∧ w.cell? ⟨g, o + 2, none⟩ = some (.string p.code) ∧ w.cell? ⟨g, o + 3, none⟩ = some (.int .i64 p.grams) ∧ w.cell? ⟨g, o + 4, none⟩ = some (.bool p.barred)
def RdPces (w : World) (v : Value) (ps : List Pce) : Prop :=
  ∃ a cap, v = .slice a ps.length cap ∧ (0 < ps.length → ∃ g off, a = some ⟨g, off, none⟩ ∧ g < w.heap.size ∧ ∀ i (h : i < ps.length), PceAt w g (off + i * 5) ps[i])
theorem PceAt.below {w w' : World} {g o B : Nat} {p : Pce} (h : PceAt w g o p) (hb : Below B w w') (hg : g < B) : PceAt w' g o p := by
  obtain ⟨a, b, c, d, e⟩ := h
  exact ⟨(hb.cell (p := ⟨g, o, none⟩) hg).trans a, (hb.cell (p := ⟨g, o + 1, none⟩) hg).trans b, (hb.cell (p := ⟨g, o + 2, none⟩) hg).trans c, (hb.cell (p := ⟨g, o + 3, none⟩) hg).trans d, (hb.cell (p := ⟨g, o + 4, none⟩) hg).trans e⟩
theorem RdPces.below {w w' : World} {v : Value} {ps : List Pce} (h : RdPces w v ps) (hb : Below w.heap.size w w') : RdPces w' v ps := by
  obtain ⟨a, cap, hv, hc⟩ := h
  exact ⟨a, cap, hv, fun h0 => by
    obtain ⟨g, off, ha, hg, hcc⟩ := hc h0
    exact ⟨g, off, ha, Nat.lt_of_lt_of_le hg hb.size, fun i h => (hcc i h).below hb hg⟩⟩
def maiV (m : Mai) (v : Value) : Value := .agg #[.int .u8 m.cls, .int .u8 m.ctr, .string m.origin, v]
def pcB (b : Int) (p : Pce) : Bool := decide (b < p.id ∧ p.id ≤ 999999 ∧ 0 ≤ p.point ∧ p.point ≤ 999999) && (codeB p.code && decide (1 ≤ p.grams ∧ p.grams ≤ 50000))
def pcsB : Int → List Pce → Bool
  | _, [] => true
  | b, p :: r => pcB b p && pcsB p.id r
def mailB (m : Mai) : Bool := decide (1 ≤ m.cls ∧ 1 ≤ m.ctr ∧ m.ctr ≤ 3) && (codeB m.origin && (decide (m.ps.length ≤ 2000) && pcsB 0 m.ps))
def lastId (ps : List Pce) (k : Nat) : Int := if k = 0 then 0 else (ps.getD (k - 1) ⟨0, 0, ⟨#[]⟩, 0, false⟩).id
theorem lastId_succ (ps : List Pce) {k : Nat} (h : k < ps.length) : lastId ps (k + 1) = ps[k].id := by
  unfold lastId
  rw [if_neg (by omega), Nat.add_sub_cancel, List.getD_eq_getElem?_getD, List.getElem?_eq_getElem h]; rfl
theorem pcs_step (ps : List Pce) {k : Nat} (h : k < ps.length) : pcsB (lastId ps k) (ps.drop k) = (pcB (lastId ps k) ps[k] && pcsB (lastId ps (k + 1)) (ps.drop (k + 1))) := by
  rw [List.drop_eq_getElem_cons h, lastId_succ ps h]; rfl
set_option maxHeartbeats 16000000 in
theorem mailing_any (m : Mai) (v : Value) (w : World) (hr : RdPces w v m.ps) (h8 : 0 ≤ m.cls ∧ m.cls ≤ 255 ∧ 0 ≤ m.ctr ∧ m.ctr ≤ 255) (ho : m.origin.size ≤ maxLen) (hl : m.ps.length ≤ 100000) (hc : ∀ p ∈ m.ps, p.code.size ≤ maxLen) :
    Calls Tryz.prog 162 #[maiV m v] w fun e w' => e = .returned (.bool (mailB m)) ∧ Below w.heap.size w w' := by
  obtain ⟨a, cap, rfl, hcc⟩ := hr
  obtain ⟨R, hR⟩ : ∃ R, R = mailB m := ⟨_, rfl⟩
  rw [← hR]
  unfold mailB at hR
  unfold maiV
  obtain ⟨cls, ctr, org, ps⟩ := m
  dsimp only at *
  have HC := Lib.hid hc
  have HCC := Lib.hid hcc
  have HCD := Lib.hid (fun W => code_any org W ho)
  obtain ⟨ob, hob⟩ : ∃ o, o = codeB org := ⟨_, rfl⟩
  rw [← hob] at HCD hR
  clear hc hcc ho hob
  by_cases k1 : 1 ≤ cls ∧ 1 ≤ ctr ∧ ctr ≤ 3
  · rw [decide_eq_true k1, Bool.true_and] at hR
    obtain ⟨k1, k2, k3⟩ := k1
    have q1 : ¬ cls < 1 := by omega
    have q2 : ¬ ctr < 1 := by omega
    have q3 : ¬ ctr > 3 := by omega
    cases ob
    · go_enter Tryz.func162, Tryz.ntmps162
      go_wp2_with (go_at_call 171; refine (HCD.out _).mono ?_; rintro e w1 ⟨rfl, hb1⟩)
      go_ret
      exact ⟨by rw [hR]; rfl, below_ac (Below.refl _ _) (Nat.le_refl _) hb1⟩
    · rw [Bool.true_and] at hR
      by_cases k4 : ps.length ≤ 2000
      · rw [decide_eq_true k4, Bool.true_and] at hR
        have q4 : ¬ (ps.length : Int) > 2000 := by omega
        have HR := Lib.hid hR
        clear hR
        have c0 : (w.alloc (.cells #[.int .u8 cls, .int .u8 ctr, .string org, .slice a ps.length cap] 29)).cell? ⟨w.heap.size, 3, none⟩ = some (.slice a ps.length cap) := cell_of_row _ _ 3 _ _ _ (alloc_new w _)
        go_enter Tryz.func162, Tryz.ntmps162
        go_wp2_with (go_at_call 171; refine (HCD.out _).mono ?_; rintro e w1 ⟨rfl, hb1⟩; have c3 := (hb1.cell (p := ⟨w.heap.size, 3, none⟩) (by simp)).trans c0)
        have hB1 : Below w.heap.size w w1 := below_ac (Below.refl _ w) (Nat.le_refl _) hb1
        clear c3 hb1 c0
        go_loopw [3, 32] (fun b i wr => ∃ k : Nat, k ≤ ps.length ∧ i = .int .i64 k ∧ b = .int .i64 (lastId ps k) ∧ Below w.heap.size w wr ∧ R = pcsB (lastId ps k) (ps.drop k)) (fun _ i _ => ps.length - (intOf i).toNat)
        case atStart => exact ⟨0, Nat.zero_le _, rfl, rfl, hB1, HR.out⟩
        case round =>
          clear hB1 HR
          obtain ⟨k, hk, rfl, rfl, hB, hR⟩ := hrel
          by_cases hlt : k < ps.length
          · obtain ⟨g, off, rfl, hg, hat⟩ := HCC.out (by omega)
            have hp := (hat k hlt).below hB hg
            have hcs := HC.out _ (List.getElem_mem hlt)
            rw [pcs_step ps hlt] at hR
            have hid := lastId_succ ps hlt
            obtain ⟨b0, hb0⟩ : ∃ b, b = lastId ps k := ⟨_, rfl⟩
            obtain ⟨b2, hb2⟩ : ∃ b, b = pcsB (lastId ps (k + 1)) (ps.drop (k + 1)) := ⟨_, rfl⟩
            rw [← hb0, ← hb2] at hR
            rw [← hb0]
            obtain ⟨p, hpe⟩ : ∃ p, p = ps[k] := ⟨_, rfl⟩
            rw [← hpe] at hp hcs hR hid
            obtain ⟨id, pt, cd, gr, br⟩ := p
            unfold pcB at hR
            dsimp only at hcs hR hid
            obtain ⟨p0, p1, p2, p3, p4⟩ := hp
            dsimp only at p0 p1 p2 p3 p4
            have HID := Lib.hid hid
            have HB2 := Lib.hid hb2
            have HCE := Lib.hid (fun W => code_any cd W hcs)
            obtain ⟨cb, hcb⟩ : ∃ o, o = codeB cd := ⟨_, rfl⟩
            rw [← hcb] at HCE hR
            have HRR := Lib.hid hR
            clear hat hb0 hb2 hpe hid hcb hR hcs HC HCD
            by_cases j1 : id ≤ b0
            · go_wp2_with fail
              go_ret
              have hf : R = false := by rw [HRR.out, decide_eq_false (by omega)]; rfl
              exact ⟨by rw [hf]; rfl, hB.alloc hB.size _⟩
            · by_cases j2 : id > 999999
              · go_wp2_with fail
                go_ret
                have hf : R = false := by rw [HRR.out, decide_eq_false (by omega)]; rfl
                exact ⟨by rw [hf]; rfl, hB.alloc hB.size _⟩
              · by_cases j3 : pt < 0
                · go_wp2_with fail
                  go_ret
                  have hf : R = false := by rw [HRR.out, decide_eq_false (by omega)]; rfl
                  exact ⟨by rw [hf]; rfl, hB.alloc hB.size _⟩
                · by_cases j4 : pt > 999999
                  · go_wp2_with fail
                    go_ret
                    have hf : R = false := by rw [HRR.out, decide_eq_false (by omega)]; rfl
                    exact ⟨by rw [hf]; rfl, hB.alloc hB.size _⟩
                  · have e1 : R = (cb && decide (1 ≤ gr ∧ gr ≤ 50000) && b2) := by rw [HRR.out, decide_eq_true (by omega), Bool.true_and]
                    have HE := Lib.hid e1
                    clear e1 HRR
                    cases cb
                    · go_wp2_with (go_at_call 171; refine (HCE.out _).mono ?_; rintro e w1 ⟨rfl, hb1⟩)
                      go_ret
                      have hf : R = false := by rw [HE.out]; rfl
                      exact ⟨by rw [hf]; rfl, below_ac hB hB.size hb1⟩
                    · have d3 : (wr.alloc (.cells #[.int .i64 id, .int .i64 pt, .string cd, .int .i64 gr, .bool br] 90)).cell? ⟨wr.heap.size, 3, none⟩ = some (.int .i64 gr) := cell_of_row _ _ 3 _ _ _ (alloc_new wr _)
                      have d0 : (wr.alloc (.cells #[.int .i64 id, .int .i64 pt, .string cd, .int .i64 gr, .bool br] 90)).cell? ⟨wr.heap.size, 0, none⟩ = some (.int .i64 id) := cell_of_row _ _ 0 _ _ _ (alloc_new wr _)
                      by_cases j5 : gr < 1
                      · go_wp2_with (go_at_call 171; refine (HCE.out _).mono ?_; rintro e w1 ⟨rfl, hb1⟩; have e3 := (hb1.cell (p := ⟨wr.heap.size, 3, none⟩) (by simp)).trans d3)
                        go_ret
                        have hf : R = false := by rw [HE.out, decide_eq_false (by omega)]; rfl
                        exact ⟨by rw [hf]; rfl, below_ac hB hB.size hb1⟩
                      · by_cases j6 : gr > 50000
                        · go_wp2_with (go_at_call 171; refine (HCE.out _).mono ?_; rintro e w1 ⟨rfl, hb1⟩; have e3 := (hb1.cell (p := ⟨wr.heap.size, 3, none⟩) (by simp)).trans d3)
                          go_ret
                          have hf : R = false := by rw [HE.out, decide_eq_false (by omega)]; rfl
                          exact ⟨by rw [hf]; rfl, below_ac hB hB.size hb1⟩
                        · go_wp2_with (go_at_call 171; refine (HCE.out _).mono ?_; rintro e w1 ⟨rfl, hb1⟩; have e3 := (hb1.cell (p := ⟨wr.heap.size, 3, none⟩) (by simp)).trans d3; have e0 := (hb1.cell (p := ⟨wr.heap.size, 0, none⟩) (by simp)).trans d0)
                          go_roundw
                          case rel => exact ⟨k + 1, by omega, by go_num, by rw [HID.out], below_ac hB hB.size hb1, by rw [HE.out, decide_eq_true (by omega), ← HB2.out]; rfl⟩
                          case measure => simp [intOf]; omega
          · obtain rfl : k = ps.length := by omega
            go_wp2_with fail
            go_ret
            exact ⟨by rw [hR, List.drop_length]; rfl, hB⟩
      · rw [decide_eq_false k4] at hR
        have q4 : (ps.length : Int) > 2000 := by omega
        go_enter Tryz.func162, Tryz.ntmps162
        have HR := Lib.hid hR
        clear hR
        have c3 : (w.alloc (.cells #[.int .u8 cls, .int .u8 ctr, .string org, .slice a ps.length cap] 29)).cell? ⟨w.heap.size, 3, none⟩ = some (.slice a ps.length cap) := cell_of_row _ _ 3 _ _ _ (alloc_new w _)
        go_wp2_with (go_at_call 171; refine (HCD.out _).mono ?_; rintro e w1 ⟨rfl, hb1⟩; have e3 := (hb1.cell (p := ⟨w.heap.size, 3, none⟩) (by simp)).trans c3)
        go_ret
        exact ⟨by rw [HR.out]; rfl, below_ac (Below.refl _ _) (Nat.le_refl _) hb1⟩
  · rw [decide_eq_false k1] at hR
    have HR := Lib.hid hR
    clear hR
    by_cases q1 : cls < 1
    · go_enter Tryz.func162, Tryz.ntmps162
      go_wp2_with fail
      go_ret
      exact ⟨by rw [HR.out]; rfl, (Below.refl _ w).alloc (Nat.le_refl _) _⟩
    · by_cases q2 : ctr < 1
      · go_enter Tryz.func162, Tryz.ntmps162
        go_wp2_with fail
        go_ret
        exact ⟨by rw [HR.out]; rfl, (Below.refl _ w).alloc (Nat.le_refl _) _⟩
      · have q3 : ctr > 3 := by omega
        go_enter Tryz.func162, Tryz.ntmps162
        go_wp2_with fail
        go_ret
        exact ⟨by rw [HR.out]; rfl, (Below.refl _ w).alloc (Nat.le_refl _) _⟩
end Go.Proofs.YtojedplbhialpaaGreatDoor

/-! WN -/
namespace Go.Proofs.YtojedplbhialpaaGreatDoor
open Go.RowKit Go.Sort
set_option linter.unusedVariables false
set_option maxRecDepth 100000
theorem Tryz.infoTx : (Tryz.prog.info? 9).map (fun i => (i.zero, i.size, i.bytes)) = some (some (.string ⟨#[]⟩), 1, 16) := by kernel_rfl
def codesM (ps : List Pce) : List ByteArray := ps.map (·.code)
theorem codesM_take (ps : List Pce) {k : Nat} (h : k < ps.length) : (codesM (ps.take (k + 1))).map Value.string = (codesM (ps.take k)).map Value.string ++ [.string ps[k].code] := by
  unfold codesM
  rw [List.take_succ_eq_append_getElem h, List.map_append, List.map_append]; rfl
set_option maxHeartbeats 8000000 in
theorem codes25_any (m : Mai) (v : Value) (w : World) (hr : RdPces w v m.ps) (hl : m.ps.length ≤ 100000) :
    Calls Tryz.prog 168 #[maiV m v] w fun e w' => ∃ u, e = .returned u ∧ Below w.heap.size w w' ∧ ReadsT w' u (codesM m.ps) := by
  obtain ⟨a, cap, rfl, hcc⟩ := hr
  unfold maiV
  obtain ⟨cls, ctr, org, ps⟩ := m
  dsimp only at *
  obtain ⟨i0, hi⟩ := info_parts Tryz.infoTx
  have HI := Lib.hid hi
  have HCC := Lib.hid hcc
  clear hi hcc
  have c0 : (w.alloc (.cells #[.int .u8 cls, .int .u8 ctr, .string org, .slice a ps.length cap] 29)).cell? ⟨w.heap.size, 3, none⟩ = some (.slice a ps.length cap) := cell_of_row _ _ 3 _ _ _ (alloc_new w _)
  go_enter Tryz.func168, Tryz.ntmps168
  go_wp2_with (at_make; refine wpList_make_own _ rfl _ _ 126 rfl (w.heap.size + 1) 9 i0 (.string ⟨#[]⟩) 1 Tryz.underlying126 HI.out.1 HI.out.2.1 HI.out.2.2.1 _ _ _ ps.length rfl (by first | rfl | simp) rfl (by rw [HI.out.2.2.2]; omega) (by unfold maxLen; omega) (by simp) ?_; intro w1 hown hgrow; have hb1 : Below (w.alloc (.cells #[.int .u8 cls, .int .u8 ctr, .string org, .slice a ps.length cap] 29)).heap.size (w.alloc (.cells #[.int .u8 cls, .int .u8 ctr, .string org, .slice a ps.length cap] 29)) w1 := (Below.refl _ _).grown hgrow (Nat.le_refl _) (fun _ e => by cases e); clear hgrow; have c1 := (hb1.cell (p := ⟨w.heap.size, 3, none⟩) (by simp)).trans c0)
  have hB : Below w.heap.size w w1 := below_ac (Below.refl _ w) (Nat.le_refl _) hb1
  have hz1 := hb1.size
  simp only [World.size_alloc] at hz1
  clear c1 c0 hb1
  go_loopw [3, 13] (fun l i wr => ∃ k : Nat, k ≤ ps.length ∧ i = .int .i64 k ∧ Below w.heap.size w wr ∧ w.heap.size + 1 ≤ wr.heap.size ∧ wr.ownsRow (w.heap.size + 1) 9 1 l k ((codesM (ps.take k)).map Value.string)) (fun _ i _ => ps.length - (intOf i).toNat)
  case atStart => exact ⟨0, Nat.zero_le _, rfl, hB, by omega, by simpa [codesM] using hown⟩
  case round =>
    clear hB hown
    obtain ⟨k, hk, rfl, hB, hz, hO⟩ := hrel
    by_cases hlt : k < ps.length
    · obtain ⟨g, off, rfl, hg, hat⟩ := HCC.out (by omega)
      have hp := (hat k hlt).below hB hg
      have htk := codesM_take ps hlt
      obtain ⟨p, hpe⟩ : ∃ p, p = ps[k] := ⟨_, rfl⟩
      rw [← hpe] at hp htk
      have HTK := Lib.hid htk
      obtain ⟨id, pt, cd, gr, br⟩ := p
      obtain ⟨p0, p1, p2, p3, p4⟩ := hp
      dsimp only at p0 p1 p2 p3 p4
      clear hat htk hpe
      have hO1 := (hO.alloc (.cells #[.int .i64 id, .int .i64 pt, .string cd, .int .i64 gr, .bool br] 90)).alloc (.cells #[.string cd] 9)
      have HO1 := Lib.hid hO1
      clear hO1
      rcases Joins.ownsRow_forms hO with ⟨rfl, hpn⟩ | ⟨g2, cap2, rfl⟩
      · have HP := Lib.hid hpn
        clear hpn
        go_wp2_with (at_builtin; refine wpList_append_own _ rfl _ _ 126 rfl (w.heap.size + 1) 9 i0 (.string ⟨#[]⟩) 1 16 Tryz.underlying126 HI.out.1 HI.out.2.1 HI.out.2.2.1 HI.out.2.2.2 rfl (by decide) _ _ _ rfl HO1.out ⟨wr.heap.size + 1, 0, none⟩ 1 1 [.string cd] rfl (by simp) (by simpa using cell_one_new (wr.alloc (.cells #[.int .i64 id, .int .i64 pt, .string cd, .int .i64 gr, .bool br] 90)) (.string cd) 9) (by simp [Value.oneCell']) (by unfold maxLen; omega) (by omega) (by simp; omega) ?_; intro v' w5 hown' hgrow _)
        go_roundw
        case rel =>
          refine ⟨k + 1, by omega, by go_num, ?_, ?_, ?_⟩
          · exact ((hB.alloc hB.size _).alloc (by have := hB.size; simp; omega) _).grown hgrow (by have := hB.size; simp; omega) (fun r e => by have := (hO.lt r e).1; omega)
          · have := hgrow.size; simp at this; omega
          · rw [HTK.out]
            exact hown'
        case measure => simp [intOf]; omega
      · go_wp2_with (at_builtin; refine wpList_append_own _ rfl _ _ 126 rfl (w.heap.size + 1) 9 i0 (.string ⟨#[]⟩) 1 16 Tryz.underlying126 HI.out.1 HI.out.2.1 HI.out.2.2.1 HI.out.2.2.2 rfl (by decide) _ _ _ rfl HO1.out ⟨wr.heap.size + 1, 0, none⟩ 1 1 [.string cd] rfl (by simp) (by simpa using cell_one_new (wr.alloc (.cells #[.int .i64 id, .int .i64 pt, .string cd, .int .i64 gr, .bool br] 90)) (.string cd) 9) (by simp [Value.oneCell']) (by unfold maxLen; omega) (by omega) (by simp; omega) ?_; intro v' w5 hown' hgrow _)
        go_roundw
        case rel =>
          refine ⟨k + 1, by omega, by go_num, ?_, ?_, ?_⟩
          · exact ((hB.alloc hB.size _).alloc (by have := hB.size; simp; omega) _).grown hgrow (by have := hB.size; simp; omega) (fun r e => by have := (hO.lt r e).1; omega)
          · have := hgrow.size; simp at this; omega
          · rw [HTK.out]
            exact hown'
        case measure => simp [intOf]; omega
    · obtain rfl : k = ps.length := by omega
      rw [List.take_length] at hO
      have HO := Lib.hid hO
      have hlen : (codesM ps).length = ps.length := by unfold codesM; simp
      rcases Joins.ownsRow_forms hO with ⟨rfl, hp⟩ | ⟨g2, cap2, rfl⟩
      · go_wp2_with fail
        go_ret
        refine ⟨_, rfl, hB, ⟨none, 0, by rw [hlen, hp]; rfl, fun h0 => by rw [hlen] at h0; omega⟩⟩
      · go_wp2_with fail
        go_ret
        refine ⟨_, rfl, hB, ReadsT.of_row (base := w.heap.size + 1) ?_⟩
        unfold OwnsT
        rw [hlen]
        exact HO.out
end Go.Proofs.YtojedplbhialpaaGreatDoor

/-! WO -/
namespace Go.Proofs.YtojedplbhialpaaGreatDoor
open Go.RowKit Go.Sort
set_option linter.unusedVariables false
set_option maxRecDepth 100000
set_option maxHeartbeats 4000000 in
theorem numbers_any (n : Nat) (a : Option Addr) (cap : Nat) (zs : List Int) (vz : Value) (w : World) (hz : RdInts w vz zs) (hl : zs.length ≤ 1000000) (hn : n ≤ 100000) :
    Calls Tryz.prog 167 #[.slice a n cap, vz] w fun e w' => e = .returned (.bool (numsB n zs)) ∧ w = w' := by
  obtain ⟨b, cb, rfl, hc⟩ := hz
  have HC := Lib.hid hc
  have HT := Lib.hid (fun h => nums_true (n := n) (zs := zs) h)
  have HF := Lib.hid (fun k (hk : k < zs.length) h => nums_false (n := n) (zs := zs) hk h)
  obtain ⟨R, hR⟩ : ∃ R, R = numsB n zs := ⟨_, rfl⟩
  rw [← hR] at HT HF ⊢
  clear hR hc
  go_enter Tryz.func167, Tryz.ntmps167
  go_wp2_with fail
  go_loopw [9] (fun i wr => ∃ k : Nat, k ≤ zs.length ∧ i = .int .i64 k ∧ w = wr ∧ ∀ j (hj : j < zs.length), j < k → 0 ≤ zs[j] ∧ zs[j] < (n : Int)) (fun i _ => zs.length - (intOf i).toNat)
  case atStart => exact ⟨0, Nat.zero_le _, rfl, rfl, fun j _ h => absurd h (Nat.not_lt_zero _)⟩
  case round =>
    obtain ⟨k, hk, rfl, hW, hno⟩ := hrel
    subst hW
    have HB := Lib.hid hno
    clear hno
    by_cases hlt : k < zs.length
    · obtain ⟨g, off, rfl, hg, hcc⟩ := HC.out (by omega)
      have c1 := hcc k hlt
      clear hcc
      obtain ⟨z, hz⟩ : ∃ z, z = zs[k] := ⟨_, rfl⟩
      rw [← hz] at c1
      have HZ := Lib.hid hz
      clear hz
      by_cases h1 : z < 0
      · go_wp2_with fail
        go_ret
        exact ⟨by rw [HF.out k hlt (.inl (HZ.out ▸ h1))]; rfl, rfl⟩
      · by_cases h2 : z ≥ (n : Int)
        · go_wp2_with fail
          go_ret
          exact ⟨by rw [HF.out k hlt (.inr (HZ.out ▸ h2))]; rfl, rfl⟩
        · go_wp2_with fail
          go_roundw
          case rel =>
            refine ⟨k + 1, by omega, by go_num, (by first | rfl | trivial), fun j hj hjk => ?_⟩
            by_cases e : j = k
            · subst e; rw [← HZ.out]; omega
            · exact HB.out j hj (by omega)
          case measure => simp [intOf]; omega
    · go_wp2_with fail
      go_ret
      exact ⟨by rw [HT.out (fun j hj => HB.out j hj (by omega))]; rfl, rfl⟩
end Go.Proofs.YtojedplbhialpaaGreatDoor

/-! T0 -/
namespace Go.Proofs.YtojedplbhialpaaGreatDoor
open Go.RowKit
set_option linter.unusedVariables false
set_option maxRecDepth 100000
structure Pck where
  pieces : Int
  grams : Int
  bundles : Int
  trays : Int
structure Bun where
  lvl : Int
  grp : ByteArray
  ids : List Int
  grams : Int
structure Tra where
  lvl : Int
  grp : ByteArray
  bs : List Int
structure Con where
  lvl : Int
  ts : List Int
structure Lod where
  buns : List Bun
  tras : List Tra
  cons : List Con
def noPce : Pce := ⟨0, 0, ⟨#[]⟩, 0, false⟩
def pcAt (ps : List Pce) (i : Int) : Pce := ps.getD i.toNat noPce
def gramsOf (ps : List Pce) (l : List Int) : Int := (l.map (fun i => (pcAt ps i).grams)).sum
theorem gramsOf_snoc (ps : List Pce) (l : List Int) (i : Int) : gramsOf ps (l ++ [i]) = gramsOf ps l + (pcAt ps i).grams := by unfold gramsOf; simp
theorem gramsOf_one (ps : List Pce) (i : Int) : gramsOf ps [i] = (pcAt ps i).grams := by unfold gramsOf; simp
def fitsP (k : Pck) (ps : List Pce) (l : List Int) (i : Int) : Prop := (l.length : Int) < k.pieces ∧ gramsOf ps l + (pcAt ps i).grams ≤ k.grams
instance (k : Pck) (ps : List Pce) (l : List Int) (i : Int) : Decidable (fitsP k ps l i) := by unfold fitsP; exact inferInstance
def cutStep (k : Pck) (ps : List Pce) (st : List (List Int) × List Int) (i : Int) : List (List Int) × List Int := if fitsP k ps st.2 i then (st.1, st.2 ++ [i]) else (st.1 ++ [st.2], [i])
def cutTo (k : Pck) (ps : List Pce) (I : List Int) : List (List Int) × List Int := I.foldl (cutStep k ps) ([], [])
theorem cutTo_snoc (k : Pck) (ps : List Pce) (I : List Int) (i : Int) : cutTo k ps (I ++ [i]) = cutStep k ps (cutTo k ps I) i := by unfold cutTo; rw [List.foldl_append]; rfl
def cuts (k : Pck) (ps : List Pce) (I : List Int) : List (List Int) := if 0 < (cutTo k ps I).2.length then (cutTo k ps I).1 ++ [(cutTo k ps I).2] else (cutTo k ps I).1
structure CutOk (k : Pck) (ps : List Pce) (I : List Int) (st : List (List Int) × List Int) : Prop where
  all : st.1.flatten ++ st.2 = I
  some : I ≠ [] → st.2 ≠ []
  none : I = [] → st.1 = []
  part : ∀ l ∈ st.1, l ≠ [] ∧ (l.length : Int) ≤ k.pieces ∧ gramsOf ps l ≤ k.grams
  last : (st.2.length : Int) ≤ k.pieces ∧ gramsOf ps st.2 ≤ k.grams
  full : ∀ A a b C, st.1 ++ [st.2] = A ++ a :: b :: C → ∀ i, b.head? = Option.some i → ¬ fitsP k ps a i
theorem snoc_split {α : Type} {X : List α} {z : α} {A : List α} {a b : α} {C : List α} (h : X ++ [z] = A ++ a :: b :: C) : (C = [] ∧ b = z ∧ X = A ++ [a]) ∨ ∃ C', C = C' ++ [z] ∧ X = A ++ a :: b :: C' := by
  rcases List.eq_nil_or_concat C with rfl | ⟨C', y, rfl⟩
  · refine .inl ⟨rfl, ?_⟩
    have h' : X ++ [z] = (A ++ [a]) ++ [b] := by rw [h]; simp
    obtain ⟨h1, h2⟩ := List.append_inj' h' rfl
    exact ⟨by simpa using h2.symm, h1⟩
  · refine .inr ⟨C', ?_⟩
    have h' : X ++ [z] = (A ++ a :: b :: C') ++ [y] := by rw [h]; simp
    obtain ⟨h1, h2⟩ := List.append_inj' h' rfl
    have : z = y := by simpa using h2
    subst this
    exact ⟨by simp, h1⟩
theorem snoc_indT {P : List Int → Prop} (h0 : P []) (hs : ∀ l i, P l → P (l ++ [i])) (l : List Int) : P l := by
  have h : ∀ l : List Int, P l.reverse := fun l => by
    induction l with
    | nil => exact h0
    | cons x r ih => rw [List.reverse_cons]; exact hs _ _ ih
  have := h l.reverse
  rwa [List.reverse_reverse] at this
theorem cut_ok {k : Pck} {ps : List Pce} (hk : 1 ≤ k.pieces) (hg0 : 0 ≤ k.grams) (I : List Int) (hg : ∀ i ∈ I, (pcAt ps i).grams ≤ k.grams) : CutOk k ps I (cutTo k ps I) := by
  revert hg
  refine snoc_indT (P := fun I => (∀ i ∈ I, (pcAt ps i).grams ≤ k.grams) → CutOk k ps I (cutTo k ps I)) ?_ ?_ I
  · intro hg
    show CutOk k ps [] ([], [])
    refine ⟨rfl, fun h => absurd rfl h, fun _ => rfl, fun l hl => (by cases hl), ⟨by show ((0 : Nat) : Int) ≤ _; omega, by show (0 : Int) ≤ _; exact hg0⟩, fun A a b C h => ?_⟩
    have := congrArg List.length h
    simp at this
    omega
  · intro I i ih hg
    show CutOk k ps (I ++ [i]) (cutTo k ps (I ++ [i]))
    have ih := ih (fun j hj => hg j (List.mem_append_left _ hj))
    have hgi := hg i (by simp)
    rw [cutTo_snoc]
    obtain ⟨h1, h2, h3, h4, h5, h6⟩ := ih
    unfold cutStep
    by_cases hf : fitsP k ps (cutTo k ps I).2 i
    · rw [if_pos hf]
      refine ⟨?_, fun _ => by simp, fun h => by simp at h, h4, ?_, ?_⟩
      · rw [← List.append_assoc, h1]
      · unfold fitsP at hf
        rw [gramsOf_snoc, List.length_append]
        refine ⟨?_, hf.2⟩
        have := hf.1
        simp
        omega
      · intro A a b C h q hq
        rcases snoc_split h with ⟨rfl, rfl, hX⟩ | ⟨C', rfl, hX⟩
        · have hne : I ≠ [] := fun e => by
            rw [h3 e] at hX
            simp at hX
          have hl := h2 hne
          obtain ⟨x, r, hx⟩ := List.exists_cons_of_ne_nil hl
          refine h6 A a (cutTo k ps I).2 [] (by rw [hX]; simp) q ?_
          rw [hx] at hq ⊢
          exact hq
        · exact h6 A a b (C' ++ [(cutTo k ps I).2]) (by rw [hX]; simp) q hq
    · rw [if_neg hf]
      refine ⟨?_, fun _ => by simp, fun h => by simp at h, ?_, ?_, ?_⟩
      · rw [List.flatten_append, List.flatten_singleton, h1]
      · intro l hl
        rcases List.mem_append.1 hl with hl | hl
        · exact h4 l hl
        · rw [List.mem_singleton.1 hl]
          refine ⟨fun e => hf ?_, h5⟩
          unfold fitsP
          rw [e]
          refine ⟨by show ((0 : Nat) : Int) < _; omega, ?_⟩
          show (0 : Int) + _ ≤ _
          omega
      · refine ⟨by show ((1 : Nat) : Int) ≤ _; omega, by show gramsOf ps [i] ≤ _; rw [gramsOf_one]; exact hgi⟩
      · intro A a b C h q hq
        rcases snoc_split h with ⟨rfl, rfl, hX⟩ | ⟨C', rfl, hX⟩
        · obtain ⟨_, h8⟩ := List.append_inj' hX rfl
          have ha : (cutTo k ps I).2 = a := by simpa using h8
          have hqi : i = q := by simpa using hq
          rw [← ha, ← hqi]
          exact hf
        · exact h6 A a b C' hX q hq
theorem cuts_ok {k : Pck} {ps : List Pce} (hk : 1 ≤ k.pieces) (hg0 : 0 ≤ k.grams) (I : List Int) (hg : ∀ i ∈ I, (pcAt ps i).grams ≤ k.grams) :
    (cuts k ps I).flatten = I ∧ (∀ l ∈ cuts k ps I, l ≠ [] ∧ (l.length : Int) ≤ k.pieces ∧ gramsOf ps l ≤ k.grams) ∧ ∀ A a b C, cuts k ps I = A ++ a :: b :: C → ∀ i, b.head? = Option.some i → ¬ fitsP k ps a i := by
  obtain ⟨h1, h2, h3, h4, h5, h6⟩ := cut_ok hk hg0 I hg
  unfold cuts
  by_cases hl : 0 < (cutTo k ps I).2.length
  · rw [if_pos hl]
    refine ⟨by rw [List.flatten_append, List.flatten_singleton]; exact h1, fun l hm => ?_, h6⟩
    rcases List.mem_append.1 hm with hm | hm
    · exact h4 l hm
    · rw [List.mem_singleton.1 hm]
      exact ⟨fun e => by rw [e] at hl; simp at hl, h5⟩
  · rw [if_neg hl]
    have hn : (cutTo k ps I).2 = [] := List.length_eq_zero_iff.1 (by omega)
    have hI : I = [] := Classical.byContradiction (fun e => h2 e hn)
    rw [h3 hI]
    refine ⟨by rw [hI]; rfl, fun l hm => absurd hm (by simp), fun A a b C h => ?_⟩
    have := congrArg List.length h
    simp at this
end Go.Proofs.YtojedplbhialpaaGreatDoor

/-! T1 -/
namespace Go.Proofs.YtojedplbhialpaaGreatDoor
open Go.RowKit
set_option linter.unusedVariables false
set_option maxRecDepth 100000
def numsR (a b : Nat) : List Int := (List.range (b - a)).map (fun q : Nat => ((a + q : Nat) : Int))
theorem numsR_len (a b : Nat) : (numsR a b).length = b - a := by unfold numsR; simp
theorem numsR_at {a b i : Nat} (h : i < (numsR a b).length) : (numsR a b)[i] = ((a + i : Nat) : Int) := by simp only [numsR, List.getElem_map, List.getElem_range]
theorem numsR_snoc {a b : Nat} (h : a ≤ b) : numsR a (b + 1) = numsR a b ++ [(b : Int)] := by
  unfold numsR
  rw [show b + 1 - a = (b - a) + 1 by omega, List.range_succ, List.map_append]
  simp
  omega
theorem numsR_nil (a : Nat) : numsR a a = [] := by unfold numsR; simp
theorem numsR_app {a b c : Nat} (h1 : a ≤ b) (h2 : b ≤ c) : numsR a b ++ numsR b c = numsR a c := by
  refine List.ext_getElem (by rw [List.length_append, numsR_len, numsR_len, numsR_len]; omega) (fun i hi hi' => ?_)
  by_cases h : i < (numsR a b).length
  · rw [List.getElem_append_left h, numsR_at, numsR_at]
  · rw [List.getElem_append_right (by omega), numsR_at, numsR_at, numsR_len]
    rw [numsR_len] at h
    congr 1
    omega
def shareN (f t len : Nat) : Nat := (t - f + len - 1) / len
def shareAt (f t len q : Nat) : List Int := numsR (f + q * len) (min (f + (q + 1) * len) t)
def shareR (f t len : Nat) : List (List Int) := (List.range (shareN f t len)).map (shareAt f t len)
theorem shareN_lt {f t len q : Nat} (hl : 1 ≤ len) : q < shareN f t len ↔ f + q * len < t := by
  unfold shareN
  have h1 := Nat.div_add_mod (t - f + len - 1) len
  have h2 := Nat.mod_lt (t - f + len - 1) (show 0 < len by omega)
  obtain ⟨D, hD⟩ : ∃ D, D = (t - f + len - 1) / len := ⟨_, rfl⟩
  rw [← hD] at h1 ⊢
  constructor
  · intro h
    have h3 : (q + 1) * len ≤ len * D := by rw [Nat.mul_comm len D]; exact Nat.mul_le_mul_right _ h
    rw [Nat.add_mul] at h3
    omega
  · intro h
    refine Nat.lt_of_not_le (fun h3 => ?_)
    have h4 : len * D ≤ q * len := by rw [Nat.mul_comm len D]; exact Nat.mul_le_mul_right _ h3
    omega
theorem shareR_len (f t len : Nat) : (shareR f t len).length = shareN f t len := by unfold shareR; simp
theorem shareAt_len {f t len q : Nat} (hl : 1 ≤ len) (h : q < shareN f t len) : 1 ≤ (shareAt f t len q).length ∧ (shareAt f t len q).length ≤ len := by
  have := (shareN_lt hl).1 h
  unfold shareAt
  rw [numsR_len, Nat.add_mul]
  omega
theorem shareAt_full {f t len q : Nat} (hl : 1 ≤ len) (h : q + 1 < shareN f t len) : (shareAt f t len q).length = len := by
  have := (shareN_lt hl).1 h
  unfold shareAt
  rw [numsR_len]
  rw [Nat.add_mul] at this ⊢
  omega
theorem share_flat {f t len : Nat} (hl : 1 ≤ len) (hft : f ≤ t) : (shareR f t len).flatten = numsR f t := by
  have h : ∀ n, n ≤ shareN f t len → ((List.range n).map (shareAt f t len)).flatten = numsR f (min (f + n * len) t) := fun n => by
    induction n with
    | zero =>
      intro _
      simp
      rw [Nat.min_eq_left hft, numsR_nil]
    | succ n ih =>
      intro hn
      have hlt := (shareN_lt hl).1 (show n < shareN f t len by omega)
      rw [List.range_succ, List.map_append, List.flatten_append, ih (by omega)]
      simp only [List.map_cons, List.map_nil, List.flatten_cons, List.flatten_nil, List.append_nil]
      unfold shareAt
      rw [Nat.min_eq_left (Nat.le_of_lt hlt)]
      refine numsR_app (by omega) ?_
      rw [Nat.add_mul]
      omega
  have h1 := h _ (Nat.le_refl _)
  have h2 : ¬ (f + shareN f t len * len < t) := fun hc => absurd ((shareN_lt hl).2 hc) (Nat.lt_irrefl _)
  rw [Nat.min_eq_right (by omega)] at h1
  exact h1
def takesOf (zs : List Int) (x : Grp) : List Int := x.items.filter (fun i => decide (zs.getD i.toNat (-1) = x.lvl))
def bunOf (ps : List Pce) (x : Grp) (l : List Int) : Bun := ⟨x.lvl, x.name, l.map (fun i => (pcAt ps i).id), gramsOf ps l⟩
def bunsOf (k : Pck) (ps : List Pce) (zs : List Int) (x : Grp) : List Bun := (cuts k ps (takesOf zs x)).map (bunOf ps x)
structure PkS where
  buns : List Bun
  tras : List Tra
  cons : List Con
  beg : Nat
def endsL (Gs : List Grp) (j : Nat) : Prop := ∀ h : j + 1 < Gs.length, Gs[j + 1].lvl ≠ (Gs[j]'(by omega)).lvl
open Classical in
noncomputable def pkStep (k : Pck) (ps : List Pce) (zs : List Int) (Gs : List Grp) (st : PkS) (j : Nat) : PkS :=
  if hj : j < Gs.length then
    let bs := st.buns ++ bunsOf k ps zs Gs[j]
    let ts := st.tras ++ (shareR st.buns.length bs.length k.bundles.toNat).map (fun l => ⟨Gs[j].lvl, Gs[j].name, l⟩)
    if endsL Gs j then ⟨bs, ts, st.cons ++ (shareR st.beg ts.length k.trays.toNat).map (fun l => ⟨Gs[j].lvl, l⟩), ts.length⟩ else ⟨bs, ts, st.cons, st.beg⟩
  else st
noncomputable def pkTo (k : Pck) (ps : List Pce) (zs : List Int) (Gs : List Grp) (n : Nat) : PkS := (List.range n).foldl (pkStep k ps zs Gs) ⟨[], [], [], 0⟩
theorem pkTo_succ (k : Pck) (ps : List Pce) (zs : List Int) (Gs : List Grp) (n : Nat) : pkTo k ps zs Gs (n + 1) = pkStep k ps zs Gs (pkTo k ps zs Gs n) n := by
  unfold pkTo
  rw [List.range_succ, List.foldl_append]; rfl
def pckB (k : Pck) : Bool := decide (1 ≤ k.pieces ∧ k.pieces ≤ 2000 ∧ 1 ≤ k.grams ∧ k.grams ≤ 1000000) && decide (1 ≤ k.bundles ∧ k.bundles ≤ 200 ∧ 1 ≤ k.trays ∧ k.trays ≤ 200)
end Go.Proofs.YtojedplbhialpaaGreatDoor

/-! TA -/
namespace Go.Proofs.YtojedplbhialpaaGreatDoor
open Go.RowKit Go.Sort
set_option linter.unusedVariables false
set_option maxRecDepth 100000
theorem Tryz.infoSlT : (Tryz.prog.info? 30).map (fun i => (i.zero, i.size, i.bytes)) = some (some (.slice none 0 0), 1, 24) := by kernel_rfl
def pckV (k : Pck) : Value := .agg #[.int .i64 k.pieces, .int .i64 k.grams, .int .i64 k.bundles, .int .i64 k.trays]
set_option maxHeartbeats 8000000 in
theorem tRight_any (k : Pck) (w : World) : Calls Tryz.prog 100 #[pckV k] w fun e w' => e = .returned (.bool (pckB k)) ∧ Below w.heap.size w w' := by
  obtain ⟨p, g, b, t⟩ := k
  have hE : pckB ⟨p, g, b, t⟩ = (decide (1 ≤ p ∧ p ≤ 2000 ∧ 1 ≤ g ∧ g ≤ 1000000) && decide (1 ≤ b ∧ b ≤ 200 ∧ 1 ≤ t ∧ t ≤ 200)) := rfl
  obtain ⟨R, hR⟩ : ∃ R, R = pckB ⟨p, g, b, t⟩ := ⟨_, rfl⟩
  rw [← hR] at hE ⊢
  have HE := Lib.hid hE
  have hb : Below w.heap.size w (w.alloc (.cells #[.int .i64 p, .int .i64 g, .int .i64 b, .int .i64 t] 32)) := (Below.refl _ w).alloc (Nat.le_refl _) _
  have HB := Lib.hid hb
  have HF : Hid (¬ (1 ≤ p ∧ p ≤ 2000 ∧ 1 ≤ g ∧ g ≤ 1000000) → R = false) := fun h => by rw [HE.out, decide_eq_false h]; rfl
  have HF2 : Hid (¬ (1 ≤ b ∧ b ≤ 200 ∧ 1 ≤ t ∧ t ≤ 200) → R = false) := fun h => by rw [HE.out, decide_eq_false h, Bool.and_false]
  have HT : Hid ((1 ≤ p ∧ p ≤ 2000 ∧ 1 ≤ g ∧ g ≤ 1000000) → (1 ≤ b ∧ b ≤ 200 ∧ 1 ≤ t ∧ t ≤ 200) → R = true) := fun h h' => by rw [HE.out, decide_eq_true h, decide_eq_true h']; rfl
  unfold pckV
  dsimp only
  clear hE hR hb HE
  by_cases q0 : p < 1
  · have hr : R = false := HF.out (by omega)
    have HRR := Lib.hid hr
    clear hr
    go_enter Tryz.func100, Tryz.ntmps100
    go_wp2_with fail
    go_ret
    rw [HRR.out]
    exact ⟨by simp, HB.out⟩
  · skip
    by_cases q1 : p > 2000
    · have hr : R = false := HF.out (by omega)
      have HRR := Lib.hid hr
      clear hr
      go_enter Tryz.func100, Tryz.ntmps100
      go_wp2_with fail
      go_ret
      rw [HRR.out]
      exact ⟨by simp, HB.out⟩
    · skip
      by_cases q2 : g < 1
      · have hr : R = false := HF.out (by omega)
        have HRR := Lib.hid hr
        clear hr
        go_enter Tryz.func100, Tryz.ntmps100
        go_wp2_with fail
        go_ret
        rw [HRR.out]
        exact ⟨by simp, HB.out⟩
      · skip
        by_cases q3 : g > 1000000
        · have hr : R = false := HF.out (by omega)
          have HRR := Lib.hid hr
          clear hr
          go_enter Tryz.func100, Tryz.ntmps100
          go_wp2_with fail
          go_ret
          rw [HRR.out]
          exact ⟨by simp, HB.out⟩
        · skip
          by_cases q4 : ¬ b ≥ 1
          · have hr : R = false := HF2.out (by omega)
            have HRR := Lib.hid hr
            clear hr
            go_enter Tryz.func100, Tryz.ntmps100
            go_wp2_with fail
            go_ret
            rw [HRR.out]
            exact ⟨by simp, HB.out⟩
          · skip
            by_cases q5 : ¬ b ≤ 200
            · have hr : R = false := HF2.out (by omega)
              have HRR := Lib.hid hr
              clear hr
              go_enter Tryz.func100, Tryz.ntmps100
              go_wp2_with fail
              go_ret
              rw [HRR.out]
              exact ⟨by simp, HB.out⟩
            · skip
              by_cases q6 : ¬ t ≥ 1
              · have hr : R = false := HF2.out (by omega)
                have HRR := Lib.hid hr
                clear hr
                go_enter Tryz.func100, Tryz.ntmps100
                go_wp2_with fail
                go_ret
                rw [HRR.out]
                exact ⟨by simp, HB.out⟩
              · skip
                by_cases q7 : ¬ t ≤ 200
                · have hr : R = false := HF2.out (by omega)
                  have HRR := Lib.hid hr
                  clear hr
                  go_enter Tryz.func100, Tryz.ntmps100
                  go_wp2_with fail
                  go_ret
                  rw [HRR.out]
                  exact ⟨by simp, HB.out⟩
                · skip
                  have hr : R = true := HT.out (by omega) (by omega)
                  have HRR := Lib.hid hr
                  have y4 : b ≥ 1 := by omega
                  have y5 : b ≤ 200 := by omega
                  have y6 : t ≥ 1 := by omega
                  have y7 : t ≤ 200 := by omega
                  clear hr
                  go_enter Tryz.func100, Tryz.ntmps100
                  go_wp2_with fail
                  go_ret
                  rw [HRR.out]
                  exact ⟨by simp, HB.out⟩
def OwnsLL (w : World) (base : Nat) (v : Value) (ts : List (List Int)) : Prop :=
  ∃ L : List (List Int × Value), L.map Prod.fst = ts ∧ (∀ p ∈ L, RowJ w base p.2 p.1) ∧ w.ownsRow base 30 1 v L.length (L.map Prod.snd)
theorem OwnsLL.nil (w : World) (base : Nat) : OwnsLL w base (.slice none 0 0) [] := ⟨[], rfl, by simp, World.ownsRow_nil _ _ _ _⟩
theorem row_belowT {w w' : World} {base : Nat} {e : TypeId} {k n : Nat} {v : Value} {xs : List Value} (h : w.ownsRow base e k v n xs) (hb : Below w.heap.size w w') : w'.ownsRow base e k v n xs := by
  refine h.kept (grown_none hb) ?_
  cases v.ownBlock with
  | none => exact .inl rfl
  | some g => exact .inr (by simp)
theorem OwnsLL.below {w w' : World} {base : Nat} {v : Value} {ts : List (List Int)} (h : OwnsLL w base v ts) (hb : Below w.heap.size w w') : OwnsLL w' base v ts := by
  obtain ⟨L, hL, h1, h2⟩ := h
  exact ⟨L, hL, fun p hp => (h1 p hp).below hb, row_belowT h2 hb⟩
theorem OwnsLL.form {w : World} {base : Nat} {v : Value} {ts : List (List Int)} (h : OwnsLL w base v ts) : ∃ a cap, v = .slice a ts.length cap := by
  obtain ⟨L, rfl, _, ho⟩ := h
  rw [List.length_map]
  rcases Joins.ownsRow_forms ho with ⟨rfl, hp⟩ | ⟨g, cap, rfl⟩
  · exact ⟨none, 0, by rw [hp]⟩
  · exact ⟨_, cap, rfl⟩
theorem OwnsLL.add {W3 w2 : World} {base : Nat} {v v' u : Value} {l : List Int} {L : List (List Int × Value)} (hr : ∀ p ∈ L, RowJ W3 base p.2 p.1) (hu : RowJ W3 base u l) (hO : W3.ownsRow base 30 1 v L.length (L.map Prod.snd)) (hg : W3.grownBy w2 v.ownBlock)
    (ho : w2.ownsRow base 30 1 v' (L.length + 1) (L.map Prod.snd ++ [u])) : OwnsLL w2 base v' (L.map Prod.fst ++ [l]) := by
  have nA := own_not hO (T := 3) (by decide)
  refine ⟨L ++ [(l, u)], by rw [List.map_append]; rfl, fun p hp => ?_, ?_⟩
  · rcases List.mem_append.1 hp with hp | hp
    · exact (hr p hp).kept hg (fun g e => .inr (nA g e))
    · rw [List.mem_singleton.1 hp]; exact hu.kept hg (fun g e => .inr (nA g e))
  · rw [List.map_append, List.length_append]
    simpa using ho
theorem own_mono {w : World} {base base' : Nat} {e : TypeId} {size : Nat} {v : Value} {n : Nat} {xs : List Value} (h : w.ownsRow base e size v n xs) (hb : base' ≤ base) : w.ownsRow base' e size v n xs := by
  obtain ⟨h1, h2 | ⟨g, cap, cur, hv, h3, h4⟩⟩ := h
  · exact ⟨h1, .inl h2⟩
  · exact ⟨h1, .inr ⟨g, cap, cur, hv, Nat.le_trans hb h3, h4⟩⟩
theorem rowJ_own {w : World} {base : Nat} {v : Value} {zs : List Int} (h : w.ownsRow base 3 1 v zs.length (zs.map (Value.int .i64))) : RowJ w base v zs := by
  rcases h with ⟨_, ⟨rfl, hp⟩ | ⟨g, cap, cur, rfl, hb, hh, _, _, _, htk⟩⟩
  · obtain rfl : zs = [] := List.length_eq_zero_iff.1 hp
    exact RowJ.nil _ _ _ _
  · refine ⟨_, cap, rfl, fun h0 => ⟨g, 0, cur, rfl, hb, hh, fun i hi => ?_⟩⟩
    rw [Nat.mul_one] at htk
    have h1 : (cur.toList.take zs.length)[i]? = some (.int .i64 zs[i]) := by rw [htk, List.getElem?_map, List.getElem?_eq_getElem hi]; rfl
    rw [List.getElem?_take, if_pos hi] at h1
    rw [Nat.zero_add]
    simpa using h1
set_option maxHeartbeats 16000000 in
theorem shares_any (f t len : Nat) (w : World) (hl : 1 ≤ len) (hft : f ≤ t) (ht : t ≤ 1000000) (hlen : len ≤ 1000000) :
    Calls Tryz.prog 48 #[.int .i64 f, .int .i64 t, .int .i64 len] w fun e w' => ∃ v, e = .returned v ∧ Below w.heap.size w w' ∧ OwnsLL w' w.heap.size v (shareR f t len) := by
  obtain ⟨i0, hi⟩ := info_parts Tryz.infoI
  have HI := Lib.hid hi
  obtain ⟨j0, hj⟩ := info_parts Tryz.infoSlT
  have HJ := Lib.hid hj
  have hnn : shareN f t len ≤ 1000000 := by
    refine Nat.le_of_not_lt (fun h => ?_)
    have h1 := (shareN_lt hl).1 h
    have h2 : 1000000 * 1 ≤ 1000000 * len := Nat.mul_le_mul_left _ hl
    omega
  have HSN := Lib.hid (fun q => shareN_lt (f := f) (t := t) (q := q) hl)
  clear hi hj
  go_enter Tryz.func48, Tryz.ntmps48
  go_wp2_with fail
  go_loopw [0, 7] (fun fr v wx => ∃ q : Nat, q ≤ shareN f t len ∧ fr = .int .i64 (min (f + q * len) t : Nat) ∧ Below w.heap.size w wx ∧ OwnsLL wx w.heap.size v ((List.range q).map (shareAt f t len))) (fun fr _ _ => t - (intOf fr).toNat)
  case atStart => exact ⟨0, Nat.zero_le _, by simp; rw [Nat.min_eq_left hft], Below.refl _ _, OwnsLL.nil _ _⟩
  case round =>
    obtain ⟨wo, hwo⟩ : ∃ x, x = wr := ⟨_, rfl⟩
    subst hwo
    obtain ⟨q, hq, rfl, hB, hO⟩ := hrel
    obtain ⟨f0, hf0⟩ : ∃ f0, f0 = f + q * len := ⟨_, rfl⟩
    rw [← hf0]
    have HF0 := Lib.hid hf0
    have hqq := HSN.out q
    rw [← hf0] at hqq
    have HO := Lib.hid hO
    have HB := Lib.hid hB
    clear hf0
    by_cases hlt : f0 < t
    · have hqn := hqq.2 hlt
      have hmin : min f0 t = f0 := Nat.min_eq_left (Nat.le_of_lt hlt)
      rw [hmin]
      clear hmin hqq
      obtain ⟨al, cl, hform⟩ := hO.form
      rw [List.length_map, List.length_range] at hform
      clear hO hB
      subst hform
      go_wp2_with fail
      go_loopw [0, 8] (fun fr v wx => ∃ p : Nat, p ≤ len ∧ f0 + p ≤ t ∧ fr = .int .i64 (f0 + p : Nat) ∧ Below wo.heap.size wo wx ∧ wx.ownsRow wo.heap.size 3 1 v p ((numsR f0 (f0 + p)).map (Value.int .i64))) (fun fr _ _ => t - (intOf fr).toNat)
      case atStart => exact ⟨0, Nat.zero_le _, by omega, by simp, Below.refl _ _, by rw [Nat.add_zero, numsR_nil]; exact World.ownsRow_nil _ _ _ _⟩
      case round =>
        obtain ⟨p, hp, hpt, rfl, hBq, hOq⟩ := hrel
        have HBQ := Lib.hid hBq
        have HOQ := Lib.hid hOq
        clear hBq
        by_cases hin : p < len ∧ f0 + p < t
        · obtain ⟨hp1, hp2⟩ := hin
          have hsn := numsR_snoc (show f0 ≤ f0 + p by omega)
          have HSNC := Lib.hid hsn
          clear hsn
          obtain ⟨m, hm⟩ : ∃ m, m = f0 + p := ⟨_, rfl⟩
          have HMM := Lib.hid hm
          rw [← hm] at hp2 hpt HSNC ⊢
          clear hm
          rcases Joins.ownsRow_forms hOq with ⟨rfl, hpn⟩ | ⟨g2, cap2, rfl⟩
          · have HPN := Lib.hid hpn
            clear hpn hOq
            go_wp2_with (at_builtin; refine wpList_append_own _ rfl _ _ 30 rfl wo.heap.size 3 i0 (.int .i64 0) 1 8 Tryz.underlying30 HI.out.1 HI.out.2.1 HI.out.2.2.1 HI.out.2.2.2 rfl (by decide) _ _ _ rfl (HOQ.out.alloc _) ⟨wr.heap.size, 0, none⟩ 1 1 [.int .i64 m] rfl rfl (cells_new _ _ _) (by simp [Value.oneCell']) (by unfold maxLen; omega) (by omega) (by have := HBQ.out.size; simp; omega) ?_; intro v' w5 hown' hgrow _)
            go_roundw
            case rel =>
              refine ⟨p + 1, by omega, by have := HMM.out; omega, by have := HMM.out; go_num, (HBQ.out.alloc HBQ.out.size _).grown hgrow (by have := HBQ.out.size; simp; omega) (fun r e => (HOQ.out.lt r e).1), ?_⟩
              have hmm := HMM.out
              rw [show f0 + (p + 1) = m + 1 by omega, HSNC.out, List.map_append, hmm]
              rw [hmm] at hown'
              exact hown'
            case measure => simp [intOf]; omega
          · clear hOq
            go_wp2_with (at_builtin; refine wpList_append_own _ rfl _ _ 30 rfl wo.heap.size 3 i0 (.int .i64 0) 1 8 Tryz.underlying30 HI.out.1 HI.out.2.1 HI.out.2.2.1 HI.out.2.2.2 rfl (by decide) _ _ _ rfl (HOQ.out.alloc _) ⟨wr.heap.size, 0, none⟩ 1 1 [.int .i64 m] rfl rfl (cells_new _ _ _) (by simp [Value.oneCell']) (by unfold maxLen; omega) (by omega) (by have := HBQ.out.size; simp; omega) ?_; intro v' w5 hown' hgrow _)
            go_roundw
            case rel =>
              refine ⟨p + 1, by omega, by have := HMM.out; omega, by have := HMM.out; go_num, (HBQ.out.alloc HBQ.out.size _).grown hgrow (by have := HBQ.out.size; simp; omega) (fun r e => (HOQ.out.lt r e).1), ?_⟩
              have hmm := HMM.out
              rw [show f0 + (p + 1) = m + 1 by omega, HSNC.out, List.map_append, hmm]
              rw [hmm] at hown'
              exact hown'
            case measure => simp [intOf]; omega
        · have hp1 : 1 ≤ p := by omega
          have hmn : min (f0 + len) t = f0 + p := by omega
          have hsa : shareAt f t len q = numsR f0 (f0 + p) := by
            unfold shareAt
            rw [Nat.add_mul, Nat.one_mul, ← Nat.add_assoc, ← HF0.out, hmn]
          have HSA := Lib.hid hsa
          have HMN := Lib.hid hmn
          obtain ⟨L, hL, hLr, hLo⟩ := HO.out
          have HL := Lib.hid hL
          have HLR := Lib.hid hLr
          have HLO := Lib.hid hLo
          have hll : L.length ≤ 1000000 := by
            have := congrArg List.length hL
            simp at this
            omega
          rcases Joins.ownsRow_forms hOq with ⟨rfl, hpn⟩ | ⟨g2, cap2, rfl⟩
          · omega
          · have hRJ : RowJ wr w.heap.size (.slice (some ⟨g2, 0, none⟩) p cap2) (numsR f0 (f0 + p)) := by
              have hln : (numsR f0 (f0 + p)).length = p := by rw [numsR_len]; omega
              have h1 : wr.ownsRow w.heap.size 3 1 (.slice (some ⟨g2, 0, none⟩) p cap2) (numsR f0 (f0 + p)).length ((numsR f0 (f0 + p)).map (Value.int .i64)) := by
                rw [hln]
                exact own_mono HOQ.out HB.out.size
              exact rowJ_own h1
            have HRJ := Lib.hid hRJ
            clear hRJ hOq hsa hmn hL hLr hLo
            by_cases h1 : p < len
            · have h2 : ¬ f0 + p < t := fun h => hin ⟨h1, h⟩
              clear hin
              go_wp2_with (at_builtin; refine wpList_append_own _ rfl _ _ 116 rfl w.heap.size 30 j0 (.slice none 0 0) 1 24 Tryz.underlying116 HJ.out.1 HJ.out.2.1 HJ.out.2.2.1 HJ.out.2.2.2 rfl (by decide) _ L.length _ rfl ((row_belowT HLO.out HBQ.out).alloc _) ⟨wr.heap.size, 0, none⟩ 1 1 [.slice (some ⟨g2, 0, none⟩) p cap2] rfl rfl (cells_new _ _ _) (by simp [Value.oneCell']) (by unfold maxLen; omega) (by omega) (by have := HBQ.out.size; have := HB.out.size; simp; omega) ?_; intro v' w5 hown' hgrow _)
              go_roundw
              case rel =>
                refine ⟨q + 1, hqn, by have := HMN.out; have := HF0.out; rw [Nat.add_mul, Nat.one_mul]; go_num, ?_, ?_⟩
                · exact ((below_c HB.out HB.out.size HBQ.out).alloc (below_c HB.out HB.out.size HBQ.out).size _).grown hgrow (by have := HBQ.out.size; have := HB.out.size; simp; omega) (fun r e => (HLO.out.lt r e).1)
                · rw [List.range_succ, List.map_append, List.map_cons, List.map_nil, HSA.out, ← HL.out]
                  exact OwnsLL.add (fun p hp => ((HLR.out p hp).below HBQ.out).below ((Below.refl _ _).alloc (Nat.le_refl _) _)) (HRJ.out.below ((Below.refl _ _).alloc (Nat.le_refl _) _)) ((row_belowT HLO.out HBQ.out).alloc _) hgrow hown'
              case measure => simp [intOf]; omega
            · clear hin
              go_wp2_with (at_builtin; refine wpList_append_own _ rfl _ _ 116 rfl w.heap.size 30 j0 (.slice none 0 0) 1 24 Tryz.underlying116 HJ.out.1 HJ.out.2.1 HJ.out.2.2.1 HJ.out.2.2.2 rfl (by decide) _ L.length _ rfl ((row_belowT HLO.out HBQ.out).alloc _) ⟨wr.heap.size, 0, none⟩ 1 1 [.slice (some ⟨g2, 0, none⟩) p cap2] rfl rfl (cells_new _ _ _) (by simp [Value.oneCell']) (by unfold maxLen; omega) (by omega) (by have := HBQ.out.size; have := HB.out.size; simp; omega) ?_; intro v' w5 hown' hgrow _)
              go_roundw
              case rel =>
                refine ⟨q + 1, hqn, by have := HMN.out; have := HF0.out; rw [Nat.add_mul, Nat.one_mul]; go_num, ?_, ?_⟩
                · exact ((below_c HB.out HB.out.size HBQ.out).alloc (below_c HB.out HB.out.size HBQ.out).size _).grown hgrow (by have := HBQ.out.size; have := HB.out.size; simp; omega) (fun r e => (HLO.out.lt r e).1)
                · rw [List.range_succ, List.map_append, List.map_cons, List.map_nil, HSA.out, ← HL.out]
                  exact OwnsLL.add (fun p hp => ((HLR.out p hp).below HBQ.out).below ((Below.refl _ _).alloc (Nat.le_refl _) _)) (HRJ.out.below ((Below.refl _ _).alloc (Nat.le_refl _) _)) ((row_belowT HLO.out HBQ.out).alloc _) hgrow hown'
              case measure => simp [intOf]; omega
    · have hmin : min f0 t = t := Nat.min_eq_right (by omega)
      rw [hmin]
      have hqe : q = shareN f t len := by
        have := hqq
        omega
      clear hmin hqq hO hB
      go_wp2_with fail
      go_ret
      refine ⟨_, rfl, HB.out, ?_⟩
      have := HO.out
      rw [hqe] at this
      exact this
end Go.Proofs.YtojedplbhialpaaGreatDoor

/-! T3 -/
namespace Go.Proofs.YtojedplbhialpaaGreatDoor
open Go.RowKit
set_option linter.unusedVariables false
set_option maxRecDepth 100000
structure PkOk (k : Pck) (ps : List Pce) (zs : List Int) (Gs : List Grp) (n : Nat) (st : PkS) : Prop where
  buns : st.buns = (Gs.take n).flatMap (bunsOf k ps zs)
  nb : st.tras.flatMap (fun t => t.bs) = numsR 0 st.buns.length
  nt : st.cons.flatMap (fun c => c.ts) = numsR 0 st.beg
  beg : st.beg ≤ st.tras.length
  fin : (n = 0 ∨ (∀ h : n < Gs.length, Gs[n].lvl ≠ (Gs.getD (n - 1) Gs[n]).lvl)) → st.beg = st.tras.length
theorem flat_map_bs {α : Type} (l : List (List Int)) (f : List Int → α) (g : α → List Int) (h : ∀ x, g (f x) = x) : (l.map f).flatMap g = l.flatten := by
  induction l with
  | nil => rfl
  | cons x r ih => rw [List.map_cons, List.flatMap_cons, h, ih, List.flatten_cons]
theorem pk_ok {k : Pck} (hb : 1 ≤ k.bundles) (ht : 1 ≤ k.trays) (ps : List Pce) (zs : List Int) (Gs : List Grp) : ∀ n, n ≤ Gs.length → PkOk k ps zs Gs n (pkTo k ps zs Gs n)
  | 0, _ => ⟨rfl, by unfold pkTo; simp [numsR_nil], by unfold pkTo; simp [numsR_nil], by unfold pkTo; simp, fun _ => by unfold pkTo; simp⟩
  | n + 1, hn => by
    obtain ⟨h1, h2, h3, h4, h5⟩ := pk_ok hb ht ps zs Gs n (by omega)
    have hlt : n < Gs.length := by omega
    rw [pkTo_succ]
    unfold pkStep
    rw [dif_pos hlt]
    obtain ⟨st, hst⟩ : ∃ st, st = pkTo k ps zs Gs n := ⟨_, rfl⟩
    rw [← hst] at h1 h2 h3 h4 h5 ⊢
    dsimp only
    obtain ⟨bs, hbs⟩ : ∃ bs, bs = st.buns ++ bunsOf k ps zs Gs[n] := ⟨_, rfl⟩
    obtain ⟨ts, hts⟩ : ∃ ts : List Tra, ts = st.tras ++ (shareR st.buns.length bs.length k.bundles.toNat).map (fun l => ⟨Gs[n].lvl, Gs[n].name, l⟩) := ⟨_, rfl⟩
    rw [← hbs, ← hts]
    have hkb : 1 ≤ k.bundles.toNat := by omega
    have hkt : 1 ≤ k.trays.toNat := by omega
    have hbl : st.buns.length ≤ bs.length := by rw [hbs, List.length_append]; omega
    have htl : st.tras.length ≤ ts.length := by rw [hts, List.length_append]; omega
    have e1 : bs = (Gs.take (n + 1)).flatMap (bunsOf k ps zs) := by
      rw [hbs, h1, List.take_succ_eq_append_getElem hlt, List.flatMap_append]
      simp
    have e2 : ts.flatMap (fun t => t.bs) = numsR 0 bs.length := by
      rw [hts, List.flatMap_append, h2, flat_map_bs _ _ _ (fun _ => rfl), share_flat hkb hbl]
      exact numsR_app (Nat.zero_le _) hbl
    have hends : endsL Gs n ↔ (∀ h : n + 1 < Gs.length, Gs[n + 1].lvl ≠ (Gs.getD (n + 1 - 1) Gs[n + 1]).lvl) := by
      unfold endsL
      constructor
      · intro h h'
        rw [Nat.add_sub_cancel, List.getD_eq_getElem?_getD, List.getElem?_eq_getElem hlt]
        exact h h'
      · intro h h'
        have := h h'
        rw [Nat.add_sub_cancel, List.getD_eq_getElem?_getD, List.getElem?_eq_getElem hlt] at this
        exact this
    split
    · refine ⟨e1, e2, ?_, Nat.le_refl _, fun _ => rfl⟩
      show (st.cons ++ _).flatMap _ = _
      rw [List.flatMap_append, h3, flat_map_bs _ _ _ (fun _ => rfl), share_flat hkt (by omega)]
      exact numsR_app (Nat.zero_le _) (by omega)
    · rename_i hne
      refine ⟨e1, e2, h3, by show st.beg ≤ ts.length; omega, fun h => ?_⟩
      rcases h with h | h
      · omega
      · exact absurd (hends.2 h) hne
end Go.Proofs.YtojedplbhialpaaGreatDoor

/-! T4 -/
namespace Go.Proofs.YtojedplbhialpaaGreatDoor
open Go.RowKit
set_option linter.unusedVariables false
set_option maxRecDepth 100000
def BunLe (a b : Bun) : Prop := a.lvl < b.lvl ∨ a.lvl = b.lvl ∧ (ltB a.grp b.grp = true ∨ a.grp = b.grp ∧ ∀ i ∈ a.ids, ∀ j ∈ b.ids, i < j)
structure GrpsIn (ps : List Pce) (Gs : List Grp) : Prop where
  order : Gs.Pairwise (fun g h => g.lvl < h.lvl ∨ g.lvl = h.lvl ∧ ltB g.name h.name = true)
  items : ∀ x ∈ Gs, x.items.Pairwise (· < ·) ∧ ∀ i ∈ x.items, 0 ≤ i ∧ i.toNat < ps.length
def IdsUp (ps : List Pce) : Prop := ∀ i j, i < j → j < ps.length → (pcAt ps (i : Nat)).id < (pcAt ps (j : Nat)).id
theorem takes_sorted {ps : List Pce} {Gs : List Grp} (hu : IdsUp ps) (h : GrpsIn ps Gs) (zs : List Int) {x : Grp} (hx : x ∈ Gs) : (takesOf zs x).Pairwise (fun i j => (pcAt ps i).id < (pcAt ps j).id) := by
  obtain ⟨h1, h2⟩ := h.items x hx
  unfold takesOf
  refine List.Pairwise.filter _ ?_
  refine List.Pairwise.imp_of_mem ?_ h1
  intro a b ha hb hab
  obtain ⟨a0, a1⟩ := h2 a ha
  obtain ⟨b0, b1⟩ := h2 b hb
  have := hu a.toNat b.toNat (by omega) b1
  rwa [Int.toNat_of_nonneg a0, Int.toNat_of_nonneg b0] at this
theorem bunsOf_in {k : Pck} {ps : List Pce} {zs : List Int} {Gs : List Grp} (hk : 1 ≤ k.pieces) (hg0 : 0 ≤ k.grams) (hg : ∀ p ∈ ps, p.grams ≤ k.grams) (hu : IdsUp ps) (h : GrpsIn ps Gs) {x : Grp} (hx : x ∈ Gs) :
    (bunsOf k ps zs x).Pairwise (fun a b => ∀ i ∈ a.ids, ∀ j ∈ b.ids, i < j) ∧ ∀ b ∈ bunsOf k ps zs x, b.lvl = x.lvl ∧ b.grp = x.name ∧ b.ids ≠ [] ∧ (b.ids.length : Int) ≤ k.pieces ∧ b.grams ≤ k.grams ∧ b.ids.Pairwise (· < ·) := by
  have hgi : ∀ i ∈ takesOf zs x, (pcAt ps i).grams ≤ k.grams := fun i hi => by
    obtain ⟨h0, h1⟩ := (h.items x hx).2 i (List.mem_filter.1 hi).1
    unfold pcAt
    rw [List.getD_eq_getElem?_getD, List.getElem?_eq_getElem h1]
    exact hg _ (List.getElem_mem h1)
  obtain ⟨c1, c2, _⟩ := cuts_ok hk hg0 (takesOf zs x) hgi
  have hs := takes_sorted hu h zs hx
  rw [← c1, List.pairwise_flatten] at hs
  obtain ⟨hs1, hs2⟩ := hs
  unfold bunsOf
  refine ⟨?_, fun b hb => ?_⟩
  · rw [List.pairwise_map]
    refine List.Pairwise.imp ?_ hs2
    intro a b hab i hi j hj
    obtain ⟨i', hi', rfl⟩ := List.mem_map.1 hi
    obtain ⟨j', hj', rfl⟩ := List.mem_map.1 hj
    exact hab i' hi' j' hj'
  · obtain ⟨l, hl, rfl⟩ := List.mem_map.1 hb
    obtain ⟨h1, h2, h3⟩ := c2 l hl
    refine ⟨rfl, rfl, ?_, ?_, h3, ?_⟩
    · show l.map _ ≠ []
      intro e
      exact h1 (List.map_eq_nil_iff.1 e)
    · show ((l.map _).length : Int) ≤ _
      rw [List.length_map]; exact h2
    · show (l.map _).Pairwise _
      rw [List.pairwise_map]
      exact hs1 l hl
theorem buns_order {k : Pck} {ps : List Pce} {zs : List Int} {Gs : List Grp} (hk : 1 ≤ k.pieces) (hg0 : 0 ≤ k.grams) (hg : ∀ p ∈ ps, p.grams ≤ k.grams) (hu : IdsUp ps) (h : GrpsIn ps Gs) : (Gs.flatMap (bunsOf k ps zs)).Pairwise BunLe := by
  rw [List.pairwise_flatMap]
  refine ⟨fun x hx => ?_, ?_⟩
  · obtain ⟨h1, h2⟩ := bunsOf_in (zs := zs) hk hg0 hg hu h hx
    refine List.Pairwise.imp_of_mem ?_ h1
    intro a b ha hb hab
    obtain ⟨a1, a2, _⟩ := h2 a ha
    obtain ⟨b1, b2, _⟩ := h2 b hb
    exact .inr ⟨by rw [a1, b1], .inr ⟨by rw [a2, b2], hab⟩⟩
  · refine List.Pairwise.imp_of_mem ?_ h.order
    intro x y hx hy hxy a ha b hb
    obtain ⟨a1, a2, _⟩ := (bunsOf_in (zs := zs) hk hg0 hg hu h hx).2 a ha
    obtain ⟨b1, b2, _⟩ := (bunsOf_in (zs := zs) hk hg0 hg hu h hy).2 b hb
    rcases hxy with hxy | ⟨h1, h2⟩
    · exact .inl (by rw [a1, b1]; exact hxy)
    · exact .inr ⟨by rw [a1, b1]; exact h1, .inl (by rw [a2, b2]; exact h2)⟩
theorem gAll_in {ls : List Lev} {cs : List ByteArray} {ps : List Pce} (h : cs.length = ps.length) : GrpsIn ps (gAll ls cs ls.length) := by
  refine ⟨gAll_order ls cs ls.length, fun x hx => ?_⟩
  obtain ⟨m, n, hm, hn, rfl⟩ := mem_gAll.1 hx
  refine ⟨itm_order ls cs m n, fun i hi => ?_⟩
  obtain ⟨q, hq, _, rfl⟩ := mem_itm.1 hi
  omega
end Go.Proofs.YtojedplbhialpaaGreatDoor

/-! T5 -/
namespace Go.Proofs.YtojedplbhialpaaGreatDoor
open Go.RowKit
set_option linter.unusedVariables false
set_option maxRecDepth 100000
def NextIn {α : Type} (L : List α) (a b : α) : Prop := ∃ A C, L = A ++ a :: b :: C
theorem nextIn_append {α : Type} {X Y : List α} {a b : α} (h : NextIn (X ++ Y) a b) : NextIn X a b ∨ NextIn Y a b ∨ (a ∈ X ∧ b ∈ Y) := by
  obtain ⟨A, C, h⟩ := h
  rcases List.append_eq_append_iff.1 h with ⟨B, rfl, hY⟩ | ⟨B, hX, hY⟩
  · exact .inr (.inl ⟨B, C, hY⟩)
  · match B, hX, hY with
    | [], hX, hY =>
      refine .inr (.inl ⟨[], C, ?_⟩)
      simpa using hY.symm
    | [z], hX, hY =>
      simp at hY
      obtain ⟨rfl, hY⟩ := hY
      refine .inr (.inr ⟨by rw [hX]; simp, by rw [← hY]; simp⟩)
    | z :: y :: B, hX, hY =>
      simp at hY
      obtain ⟨rfl, rfl, _⟩ := hY
      exact .inl ⟨A, B, hX⟩
theorem nextIn_flat {α β : Type} (f : α → List β) {R : α → α → Prop} : ∀ (Gs : List α), Gs.Pairwise R → ∀ a b, NextIn (Gs.flatMap f) a b → (∃ x ∈ Gs, NextIn (f x) a b) ∨ ∃ x ∈ Gs, ∃ y ∈ Gs, R x y ∧ a ∈ f x ∧ b ∈ f y
  | [], _, a, b, ⟨A, C, h⟩ => by simp at h
  | x :: r, hR, a, b, h => by
    rw [List.flatMap_cons] at h
    obtain ⟨h1, h2⟩ := List.pairwise_cons.1 hR
    rcases nextIn_append h with h | h | ⟨ha, hb⟩
    · exact .inl ⟨x, List.mem_cons_self, h⟩
    · rcases nextIn_flat f r h2 a b h with ⟨y, hy, h⟩ | ⟨y, hy, z, hz, h⟩
      · exact .inl ⟨y, List.mem_cons_of_mem _ hy, h⟩
      · exact .inr ⟨y, List.mem_cons_of_mem _ hy, z, List.mem_cons_of_mem _ hz, h⟩
    · obtain ⟨y, hy, hb⟩ := List.mem_flatMap.1 hb
      exact .inr ⟨x, List.mem_cons_self, y, List.mem_cons_of_mem _ hy, h1 y hy, ha, hb⟩
theorem nextIn_map {α β : Type} {f : α → β} {L : List α} {a b : β} (h : NextIn (L.map f) a b) : ∃ x y, NextIn L x y ∧ f x = a ∧ f y = b := by
  obtain ⟨A, C, h⟩ := h
  obtain ⟨A', R, rfl, hA, hR⟩ := List.map_eq_append_iff.1 h
  obtain ⟨x, R', rfl, hx, hR'⟩ := List.map_eq_cons_iff.1 hR
  obtain ⟨y, C', rfl, hy, _⟩ := List.map_eq_cons_iff.1 hR'
  exact ⟨x, y, ⟨A', C', rfl⟩, hx, hy⟩
theorem buns_full {k : Pck} {ps : List Pce} {zs : List Int} {Gs : List Grp} (hk : 1 ≤ k.pieces) (hg0 : 0 ≤ k.grams) (hg : ∀ p ∈ ps, p.grams ≤ k.grams) (hu : IdsUp ps) (h : GrpsIn ps Gs) {a b : Bun} (hn : NextIn (Gs.flatMap (bunsOf k ps zs)) a b) (he : a.lvl = b.lvl) (he' : a.grp = b.grp) :
    ∃ i : Int, 0 ≤ i ∧ i.toNat < ps.length ∧ b.ids.head? = some (pcAt ps i).id ∧ ¬ ((a.ids.length : Int) < k.pieces ∧ a.grams + (pcAt ps i).grams ≤ k.grams) := by
  rcases nextIn_flat (bunsOf k ps zs) Gs h.order a b hn with ⟨x, hx, hn⟩ | ⟨x, hx, y, hy, hxy, ha, hb⟩
  · obtain ⟨l, m, hlm, rfl, rfl⟩ := nextIn_map hn
    obtain ⟨A, C, hc⟩ := hlm
    have hgi : ∀ i ∈ takesOf zs x, (pcAt ps i).grams ≤ k.grams := fun i hi => by
      obtain ⟨h0, h1⟩ := (h.items x hx).2 i (List.mem_filter.1 hi).1
      unfold pcAt
      rw [List.getD_eq_getElem?_getD, List.getElem?_eq_getElem h1]
      exact hg _ (List.getElem_mem h1)
    obtain ⟨c1, c2, c3⟩ := cuts_ok hk hg0 (takesOf zs x) hgi
    have hm : m ∈ cuts k ps (takesOf zs x) := by rw [hc]; simp
    obtain ⟨i, r, rfl⟩ := List.exists_cons_of_ne_nil (c2 m hm).1
    have hi : i ∈ takesOf zs x := by
      rw [← c1]
      exact List.mem_flatten.2 ⟨_, hm, List.mem_cons_self⟩
    obtain ⟨h0, h1⟩ := (h.items x hx).2 i (List.mem_filter.1 hi).1
    refine ⟨i, h0, h1, rfl, ?_⟩
    have := c3 A l (i :: r) C hc i rfl
    unfold fitsP at this
    show ¬ (((l.map _).length : Int) < k.pieces ∧ gramsOf ps l + _ ≤ k.grams)
    rw [List.length_map]
    exact this
  · obtain ⟨a1, a2, _⟩ := (bunsOf_in (zs := zs) hk hg0 hg hu h hx).2 a ha
    obtain ⟨b1, b2, _⟩ := (bunsOf_in (zs := zs) hk hg0 hg hu h hy).2 b hb
    rcases hxy with hxy | ⟨_, hxy⟩
    · omega
    · exact absurd (by rw [← a2, ← b2]; exact he') (ltB_ne hxy)
end Go.Proofs.YtojedplbhialpaaGreatDoor

/-! T6 -/
namespace Go.Proofs.YtojedplbhialpaaGreatDoor
open Go.RowKit
set_option linter.unusedVariables false
set_option maxRecDepth 100000
theorem nextIn_share {α : Type} {f t len : Nat} {g : List Int → α} {a b : α} (h : NextIn ((shareR f t len).map g) a b) : ∃ q, q + 1 < shareN f t len ∧ a = g (shareAt f t len q) ∧ b = g (shareAt f t len (q + 1)) := by
  obtain ⟨A, C, h⟩ := h
  have e1 : ((shareR f t len).map g)[A.length]? = some a := by rw [h]; simp
  have e2 : ((shareR f t len).map g)[A.length + 1]? = some b := by
    rw [h, List.getElem?_append_right (by omega), show A.length + 1 - A.length = 1 by omega]; rfl
  have hl2 : A.length + 1 < shareN f t len := by
    have := congrArg List.length h
    rw [List.length_map, shareR_len] at this
    simp at this; omega
  unfold shareR at e1 e2
  rw [List.map_map, List.getElem?_map, List.getElem?_range (by omega)] at e1 e2
  exact ⟨A.length, hl2, (Option.some.inj e1).symm, (Option.some.inj e2).symm⟩
theorem mem_share {f t len : Nat} (hl : 1 ≤ len) (hft : f ≤ t) {l : List Int} (h : l ∈ shareR f t len) : (1 ≤ l.length ∧ l.length ≤ len) ∧ ∀ i ∈ l, ∃ q : Nat, i = (q : Int) ∧ f ≤ q ∧ q < t := by
  constructor
  · unfold shareR at h
    obtain ⟨q, hq, rfl⟩ := List.mem_map.1 h
    exact shareAt_len hl (List.mem_range.1 hq)
  · intro i hi
    have : i ∈ (shareR f t len).flatten := List.mem_flatten.2 ⟨l, h, hi⟩
    rw [share_flat hl hft] at this
    unfold numsR at this
    obtain ⟨q, hq, rfl⟩ := List.mem_map.1 this
    have := List.mem_range.1 hq
    exact ⟨f + q, rfl, by omega, by omega⟩
structure PkF (k : Pck) (Gs : List Grp) (n : Nat) (st : PkS) : Prop where
  tg : ∀ t ∈ st.tras, ∃ j, ∃ h : j < Gs.length, j < n ∧ t.lvl = Gs[j].lvl ∧ t.grp = Gs[j].name
  tf : ∀ a b, NextIn st.tras a b → a.lvl = b.lvl → a.grp = b.grp → (a.bs.length : Int) = k.bundles
  tl : ∀ t ∈ st.tras, 1 ≤ t.bs.length ∧ (t.bs.length : Int) ≤ k.bundles
  tb : ∀ t ∈ st.tras, ∀ i ∈ t.bs, 0 ≤ i ∧ ∃ b, st.buns[i.toNat]? = some b ∧ b.lvl = t.lvl ∧ b.grp = t.grp
  cg : ∀ c ∈ st.cons, ∃ j, ∃ h : j < Gs.length, j < n ∧ endsL Gs j ∧ c.lvl = Gs[j].lvl
  cf : ∀ a b, NextIn st.cons a b → a.lvl = b.lvl → (a.ts.length : Int) = k.trays
  cl : ∀ c ∈ st.cons, 1 ≤ c.ts.length ∧ (c.ts.length : Int) ≤ k.trays
  cb : ∀ c ∈ st.cons, ∀ i ∈ c.ts, 0 ≤ i ∧ ∃ t, st.tras[i.toNat]? = some t ∧ t.lvl = c.lvl
  bg : ∀ (q : Nat) t, st.beg ≤ q → st.tras[q]? = some t → ∀ h : n < Gs.length, t.lvl = Gs[n].lvl
theorem get_app {α : Type} {X Y : List α} {i : Nat} {b : α} (h : X[i]? = some b) : (X ++ Y)[i]? = some b := by
  rw [List.getElem?_append_left (List.getElem?_eq_some_iff.1 h).1]; exact h
theorem gs_lt {Gs : List Grp} (ho : Gs.Pairwise (fun g h => g.lvl < h.lvl ∨ g.lvl = h.lvl ∧ ltB g.name h.name = true)) {i j : Nat} (hij : i < j) (hj : j < Gs.length) : (Gs[i]'(by omega)).lvl < Gs[j].lvl ∨ (Gs[i]'(by omega)).lvl = Gs[j].lvl ∧ ltB (Gs[i]'(by omega)).name Gs[j].name = true :=
  List.pairwise_iff_getElem.1 ho i j (by omega) hj hij
theorem gs_le {Gs : List Grp} (ho : Gs.Pairwise (fun g h => g.lvl < h.lvl ∨ g.lvl = h.lvl ∧ ltB g.name h.name = true)) {i j : Nat} (hij : i ≤ j) (hj : j < Gs.length) : (Gs[i]'(by omega)).lvl ≤ Gs[j].lvl := by
  rcases Nat.lt_or_ge i j with h | h
  · rcases gs_lt ho h hj with h | h <;> omega
  · have : i = j := by omega
    subst this; omega
theorem pk_full {k : Pck} (hb : 1 ≤ k.bundles) (ht : 1 ≤ k.trays) {ps : List Pce} {zs : List Int} {Gs : List Grp} (ho : Gs.Pairwise (fun g h => g.lvl < h.lvl ∨ g.lvl = h.lvl ∧ ltB g.name h.name = true)) : ∀ n, n ≤ Gs.length → PkF k Gs n (pkTo k ps zs Gs n)
  | 0, _ => by
    have hn : ∀ {α : Type} {a b : α}, ¬ NextIn ([] : List α) a b := fun ⟨A, C, h⟩ => by simp at h
    unfold pkTo
    exact ⟨fun t h => (by cases h), fun a b h => absurd h hn, fun t h => (by cases h), fun t h => (by cases h), fun t h => (by cases h), fun a b h => absurd h hn, fun t h => (by cases h), fun t h => (by cases h), fun q t _ h => (by simp at h)⟩
  | n + 1, hn => by
    have ih := pk_full hb ht ho (ps := ps) (zs := zs) n (by omega)
    have hok := pk_ok hb ht ps zs Gs n (by omega)
    have hlt : n < Gs.length := by omega
    rw [pkTo_succ]
    unfold pkStep
    rw [dif_pos hlt]
    obtain ⟨st, hst⟩ : ∃ st, st = pkTo k ps zs Gs n := ⟨_, rfl⟩
    rw [← hst] at ih hok ⊢
    dsimp only
    obtain ⟨bs, hbs⟩ : ∃ bs, bs = st.buns ++ bunsOf k ps zs Gs[n] := ⟨_, rfl⟩
    obtain ⟨ts, hts⟩ : ∃ ts : List Tra, ts = st.tras ++ (shareR st.buns.length bs.length k.bundles.toNat).map (fun l => ⟨Gs[n].lvl, Gs[n].name, l⟩) := ⟨_, rfl⟩
    rw [← hbs, ← hts]
    have hkb : 1 ≤ k.bundles.toNat := by omega
    have hkt : 1 ≤ k.trays.toNat := by omega
    have hbl : st.buns.length ≤ bs.length := by rw [hbs, List.length_append]; omega
    have htl : st.tras.length ≤ ts.length := by rw [hts, List.length_append]; omega
    have hbeg := hok.beg
    have hnew : ∀ t ∈ (shareR st.buns.length bs.length k.bundles.toNat).map (fun l => (⟨Gs[n].lvl, Gs[n].name, l⟩ : Tra)), t.lvl = Gs[n].lvl ∧ t.grp = Gs[n].name ∧ t.bs ∈ shareR st.buns.length bs.length k.bundles.toNat := fun t h => by
      obtain ⟨l, hl, rfl⟩ := List.mem_map.1 h
      exact ⟨rfl, rfl, hl⟩
    have tg : ∀ t ∈ ts, ∃ j, ∃ h : j < Gs.length, j < n + 1 ∧ t.lvl = Gs[j].lvl ∧ t.grp = Gs[j].name := fun t h => by
      rw [hts] at h
      rcases List.mem_append.1 h with h | h
      · obtain ⟨j, hj, h1, h2⟩ := ih.tg t h
        exact ⟨j, hj, by omega, h2⟩
      · obtain ⟨h1, h2, _⟩ := hnew t h
        exact ⟨n, hlt, by omega, h1, h2⟩
    have tf : ∀ a b, NextIn ts a b → a.lvl = b.lvl → a.grp = b.grp → (a.bs.length : Int) = k.bundles := fun a b h e1 e2 => by
      rw [hts] at h
      rcases nextIn_append h with h | h | ⟨ha, hb'⟩
      · exact ih.tf a b h e1 e2
      · obtain ⟨q, hq, rfl, rfl⟩ := nextIn_share h
        have := shareAt_full hkb hq
        show ((shareAt _ _ _ q).length : Int) = _
        omega
      · obtain ⟨j, hj, h1, h2, h3⟩ := ih.tg a ha
        obtain ⟨h4, h5, _⟩ := hnew b hb'
        rcases gs_lt ho h1 hlt with h6 | ⟨_, h6⟩
        · omega
        · exact absurd (by rw [← h3, e2, h5]) (ltB_ne h6)
    have tl : ∀ t ∈ ts, 1 ≤ t.bs.length ∧ (t.bs.length : Int) ≤ k.bundles := fun t h => by
      rw [hts] at h
      rcases List.mem_append.1 h with h | h
      · exact ih.tl t h
      · obtain ⟨_, _, h3⟩ := hnew t h
        have := (mem_share hkb hbl h3).1
        omega
    have tb : ∀ t ∈ ts, ∀ i ∈ t.bs, 0 ≤ i ∧ ∃ b, bs[i.toNat]? = some b ∧ b.lvl = t.lvl ∧ b.grp = t.grp := fun t h i hi => by
      rw [hts] at h
      rcases List.mem_append.1 h with h | h
      · obtain ⟨h0, b, h1, h2⟩ := ih.tb t h i hi
        exact ⟨h0, b, by rw [hbs]; exact get_app h1, h2⟩
      · obtain ⟨h1, h2, h3⟩ := hnew t h
        obtain ⟨q, rfl, h4, h5⟩ := (mem_share hkb hbl h3).2 i hi
        refine ⟨by omega, bs[q], by rw [Int.toNat_natCast]; exact List.getElem?_eq_getElem h5, ?_⟩
        have : bs[q] ∈ bunsOf k ps zs Gs[n] := by
          simp only [hbs]
          rw [List.getElem_append_right h4]
          exact List.getElem_mem _
        unfold bunsOf at this
        obtain ⟨l, hl, he⟩ := List.mem_map.1 this
        rw [← he, h1, h2]
        exact ⟨rfl, rfl⟩
    have bg : ∀ (q : Nat) t, st.beg ≤ q → ts[q]? = some t → t.lvl = Gs[n].lvl := fun q t hq h => by
      by_cases hq2 : q < st.tras.length
      · refine ih.bg q t hq ?_ hlt
        rw [hts, List.getElem?_append_left hq2] at h
        exact h
      · rw [hts, List.getElem?_append_right (by omega)] at h
        exact (hnew t (List.mem_of_getElem? h)).1
    split
    · rename_i hends
      have hnewc : ∀ c ∈ (shareR st.beg ts.length k.trays.toNat).map (fun l => (⟨Gs[n].lvl, l⟩ : Con)), c.lvl = Gs[n].lvl ∧ c.ts ∈ shareR st.beg ts.length k.trays.toNat := fun c h => by
        obtain ⟨l, hl, rfl⟩ := List.mem_map.1 h
        exact ⟨rfl, hl⟩
      refine ⟨tg, tf, tl, tb, fun c h => ?_, fun a b h e => ?_, fun c h => ?_, fun c h i hi => ?_, fun q t hq h => ?_⟩
      · rcases List.mem_append.1 h with h | h
        · obtain ⟨j, hj, h1, h2⟩ := ih.cg c h
          exact ⟨j, hj, by omega, h2⟩
        · exact ⟨n, hlt, by omega, hends, (hnewc c h).1⟩
      · rcases nextIn_append h with h | h | ⟨ha, hb'⟩
        · exact ih.cf a b h e
        · obtain ⟨q, hq, rfl, rfl⟩ := nextIn_share h
          have := shareAt_full hkt hq
          show ((shareAt _ _ _ q).length : Int) = _
          omega
        · obtain ⟨j, hj, h1, h2, h3⟩ := ih.cg a ha
          have h4 := (hnewc b hb').1
          have h5 := h2 (by omega)
          have h6 := gs_le ho (show j ≤ j + 1 by omega) (by omega)
          have h7 := gs_le ho (show j + 1 ≤ n by omega) hlt
          omega
      · rcases List.mem_append.1 h with h | h
        · exact ih.cl c h
        · have := (mem_share hkt (by omega) (hnewc c h).2).1
          omega
      · rcases List.mem_append.1 h with h | h
        · obtain ⟨h0, t, h1, h2⟩ := ih.cb c h i hi
          exact ⟨h0, t, by show ts[i.toNat]? = _; rw [hts]; exact get_app h1, h2⟩
        · obtain ⟨h1, h2⟩ := hnewc c h
          obtain ⟨q, rfl, h4, h5⟩ := (mem_share hkt (by omega) h2).2 i hi
          refine ⟨by omega, ts[q], by rw [Int.toNat_natCast]; exact List.getElem?_eq_getElem h5, ?_⟩
          rw [h1]
          exact bg q _ h4 (List.getElem?_eq_getElem h5)
      · have := (List.getElem?_eq_some_iff.1 h).1
        exact absurd hq (Nat.not_le_of_lt this)
    · rename_i hne
      refine ⟨tg, tf, tl, tb, fun c h => ?_, ih.cf, ih.cl, fun c h i hi => ?_, fun q t hq h h' => ?_⟩
      · obtain ⟨j, hj, h1, h2⟩ := ih.cg c h
        exact ⟨j, hj, by omega, h2⟩
      · obtain ⟨h0, t, h1, h2⟩ := ih.cb c h i hi
        exact ⟨h0, t, by show ts[i.toNat]? = _; rw [hts]; exact get_app h1, h2⟩
      · have h1 := bg q t hq h
        unfold endsL at hne
        rw [h1]
        exact Classical.byContradiction (fun hc => hne (fun hh e => hc e.symm))
end Go.Proofs.YtojedplbhialpaaGreatDoor

/-! T7 -/
namespace Go.Proofs.YtojedplbhialpaaGreatDoor
open Go.RowKit
set_option linter.unusedVariables false
set_option maxRecDepth 100000
def noB : ByteArray := ⟨#[]⟩
def nmStep (zs : List Int) (x : Grp) (ns : List ByteArray) (i : Int) : List ByteArray := if zs.getD i.toNat (-1) = x.lvl then ns.set i.toNat x.name else ns
def nmI (zs : List Int) (x : Grp) (ns : List ByteArray) (I : List Int) : List ByteArray := I.foldl (nmStep zs x) ns
def nmG (zs : List Int) (ns : List ByteArray) (x : Grp) : List ByteArray := nmI zs x ns x.items
def nmTo (zs : List Int) (Gs : List Grp) (n q : Nat) : List ByteArray := (Gs.take q).foldl (nmG zs) (List.replicate n noB)
theorem nmI_snoc (zs : List Int) (x : Grp) (ns : List ByteArray) (I : List Int) (i : Int) : nmI zs x ns (I ++ [i]) = nmStep zs x (nmI zs x ns I) i := by unfold nmI; rw [List.foldl_append]; rfl
theorem nmStep_len (zs : List Int) (x : Grp) (ns : List ByteArray) (i : Int) : (nmStep zs x ns i).length = ns.length := by unfold nmStep; split <;> simp
theorem nmI_len (zs : List Int) (x : Grp) (I : List Int) : ∀ ns : List ByteArray, (nmI zs x ns I).length = ns.length := by
  induction I with
  | nil => intro ns; rfl
  | cons i r ih =>
    intro ns
    show (nmI zs x (nmStep zs x ns i) r).length = _
    rw [ih, nmStep_len]
theorem nmTo_succ (zs : List Int) (Gs : List Grp) (n : Nat) {q : Nat} (h : q < Gs.length) : nmTo zs Gs n (q + 1) = nmG zs (nmTo zs Gs n q) Gs[q] := by
  unfold nmTo
  rw [List.take_succ_eq_append_getElem h, List.foldl_append]; rfl
theorem nmTo_len (zs : List Int) (Gs : List Grp) (n : Nat) : ∀ q, q ≤ Gs.length → (nmTo zs Gs n q).length = n
  | 0, _ => by unfold nmTo; simp
  | q + 1, h => by rw [nmTo_succ _ _ _ (by omega)]; unfold nmG; rw [nmI_len, nmTo_len zs Gs n q (by omega)]
theorem nmI_get {zs : List Int} {x : Grp} {j : Nat} (I : List Int) (hI : ∀ i ∈ I, 0 ≤ i) : ∀ ns : List ByteArray, j < ns.length → (nmI zs x ns I).getD j noB = if (j : Int) ∈ I ∧ zs.getD j (-1) = x.lvl then x.name else ns.getD j noB := by
  induction I with
  | nil => intro ns _; rw [if_neg (by simp)]; rfl
  | cons i r ih =>
    intro ns hj
    show (nmI zs x (nmStep zs x ns i) r).getD j noB = _
    rw [ih (fun a ha => hI a (List.mem_cons_of_mem _ ha)) _ (by rw [nmStep_len]; exact hj)]
    have hi := hI i List.mem_cons_self
    by_cases h1 : (j : Int) ∈ r ∧ zs.getD j (-1) = x.lvl
    · rw [if_pos h1, if_pos ⟨List.mem_cons_of_mem _ h1.1, h1.2⟩]
    · rw [if_neg h1]
      unfold nmStep
      by_cases h2 : (j : Int) = i
      · have h3 : i.toNat = j := by omega
        rw [h3]
        by_cases h4 : zs.getD j (-1) = x.lvl
        · rw [if_pos h4, if_pos ⟨by rw [h2]; exact List.mem_cons_self, h4⟩, List.getD_eq_getElem?_getD, List.getElem?_set_self hj]; rfl
        · rw [if_neg h4, if_neg (fun h => h4 h.2)]
      · have h3 : i.toNat ≠ j := by omega
        have h4 : ¬ ((j : Int) ∈ i :: r ∧ zs.getD j (-1) = x.lvl) := fun h => by
          rcases List.mem_cons.1 h.1 with h5 | h5
          · exact h2 h5
          · exact h1 ⟨h5, h.2⟩
        rw [if_neg h4]
        split
        · rw [List.getD_eq_getElem?_getD, List.getElem?_set_ne h3, ← List.getD_eq_getElem?_getD]
        · rfl
structure OwnIn (ps : List Pce) (zs : List Int) (Gs : List Grp) : Prop where
  some : ∀ i : Nat, i < ps.length → ∃ x ∈ Gs, x.lvl = zs.getD i (-1) ∧ (i : Int) ∈ x.items
  one : ∀ x ∈ Gs, ∀ y ∈ Gs, x.lvl = y.lvl → ∀ i ∈ x.items, i ∈ y.items → x = y
theorem nm_fold {zs : List Int} {nm : ByteArray} {j : Nat} : ∀ (Gs : List Grp) (ns : List ByteArray), j < ns.length → (∀ y ∈ Gs, ∀ i ∈ y.items, 0 ≤ i) → (∀ y ∈ Gs, (j : Int) ∈ y.items → zs.getD j (-1) = y.lvl → y.name = nm) →
    (ns.getD j noB = nm ∨ ∃ y ∈ Gs, (j : Int) ∈ y.items ∧ zs.getD j (-1) = y.lvl) → (Gs.foldl (nmG zs) ns).getD j noB = nm
  | [], ns, _, _, _, h => by
    rcases h with h | ⟨y, hy, _⟩
    · exact h
    · cases hy
  | x :: r, ns, hj, h0, hn, h => by
    show (r.foldl (nmG zs) (nmG zs ns x)).getD j noB = nm
    have hl : (nmG zs ns x).length = ns.length := by unfold nmG; exact nmI_len _ _ _ _
    refine nm_fold r _ (by rw [hl]; exact hj) (fun y hy => h0 y (List.mem_cons_of_mem _ hy)) (fun y hy => hn y (List.mem_cons_of_mem _ hy)) ?_
    unfold nmG
    rw [nmI_get x.items (h0 x List.mem_cons_self) ns hj]
    by_cases h1 : (j : Int) ∈ x.items ∧ zs.getD j (-1) = x.lvl
    · rw [if_pos h1]
      exact .inl (hn x List.mem_cons_self h1.1 h1.2)
    · rw [if_neg h1]
      rcases h with h | ⟨y, hy, h2, h3⟩
      · exact .inl h
      · rcases List.mem_cons.1 hy with rfl | hy
        · exact absurd ⟨h2, h3⟩ h1
        · exact .inr ⟨y, hy, h2, h3⟩
theorem nmT_at {ps : List Pce} {zs : List Int} {Gs : List Grp} (hG : GrpsIn ps Gs) (ho : OwnIn ps zs Gs) {x : Grp} (hx : x ∈ Gs) {j : Nat} (hj : (j : Int) ∈ x.items) (hz : zs.getD j (-1) = x.lvl) : (nmTo zs Gs ps.length Gs.length).getD j noB = x.name := by
  have hjl := ((hG.items x hx).2 _ hj).2
  unfold nmTo
  rw [List.take_length]
  refine nm_fold Gs _ (by rw [List.length_replicate]; omega) (fun y hy i hi => ((hG.items y hy).2 i hi).1) (fun y hy h1 h2 => ?_) (.inr ⟨x, hx, hj, hz⟩)
  rw [ho.one y hy x hx (by rw [← h2, hz]) _ h1 hj]
def BunGood (k : Pck) (ps : List Pce) (zs : List Int) (ns : List ByteArray) (b : Bun) : Prop :=
  ∃ I : List Int, (∀ i ∈ I, 0 ≤ i ∧ i.toNat < ps.length ∧ zs.getD i.toNat (-1) = b.lvl ∧ ns.getD i.toNat noB = b.grp) ∧ b.ids = I.map (fun i => (pcAt ps i).id) ∧ gramsOf ps I = b.grams ∧ 1 ≤ I.length ∧ (I.length : Int) ≤ k.pieces ∧ b.grams ≤ k.grams
structure BunsOk (k : Pck) (ps : List Pce) (zs : List Int) (ns : List ByteArray) (bs : List Bun) : Prop where
  good : ∀ b ∈ bs, BunGood k ps zs ns b
  once : (bs.flatMap (fun b => b.ids)).Nodup
  all : (bs.flatMap (fun b => b.ids)).length = ps.length
structure OnceOk (ls : List (List Int)) (n : Nat) (len : Int) : Prop where
  lens : ∀ l ∈ ls, 1 ≤ l.length ∧ (l.length : Int) ≤ len
  ins : ∀ i ∈ ls.flatten, 0 ≤ i ∧ i < n
  once : ls.flatten.Nodup
  all : ls.flatten.length = n
structure TrasOk (k : Pck) (l : Lod) : Prop where
  once : OnceOk (l.tras.map (fun t => t.bs)) l.buns.length k.bundles
  grp : ∀ t ∈ l.tras, ∀ i ∈ t.bs, ∃ b, l.buns[i.toNat]? = some b ∧ b.lvl = t.lvl ∧ b.grp = t.grp
structure ConsOk (k : Pck) (l : Lod) : Prop where
  once : OnceOk (l.cons.map (fun c => c.ts)) l.tras.length k.trays
  grp : ∀ c ∈ l.cons, ∀ i ∈ c.ts, ∃ t, l.tras[i.toNat]? = some t ∧ t.lvl = c.lvl
structure LodOk (k : Pck) (ps : List Pce) (zs : List Int) (ns : List ByteArray) (l : Lod) : Prop where
  buns : BunsOk k ps zs ns l.buns
  tras : TrasOk k l
  cons : ConsOk k l
theorem nums_once (n : Nat) : (numsR 0 n).Nodup ∧ (numsR 0 n).length = n ∧ ∀ i ∈ numsR 0 n, 0 ≤ i ∧ i < (n : Int) := by
  refine ⟨?_, by rw [numsR_len]; omega, fun i hi => ?_⟩
  · unfold numsR
    rw [List.Nodup, List.pairwise_map]
    refine List.Pairwise.imp ?_ (List.nodup_range)
    intro a b hab h
    omega
  · unfold numsR at hi
    obtain ⟨q, hq, rfl⟩ := List.mem_map.1 hi
    have := List.mem_range.1 hq
    omega
theorem flat_bs {α : Type} (l : List α) (f : α → List Int) : (l.map f).flatten = l.flatMap f := by rw [List.flatMap_def]
theorem takes_perm {ps : List Pce} {zs : List Int} {Gs : List Grp} (hG : GrpsIn ps Gs) (ho : OwnIn ps zs Gs) : (Gs.flatMap (takesOf zs)).Perm (numsR 0 ps.length) := by
  have hN : (Gs.flatMap (takesOf zs)).Nodup := by
    unfold List.Nodup
    rw [List.pairwise_flatMap]
    refine ⟨fun x hx => ?_, ?_⟩
    · unfold takesOf
      refine List.Pairwise.filter _ ?_
      exact List.Pairwise.imp (fun h => by omega) (hG.items x hx).1
    · refine List.Pairwise.imp_of_mem ?_ hG.order
      intro x y hx hy hxy a ha b hb e
      subst e
      unfold takesOf at ha hb
      obtain ⟨a1, a2⟩ := List.mem_filter.1 ha
      obtain ⟨b1, b2⟩ := List.mem_filter.1 hb
      have e1 : x.lvl = y.lvl := by
        have h1 := of_decide_eq_true a2
        have h2 := of_decide_eq_true b2
        omega
      have := ho.one x hx y hy e1 a a1 b1
      subst this
      rcases hxy with h | ⟨_, h⟩
      · omega
      · rw [ltB_irrefl] at h; cases h
  have hM : (numsR 0 ps.length).Nodup := (nums_once _).1
  refine (List.perm_ext_iff_of_nodup hN hM).2 (fun i => ⟨fun h => ?_, fun h => ?_⟩)
  · obtain ⟨x, hx, hi⟩ := List.mem_flatMap.1 h
    unfold takesOf at hi
    obtain ⟨h0, h1⟩ := (hG.items x hx).2 i (List.mem_filter.1 hi).1
    unfold numsR
    exact List.mem_map.2 ⟨i.toNat, List.mem_range.2 (by omega), by omega⟩
  · obtain ⟨h0, h1⟩ := (nums_once _).2.2 i h
    obtain ⟨x, hx, h2, h3⟩ := ho.some i.toNat (by omega)
    rw [Int.toNat_of_nonneg h0] at h3
    refine List.mem_flatMap.2 ⟨x, hx, ?_⟩
    unfold takesOf
    exact List.mem_filter.2 ⟨h3, decide_eq_true h2.symm⟩
theorem buns_ids {k : Pck} {ps : List Pce} {zs : List Int} {Gs : List Grp} (hk : 1 ≤ k.pieces) (hg0 : 0 ≤ k.grams) (hg : ∀ p ∈ ps, p.grams ≤ k.grams) (hG : GrpsIn ps Gs) : (Gs.flatMap (bunsOf k ps zs)).flatMap (fun b => b.ids) = (Gs.flatMap (takesOf zs)).map (fun i => (pcAt ps i).id) := by
  rw [List.flatMap_assoc, List.map_flatMap]
  have h : ∀ L : List Grp, (∀ x ∈ L, x ∈ Gs) → L.flatMap (fun x => (bunsOf k ps zs x).flatMap (fun b => b.ids)) = L.flatMap (fun x => (takesOf zs x).map (fun i => (pcAt ps i).id)) := fun L => by
    induction L with
    | nil => intro _; rfl
    | cons x r ih =>
      intro hL
      rw [List.flatMap_cons, List.flatMap_cons, ih (fun y hy => hL y (List.mem_cons_of_mem _ hy))]
      congr 1
      have hx := hL x List.mem_cons_self
      have hgi : ∀ i ∈ takesOf zs x, (pcAt ps i).grams ≤ k.grams := fun i hi => by
        obtain ⟨h0, h1⟩ := (hG.items x hx).2 i (List.mem_filter.1 hi).1
        unfold pcAt
        rw [List.getD_eq_getElem?_getD, List.getElem?_eq_getElem h1]
        exact hg _ (List.getElem_mem h1)
      have hc := (cuts_ok hk hg0 (takesOf zs x) hgi).1
      unfold bunsOf
      rw [List.flatMap_map]
      show (cuts k ps (takesOf zs x)).flatMap (fun l => l.map (fun i => (pcAt ps i).id)) = _
      rw [List.flatMap_def, ← List.map_flatten, hc]
  exact h Gs (fun x hx => hx)
theorem ids_inj {ps : List Pce} (hu : IdsUp ps) {i j : Int} (hi : 0 ≤ i ∧ i.toNat < ps.length) (hj : 0 ≤ j ∧ j.toNat < ps.length) (h : (pcAt ps i).id = (pcAt ps j).id) : i = j := by
  rcases Nat.lt_trichotomy i.toNat j.toNat with h1 | h1 | h1
  · have := hu _ _ h1 hj.2
    rw [Int.toNat_of_nonneg hi.1, Int.toNat_of_nonneg hj.1] at this
    omega
  · omega
  · have := hu _ _ h1 hi.2
    rw [Int.toNat_of_nonneg hi.1, Int.toNat_of_nonneg hj.1] at this
    omega
theorem pk_lodOk {k : Pck} {ps : List Pce} {zs : List Int} {Gs : List Grp} (hk : 1 ≤ k.pieces) (hg0 : 0 ≤ k.grams) (hb : 1 ≤ k.bundles) (ht : 1 ≤ k.trays) (hg : ∀ p ∈ ps, p.grams ≤ k.grams) (hu : IdsUp ps) (hG : GrpsIn ps Gs) (ho : OwnIn ps zs Gs) :
    LodOk k ps zs (nmTo zs Gs ps.length Gs.length) ⟨(pkTo k ps zs Gs Gs.length).buns, (pkTo k ps zs Gs Gs.length).tras, (pkTo k ps zs Gs Gs.length).cons⟩ := by
  have hok := pk_ok hb ht ps zs Gs Gs.length (Nat.le_refl _)
  have hF := pk_full hb ht hG.order (ps := ps) (zs := zs) Gs.length (Nat.le_refl _)
  have hbn := hok.buns
  rw [List.take_length] at hbn
  have hbeg := hok.fin (.inr (fun h => absurd h (Nat.lt_irrefl _)))
  have hperm := takes_perm hG ho
  have hids := buns_ids (zs := zs) hk hg0 hg hG
  have hTin : ∀ i ∈ Gs.flatMap (takesOf zs), 0 ≤ i ∧ i.toNat < ps.length := fun i hi => by
    have := (nums_once _).2.2 i (hperm.mem_iff.1 hi)
    omega
  refine ⟨⟨?_, ?_, ?_⟩, ⟨⟨?_, ?_, ?_, ?_⟩, ?_⟩, ⟨⟨?_, ?_, ?_, ?_⟩, ?_⟩⟩
  · intro b hb
    rw [hbn] at hb
    obtain ⟨x, hx, hb⟩ := List.mem_flatMap.1 hb
    unfold bunsOf at hb
    obtain ⟨l, hl, rfl⟩ := List.mem_map.1 hb
    have hgi : ∀ i ∈ takesOf zs x, (pcAt ps i).grams ≤ k.grams := fun i hi => by
      obtain ⟨h0, h1⟩ := (hG.items x hx).2 i (List.mem_filter.1 hi).1
      unfold pcAt
      rw [List.getD_eq_getElem?_getD, List.getElem?_eq_getElem h1]
      exact hg _ (List.getElem_mem h1)
    obtain ⟨c1, c2, _⟩ := cuts_ok hk hg0 (takesOf zs x) hgi
    obtain ⟨d1, d2, d3⟩ := c2 l hl
    refine ⟨l, fun i hi => ?_, rfl, rfl, List.length_pos_iff.2 d1, d2, d3⟩
    have hit : i ∈ takesOf zs x := by rw [← c1]; exact List.mem_flatten.2 ⟨l, hl, hi⟩
    unfold takesOf at hit
    obtain ⟨i1, i2⟩ := List.mem_filter.1 hit
    obtain ⟨h0, h1⟩ := (hG.items x hx).2 i i1
    have h2 : zs.getD i.toNat (-1) = x.lvl := of_decide_eq_true i2
    exact ⟨h0, h1, h2, nmT_at hG ho hx (by rw [Int.toNat_of_nonneg h0]; exact i1) h2⟩
  · show ((pkTo k ps zs Gs Gs.length).buns.flatMap _).Nodup
    rw [hbn, hids, List.Nodup, List.pairwise_map]
    refine List.Pairwise.imp_of_mem ?_ (hperm.nodup_iff.2 (nums_once _).1)
    intro a b ha hb hab h
    exact hab (ids_inj hu (hTin a ha) (hTin b hb) h)
  · show ((pkTo k ps zs Gs Gs.length).buns.flatMap _).length = _
    rw [hbn, hids, List.length_map, hperm.length_eq, (nums_once _).2.1]
  · intro l hl
    obtain ⟨t, ht, rfl⟩ := List.mem_map.1 hl
    exact hF.tl t ht
  · show ∀ i ∈ ((pkTo k ps zs Gs Gs.length).tras.map (fun t => t.bs)).flatten, _
    rw [flat_bs, hok.nb]
    exact (nums_once _).2.2
  · show (((pkTo k ps zs Gs Gs.length).tras.map (fun t => t.bs)).flatten).Nodup
    rw [flat_bs, hok.nb]
    exact (nums_once _).1
  · show (((pkTo k ps zs Gs Gs.length).tras.map (fun t => t.bs)).flatten).length = _
    rw [flat_bs, hok.nb]
    exact (nums_once _).2.1
  · intro t ht i hi
    exact (hF.tb t ht i hi).2
  · intro l hl
    obtain ⟨t, ht, rfl⟩ := List.mem_map.1 hl
    exact hF.cl t ht
  · show ∀ i ∈ ((pkTo k ps zs Gs Gs.length).cons.map (fun t => t.ts)).flatten, _
    rw [flat_bs, hok.nt, hbeg]
    exact (nums_once _).2.2
  · show (((pkTo k ps zs Gs Gs.length).cons.map (fun t => t.ts)).flatten).Nodup
    rw [flat_bs, hok.nt, hbeg]
    exact (nums_once _).1
  · show (((pkTo k ps zs Gs Gs.length).cons.map (fun t => t.ts)).flatten).length = _
    rw [flat_bs, hok.nt, hbeg]
    exact (nums_once _).2.1
  · intro t ht i hi
    exact (hF.cb t ht i hi).2
end Go.Proofs.YtojedplbhialpaaGreatDoor

/-! TE -/
namespace Go.Proofs.YtojedplbhialpaaGreatDoor
open Go.RowKit Go.Sort
set_option linter.unusedVariables false
set_option linter.unusedSimpArgs false
set_option maxRecDepth 100000
theorem Tryz.infoBoo : (Tryz.prog.info? 4).map (fun i => (i.zero, i.size, i.bytes)) = some (some (.bool false), 1, 1) := by kernel_rfl
def RdLL (w : World) (v : Value) (ts : List (List Int)) : Prop :=
  ∃ a cap, v = .slice a ts.length cap ∧ (0 < ts.length → ∃ g off, a = some ⟨g, off, none⟩ ∧ g < w.heap.size ∧ ∀ i (h : i < ts.length), ∃ s, w.cell? ⟨g, off + i, none⟩ = some s ∧ RdInts w s ts[i])
def BoolsAt (w : World) (g : Nat) (xs : List Bool) : Prop := w.heap[g]? = some (.cells (xs.map Value.bool).toArray 4 (0, 0))
theorem BoolsAt.lt {w : World} {g : Nat} {xs : List Bool} (h : BoolsAt w g xs) : g < w.heap.size := (Array.getElem?_eq_some_iff.1 h).1
theorem BoolsAt.cell {w : World} {g : Nat} {xs : List Bool} (h : BoolsAt w g xs) {i : Nat} (hi : i < xs.length) : w.cell? ⟨g, i, none⟩ = some (.bool (xs.getD i false)) := by
  unfold BoolsAt at h
  simp [World.cell?, h, hi]
theorem BoolsAt.free {w : World} {g : Nat} {xs : List Bool} (h : BoolsAt w g xs) (i : Nat) : w.frozen? ⟨g, i, none⟩ = false := by
  unfold BoolsAt at h
  simp [World.frozen?, h]
theorem BoolsAt.set {w : World} {g : Nat} {xs : List Bool} (h : BoolsAt w g xs) (i : Nat) (x : Bool) : BoolsAt (w.setCell ⟨g, i, none⟩ (.bool x)) g (xs.set i x) := by
  have hl := h.lt
  unfold BoolsAt at *
  simp only [World.setCell, Array.getElem?_modify, if_pos, h, Option.map_some, List.map_set]
  simp
theorem made_bools (w : World) (n : Nat) : BoolsAt (w.alloc (.cells (madeCells #[Value.bool false] n) 4)) w.heap.size (List.replicate n false) := by
  have e : madeCells #[Value.bool false] n = ((List.replicate n false).map Value.bool).toArray := by
    apply Array.toList_inj.1
    rw [toList_madeCells_one]
    simp
  unfold BoolsAt
  rw [e]
  exact alloc_new w _
def metL (n : Nat) (S : List Int) : List Bool := (List.range n).map (fun j : Nat => decide ((j : Int) ∈ S))
theorem metL_len (n : Nat) (S : List Int) : (metL n S).length = n := by unfold metL; simp
theorem metL_nil (n : Nat) : metL n [] = List.replicate n false := by
  refine List.ext_getElem (by rw [metL_len, List.length_replicate]) (fun i hi hi' => ?_)
  simp [metL]
theorem metL_at {n : Nat} {S : List Int} {j : Nat} (h : j < n) : (metL n S).getD j false = decide ((j : Int) ∈ S) := by
  unfold metL
  rw [List.getD_eq_getElem?_getD, List.getElem?_map, List.getElem?_range h]; rfl
theorem metL_set {n : Nat} {S : List Int} {j : Nat} (h : j < n) : (metL n S).set j true = metL n (S ++ [(j : Int)]) := by
  refine List.ext_getElem (by rw [List.length_set, metL_len, metL_len]) (fun i hi hi' => ?_)
  rw [List.getElem_set]
  unfold metL
  simp only [List.getElem_map, List.getElem_range, List.mem_append, List.mem_singleton]
  by_cases hij : j = i
  · subst hij; simp
  · rw [if_neg hij, decide_eq_decide]
    constructor
    · exact .inl
    · rintro (h | h)
      · exact h
      · omega
theorem flat_split {ls : List (List Int)} {q p : Nat} (hq : q < ls.length) (hp : p < ls[q].length) : ls.flatten = (ls.take q).flatten ++ (ls[q].take p ++ ls[q][p] :: (ls[q].drop (p + 1) ++ (ls.drop (q + 1)).flatten)) := by
  have h1 : ls.flatten = (ls.take q).flatten ++ (ls[q] ++ (ls.drop (q + 1)).flatten) := by
    rw [← List.flatten_cons, ← List.drop_eq_getElem_cons hq, ← List.flatten_append, List.take_append_drop]
  have h2 : ls[q] = ls[q].take p ++ ls[q][p] :: ls[q].drop (p + 1) := by
    rw [← List.drop_eq_getElem_cons hp, List.take_append_drop]
  rw [h1]
  congr 1
  refine (congrArg (fun z => z ++ (ls.drop (q + 1)).flatten) h2).trans ?_
  simp only [List.append_assoc, List.cons_append]
theorem once_at {ls : List (List Int)} {n : Nat} {len : Int} (h : OnceOk ls n len) {q p : Nat} (hq : q < ls.length) (hp : p < ls[q].length) : 0 ≤ ls[q][p] ∧ ls[q][p] < n ∧ ls[q][p] ∉ (ls.take q).flatten ++ ls[q].take p := by
  have hm : ls[q][p] ∈ ls.flatten := List.mem_flatten.2 ⟨_, List.getElem_mem hq, List.getElem_mem hp⟩
  obtain ⟨h1, h2⟩ := h.ins _ hm
  refine ⟨h1, h2, fun hc => ?_⟩
  have hN := h.once
  rw [flat_split hq hp, ← List.append_assoc, List.nodup_append] at hN
  exact hN.2.2 _ hc _ List.mem_cons_self rfl
theorem nodup_snoc {S : List Int} {x : Int} (h : S.Nodup) (hx : x ∉ S) : (S ++ [x]).Nodup := by
  rw [List.nodup_append]
  exact ⟨h, by simp, fun a ha b hb e => hx (by rw [List.mem_singleton.1 hb] at e; rw [← e]; exact ha)⟩
def IsB (v : Value) (P : Prop) : Prop := ∃ r : Bool, v = .bool r ∧ (r = true ↔ P)
theorem IsB.no {P : Prop} (h : ¬ P) : IsB (.bool false) P := ⟨false, rfl, by simp [h]⟩
theorem IsB.yes {P : Prop} (h : P) : IsB (.bool true) P := ⟨true, rfl, by simp [h]⟩
theorem IsB.of {P : Prop} {r : Bool} (h : r = true ↔ P) : IsB (.bool r) P := ⟨r, rfl, h⟩
set_option maxHeartbeats 16000000 in
theorem once_any (ls : List (List Int)) (n : Nat) (len : Int) (vl : Value) (w : World) (hl : RdLL w vl ls) (hn : n ≤ 1000000) (hf : ls.flatten.length ≤ 1000000) (hll : ls.length ≤ 1000000) :
    Calls Tryz.prog 176 #[vl, .int .i64 n, .int .i64 len] w fun e w' => ∃ v, e = .returned v ∧ Below w.heap.size w w' ∧ IsB v (OnceOk ls n len) := by
  obtain ⟨a, c, rfl, hlc⟩ := hl
  have hmk := run_make_row' (P := Tryz.prog) 256 4 (.bool false) 1 Tryz.underlying256 Tryz.infoBoo rfl .i64 .i64 n (by omega) (by omega)
  have HLC := Lib.hid hlc
  have HMB := Lib.hid (made_bools w n)
  have HF := Lib.hid hf
  have hbA : Below w.heap.size w (w.alloc (.cells (madeCells #[Value.bool false] n) 4)) := (Below.refl _ w).alloc (Nat.le_refl _) _
  clear hlc hf
  go_enter Tryz.func176, Tryz.ntmps176
  go_wp2_with fail
  clear hmk
  go_loopw [8, 17] (fun s i wx => ∃ q : Nat, q ≤ ls.length ∧ i = .int .i64 q ∧ s = .int .i64 ((ls.take q).flatten.length : Nat) ∧ Below w.heap.size w wx ∧ BoolsAt wx w.heap.size (metL n (ls.take q).flatten) ∧ (∀ l ∈ ls.take q, 1 ≤ l.length ∧ (l.length : Int) ≤ len) ∧ (∀ x ∈ (ls.take q).flatten, 0 ≤ x ∧ x < n) ∧ (ls.take q).flatten.Nodup) (fun _ i _ => ls.length - (intOf i).toNat)
  case atStart => exact ⟨0, Nat.zero_le _, rfl, rfl, hbA, by rw [List.take_zero, List.flatten_nil, metL_nil]; exact HMB.out, by simp, by simp, by simp⟩
  case round =>
    clear hbA HMB
    obtain ⟨wo, hwo⟩ : ∃ x, x = wr := ⟨_, rfl⟩
    subst hwo
    obtain ⟨q, hq, rfl, rfl, hB, hM, hlen, hin, hnd⟩ := hrel
    have HB := Lib.hid hB
    have HM := Lib.hid hM
    have HLEN := Lib.hid hlen
    have HIN := Lib.hid hin
    have HND := Lib.hid hnd
    clear hlen hin hnd
    by_cases hlt : q < ls.length
    · obtain ⟨g, off, rfl, hg, hcc⟩ := HLC.out (by omega)
      obtain ⟨s, h1, h2⟩ := hcc q hlt
      have hone := fun (h : OnceOk ls n len) p hp => once_at (p := p) h hlt hp
      have hbad := fun (h : OnceOk ls n len) => h.lens _ (List.getElem_mem hlt)
      have hsn : (ls.take (q + 1)).flatten = (ls.take q).flatten ++ ls[q] := by rw [List.take_succ_eq_append_getElem hlt, List.flatten_append, List.flatten_singleton]
      have hmm : ∀ l ∈ ls.take (q + 1), l ∈ ls.take q ∨ l = ls[q] := fun l hl => by
        rw [List.take_succ_eq_append_getElem hlt] at hl
        rcases List.mem_append.1 hl with hl | hl
        · exact .inl hl
        · exact .inr (List.mem_singleton.1 hl)
      have hfl : (ls.take q).flatten.length + ls[q].length ≤ 1000000 := by
        have h3 : (ls.take (q + 1)).flatten.length ≤ ls.flatten.length := by
          conv => rhs; rw [← List.take_append_drop (q + 1) ls, List.flatten_append, List.length_append]
          omega
        have := HF.out
        rw [hsn, List.length_append] at h3
        omega
      obtain ⟨l, hle⟩ : ∃ l, l = ls[q] := ⟨_, rfl⟩
      obtain ⟨S, hS⟩ : ∃ S, S = (ls.take q).flatten := ⟨_, rfl⟩
      rw [← hle] at h2 hone hbad hsn hmm hfl
      rw [← hS] at hone hsn hfl hM ⊢
      have HIN' : Hid (∀ x ∈ S, 0 ≤ x ∧ x < (n : Int)) := by rw [hS]; exact HIN
      have HND' : Hid S.Nodup := by rw [hS]; exact HND
      have HONE := Lib.hid hone
      have HBAD := Lib.hid hbad
      have HSN := Lib.hid hsn
      have HMM := Lib.hid hmm
      obtain ⟨al, cl, rfl, hlc⟩ := h2
      replace h1 := (hB.cell (p := ⟨g, off + q, none⟩) hg).trans h1
      have HLCC := Lib.hid hlc
      have HM' := Lib.hid hM
      clear hone hbad hsn hmm hle hS hcc hlc hM HM hB HIN HND
      by_cases hz : l.length < 1
      · have hr : ¬ OnceOk ls n len := fun h => by have := HBAD.out h; omega
        have HR := Lib.hid hr
        clear hr
        go_wp2_with fail
        go_ret
        exact ⟨_, rfl, HB.out, IsB.no HR.out⟩
      · by_cases hz2 : (l.length : Int) > len
        · have hr : ¬ OnceOk ls n len := fun h => by have := HBAD.out h; omega
          have HR := Lib.hid hr
          clear hr
          go_wp2_with fail
          go_ret
          exact ⟨_, rfl, HB.out, IsB.no HR.out⟩
        · go_wp2_with fail
          go_loopw [8, 32] (fun s i wx => ∃ p : Nat, p ≤ l.length ∧ i = .int .i64 p ∧ s = .int .i64 (S.length + p : Nat) ∧ Below w.heap.size w wx ∧ BoolsAt wx w.heap.size (metL n (S ++ l.take p)) ∧ (∀ x ∈ S ++ l.take p, 0 ≤ x ∧ x < (n : Int)) ∧ (S ++ l.take p).Nodup) (fun _ i _ => l.length - (intOf i).toNat)
          case atStart => exact ⟨0, Nat.zero_le _, rfl, rfl, HB.out, by rw [List.take_zero, List.append_nil]; exact HM'.out, by rw [List.take_zero, List.append_nil]; exact HIN'.out, by rw [List.take_zero, List.append_nil]; exact HND'.out⟩
          case round =>
            obtain ⟨wi, hwi⟩ : ∃ x, x = wr := ⟨_, rfl⟩
            subst hwi
            obtain ⟨p, hp, rfl, rfl, hB, hM, hin, hnd⟩ := hrel
            have HB' := Lib.hid hB
            have HM := Lib.hid hM
            have HIN := Lib.hid hin
            have HND := Lib.hid hnd
            clear hin hnd hM
            by_cases hlp : p < l.length
            · obtain ⟨g2, o2, rfl, hg2, hc2⟩ := HLCC.out (by omega)
              have e1 := (hB.cell (p := ⟨g2, o2 + p, none⟩) hg2).trans (hc2 p hlp)
              have hO := fun (h : OnceOk ls n len) => HONE.out h p hlp
              have htk : l.take (p + 1) = l.take p ++ [l[p]] := List.take_succ_eq_append_getElem hlp
              obtain ⟨x, hx⟩ : ∃ x, x = l[p] := ⟨_, rfl⟩
              rw [← hx] at e1 hO htk
              have HO := Lib.hid hO
              have HTK := Lib.hid htk
              clear hO hx hc2 htk
              by_cases x0 : x < 0
              · have hr : ¬ OnceOk ls n len := fun h => by have := (HO.out h).1; omega
                have HR := Lib.hid hr
                clear hr hB
                go_wp2_with fail
                go_ret
                exact ⟨_, rfl, HB'.out, IsB.no HR.out⟩
              · by_cases x1 : x ≥ (n : Int)
                · have hr : ¬ OnceOk ls n len := fun h => by have := (HO.out h).2.1; omega
                  have HR := Lib.hid hr
                  clear hr hB
                  go_wp2_with fail
                  go_ret
                  exact ⟨_, rfl, HB'.out, IsB.no HR.out⟩
                · obtain ⟨j, rfl⟩ : ∃ j : Nat, x = (j : Int) := ⟨x.toNat, by omega⟩
                  have hjn : j < n := by omega
                  have m1 := HM.out.cell (i := j) (by rw [metL_len]; exact hjn)
                  rw [metL_at hjn] at m1
                  have m2 := HM.out.free j
                  have m3 := HM.out.set j true
                  rw [metL_set hjn] at m3
                  have HM3 := Lib.hid m3
                  clear m3 hB
                  by_cases hm : (j : Int) ∈ S ++ l.take p
                  · have hd : decide ((j : Int) ∈ S ++ l.take p) = true := decide_eq_true hm
                    rw [hd] at m1
                    have hr : ¬ OnceOk ls n len := fun h => (HO.out h).2.2 hm
                    have HR := Lib.hid hr
                    clear hr hd hm
                    go_wp2_with fail
                    go_ret
                    exact ⟨_, rfl, HB'.out, IsB.no HR.out⟩
                  · have hd : decide ((j : Int) ∈ S ++ l.take p) = false := decide_eq_false hm
                    rw [hd] at m1
                    have HNM := Lib.hid hm
                    clear hd hm
                    go_wp2_with fail
                    go_roundw
                    case rel =>
                      refine ⟨p + 1, by omega, by go_num, by go_num, HB'.out.setCell (p := ⟨w.heap.size, j, none⟩) (Nat.le_refl _) _, by rw [HTK.out, ← List.append_assoc]; exact HM3.out, ?_, ?_⟩
                      · rw [HTK.out, ← List.append_assoc]
                        intro y hy
                        rcases List.mem_append.1 hy with hy | hy
                        · exact HIN.out y hy
                        · rw [List.mem_singleton.1 hy]; omega
                      · rw [HTK.out, ← List.append_assoc]
                        exact nodup_snoc HND.out HNM.out
                    case measure => simp [intOf]; omega
            · obtain rfl : p = l.length := by omega
              rw [List.take_length] at HM HIN HND
              clear hB
              go_wp2_with fail
              go_roundw
              case rel =>
                refine ⟨q + 1, by omega, by go_num, by rw [HSN.out, List.length_append], HB'.out, by rw [HSN.out]; exact HM.out, ?_, by rw [HSN.out]; exact HIN.out, by rw [HSN.out]; exact HND.out⟩
                intro y hy
                rcases HMM.out y hy with hy | rfl
                · exact HLEN.out y hy
                · omega
              case measure => simp [intOf]; omega
    · obtain rfl : q = ls.length := by omega
      rw [List.take_length] at HLEN HIN HND ⊢
      have HFF : Hid (ls.flatten.length = n ↔ OnceOk ls n len) := ⟨fun h => ⟨HLEN.out, HIN.out, HND.out, h⟩, fun h => h.all⟩
      clear hM hB
      obtain ⟨N, hN⟩ : ∃ N, N = ls.flatten.length := ⟨_, rfl⟩
      rw [← hN] at HFF ⊢
      clear hN
      go_wp2_with fail
      go_ret
      refine ⟨_, rfl, HB.out, IsB.of ?_⟩
      rw [← HFF.out]
      simp
      try omega
end Go.Proofs.YtojedplbhialpaaGreatDoor
