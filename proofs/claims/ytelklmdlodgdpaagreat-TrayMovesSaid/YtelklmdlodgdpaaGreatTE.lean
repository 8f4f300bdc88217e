/-
  tray.once.
-/
import Derived.Test.YtelklmdlodgdpaaGreatTA
import Derived.Test.YtelklmdlodgdpaaGreatT7
namespace Go.Proofs.YtelklmdlodgdpaaGreat
open Go.RowKit Go.Sort
set_option linter.unusedVariables false
set_option linter.unusedSimpArgs false
set_option maxRecDepth 100000
theorem Tryz.infoBoo : (Tryz.prog.info? 4).map (fun i => (i.zero, i.size, i.bytes)) = some (some (.bool false), 1, 1) := by kernel_rfl
/-- Rows of numbers, read. -/
def RdLL (w : World) (v : Value) (ts : List (List Int)) : Prop :=
  ∃ a cap, v = .slice a ts.length cap ∧ (0 < ts.length → ∃ g off, a = some ⟨g, off, none⟩ ∧ g < w.heap.size ∧ ∀ i (h : i < ts.length), ∃ s, w.cell? ⟨g, off + i, none⟩ = some s ∧ RdInts w s ts[i])
theorem RdLL.below {w w' : World} {v : Value} {ts : List (List Int)} (h : RdLL w v ts) (hb : Below w.heap.size w w') : RdLL w' v ts := by
  obtain ⟨a, cap, hv, hc⟩ := h
  refine ⟨a, cap, hv, fun h0 => ?_⟩
  obtain ⟨g, off, ha, hg, hcc⟩ := hc h0
  refine ⟨g, off, ha, Nat.lt_of_lt_of_le hg hb.size, fun i hi => ?_⟩
  obtain ⟨s, h1, h2⟩ := hcc i hi
  exact ⟨s, (hb.cell (p := ⟨g, off + i, none⟩) hg).trans h1, h2.below hb⟩
/-- A row of bools. -/
def BoolsAt (w : World) (g : Nat) (xs : List Bool) : Prop := w.heap[g]? = some (.cells (xs.map Value.bool).toArray 4 (0, 0))
theorem BoolsAt.lt {w : World} {g : Nat} {xs : List Bool} (h : BoolsAt w g xs) : g < w.heap.size := (Array.getElem?_eq_some_iff.1 h).1
theorem BoolsAt.below {w w' : World} {g B : Nat} {xs : List Bool} (h : BoolsAt w g xs) (hb : Below B w w') (hg : g < B) : BoolsAt w' g xs := (hb.block g hg).trans h
theorem BoolsAt.cell {w : World} {g : Nat} {xs : List Bool} (h : BoolsAt w g xs) {i : Nat} (hi : i < xs.length) : w.cell? ⟨g, i, none⟩ = some (.bool (xs.getD i false)) := by
  unfold BoolsAt at h
  simp [World.cell?, h, hi]
theorem BoolsAt.free {w : World} {g : Nat} {xs : List Bool} (h : BoolsAt w g xs) (i : Nat) : w.frozen? ⟨g, i, none⟩ = false := by
  unfold BoolsAt at h
  simp [World.frozen?, h]
theorem BoolsAt.set {w : World} {g : Nat} {xs : List Bool} (h : BoolsAt w g xs) (i : Nat) (x : Bool) : BoolsAt (w.setCell ⟨g, i, none⟩ (.bool x)) g (xs.set i x) := by
  have hl := h.lt
  unfold BoolsAt at *
  simp only [World.setCell, Array.getElem?_modify, if_pos, h, Option.map_some, List.map_set]
  simp
theorem made_bools (w : World) (n : Nat) : BoolsAt (w.alloc (.cells (madeCells #[Value.bool false] n) 4)) w.heap.size (List.replicate n false) := by
  have e : madeCells #[Value.bool false] n = ((List.replicate n false).map Value.bool).toArray := by
    apply Array.toList_inj.1
    rw [toList_madeCells_one]
    simp
  unfold BoolsAt
  rw [e]
  exact alloc_new w _
def metL (n : Nat) (S : List Int) : List Bool := (List.range n).map (fun j : Nat => decide ((j : Int) ∈ S))
theorem metL_len (n : Nat) (S : List Int) : (metL n S).length = n := by unfold metL; simp
theorem metL_nil (n : Nat) : metL n [] = List.replicate n false := by
  refine List.ext_getElem (by rw [metL_len, List.length_replicate]) (fun i hi hi' => ?_)
  simp [metL]
theorem metL_at {n : Nat} {S : List Int} {j : Nat} (h : j < n) : (metL n S).getD j false = decide ((j : Int) ∈ S) := by
  unfold metL
  rw [List.getD_eq_getElem?_getD, List.getElem?_map, List.getElem?_range h]; rfl
theorem metL_set {n : Nat} {S : List Int} {j : Nat} (h : j < n) : (metL n S).set j true = metL n (S ++ [(j : Int)]) := by
  refine List.ext_getElem (by rw [List.length_set, metL_len, metL_len]) (fun i hi hi' => ?_)
  rw [List.getElem_set]
  unfold metL
  simp only [List.getElem_map, List.getElem_range, List.mem_append, List.mem_singleton]
  by_cases hij : j = i
  · subst hij; simp
  · rw [if_neg hij, decide_eq_decide]
    constructor
    · exact .inl
    · rintro (h | h)
      · exact h
      · omega
theorem flat_split {ls : List (List Int)} {q p : Nat} (hq : q < ls.length) (hp : p < ls[q].length) : ls.flatten = (ls.take q).flatten ++ (ls[q].take p ++ ls[q][p] :: (ls[q].drop (p + 1) ++ (ls.drop (q + 1)).flatten)) := by
  have h1 : ls.flatten = (ls.take q).flatten ++ (ls[q] ++ (ls.drop (q + 1)).flatten) := by
    rw [← List.flatten_cons, ← List.drop_eq_getElem_cons hq, ← List.flatten_append, List.take_append_drop]
  have h2 : ls[q] = ls[q].take p ++ ls[q][p] :: ls[q].drop (p + 1) := by
    rw [← List.drop_eq_getElem_cons hp, List.take_append_drop]
  rw [h1]
  congr 1
  refine (congrArg (fun z => z ++ (ls.drop (q + 1)).flatten) h2).trans ?_
  simp only [List.append_assoc, List.cons_append]
theorem once_at {ls : List (List Int)} {n : Nat} {len : Int} (h : OnceOk ls n len) {q p : Nat} (hq : q < ls.length) (hp : p < ls[q].length) : 0 ≤ ls[q][p] ∧ ls[q][p] < n ∧ ls[q][p] ∉ (ls.take q).flatten ++ ls[q].take p := by
  have hm : ls[q][p] ∈ ls.flatten := List.mem_flatten.2 ⟨_, List.getElem_mem hq, List.getElem_mem hp⟩
  obtain ⟨h1, h2⟩ := h.ins _ hm
  refine ⟨h1, h2, fun hc => ?_⟩
  have hN := h.once
  rw [flat_split hq hp, ← List.append_assoc, List.nodup_append] at hN
  exact hN.2.2 _ hc _ List.mem_cons_self rfl
theorem nodup_snoc {S : List Int} {x : Int} (h : S.Nodup) (hx : x ∉ S) : (S ++ [x]).Nodup := by
  rw [List.nodup_append]
  exact ⟨h, by simp, fun a ha b hb e => hx (by rw [List.mem_singleton.1 hb] at e; rw [← e]; exact ha)⟩
/-- A bool that says whether P holds. -/
def IsB (v : Value) (P : Prop) : Prop := ∃ r : Bool, v = .bool r ∧ (r = true ↔ P)
theorem IsB.no {P : Prop} (h : ¬ P) : IsB (.bool false) P := ⟨false, rfl, by simp [h]⟩
theorem IsB.yes {P : Prop} (h : P) : IsB (.bool true) P := ⟨true, rfl, by simp [h]⟩
theorem IsB.of {P : Prop} {r : Bool} (h : r = true ↔ P) : IsB (.bool r) P := ⟨r, rfl, h⟩
set_option maxHeartbeats 16000000 in
theorem once_any (ls : List (List Int)) (n : Nat) (len : Int) (vl : Value) (w : World) (hl : RdLL w vl ls) (hn : n ≤ 1000000) (hf : ls.flatten.length ≤ 1000000) (hll : ls.length ≤ 1000000) :
    Calls Tryz.prog 61 #[vl, .int .i64 n, .int .i64 len] w fun e w' => ∃ v, e = .returned v ∧ Below w.heap.size w w' ∧ IsB v (OnceOk ls n len) := by
  obtain ⟨a, c, rfl, hlc⟩ := hl
  have hmk := run_make_row' (P := Tryz.prog) 159 4 (.bool false) 1 Tryz.underlying159 Tryz.infoBoo rfl .i64 .i64 n (by omega) (by omega)
  have HLC := Lib.hid hlc
  have HMB := Lib.hid (made_bools w n)
  have HF := Lib.hid hf
  have hbA : Below w.heap.size w (w.alloc (.cells (madeCells #[Value.bool false] n) 4)) := (Below.refl _ w).alloc (Nat.le_refl _) _
  clear hlc hf
  go_enter Tryz.func61, Tryz.ntmps61
  go_wp2_with fail
  clear hmk
  go_loopw [8, 17] (fun s i wx => ∃ q : Nat, q ≤ ls.length ∧ i = .int .i64 q ∧ s = .int .i64 ((ls.take q).flatten.length : Nat) ∧ Below w.heap.size w wx ∧ BoolsAt wx w.heap.size (metL n (ls.take q).flatten) ∧ (∀ l ∈ ls.take q, 1 ≤ l.length ∧ (l.length : Int) ≤ len) ∧ (∀ x ∈ (ls.take q).flatten, 0 ≤ x ∧ x < n) ∧ (ls.take q).flatten.Nodup) (fun _ i _ => ls.length - (intOf i).toNat)
  case atStart => exact ⟨0, Nat.zero_le _, rfl, rfl, hbA, by rw [List.take_zero, List.flatten_nil, metL_nil]; exact HMB.out, by simp, by simp, by simp⟩
  case round =>
    clear hbA HMB
    obtain ⟨wo, hwo⟩ : ∃ x, x = wr := ⟨_, rfl⟩
    subst hwo
    obtain ⟨q, hq, rfl, rfl, hB, hM, hlen, hin, hnd⟩ := hrel
    have HB := Lib.hid hB
    have HM := Lib.hid hM
    have HLEN := Lib.hid hlen
    have HIN := Lib.hid hin
    have HND := Lib.hid hnd
    clear hlen hin hnd
    by_cases hlt : q < ls.length
    · obtain ⟨g, off, rfl, hg, hcc⟩ := HLC.out (by omega)
      obtain ⟨s, h1, h2⟩ := hcc q hlt
      have hone := fun (h : OnceOk ls n len) p hp => once_at (p := p) h hlt hp
      have hbad := fun (h : OnceOk ls n len) => h.lens _ (List.getElem_mem hlt)
      have hsn : (ls.take (q + 1)).flatten = (ls.take q).flatten ++ ls[q] := by rw [List.take_succ_eq_append_getElem hlt, List.flatten_append, List.flatten_singleton]
      have hmm : ∀ l ∈ ls.take (q + 1), l ∈ ls.take q ∨ l = ls[q] := fun l hl => by
        rw [List.take_succ_eq_append_getElem hlt] at hl
        rcases List.mem_append.1 hl with hl | hl
        · exact .inl hl
        · exact .inr (List.mem_singleton.1 hl)
      have hfl : (ls.take q).flatten.length + ls[q].length ≤ 1000000 := by
        have h3 : (ls.take (q + 1)).flatten.length ≤ ls.flatten.length := by
          conv => rhs; rw [← List.take_append_drop (q + 1) ls, List.flatten_append, List.length_append]
          omega
        have := HF.out
        rw [hsn, List.length_append] at h3
        omega
      obtain ⟨l, hle⟩ : ∃ l, l = ls[q] := ⟨_, rfl⟩
      obtain ⟨S, hS⟩ : ∃ S, S = (ls.take q).flatten := ⟨_, rfl⟩
      rw [← hle] at h2 hone hbad hsn hmm hfl
      rw [← hS] at hone hsn hfl hM ⊢
      have HIN' : Hid (∀ x ∈ S, 0 ≤ x ∧ x < (n : Int)) := by rw [hS]; exact HIN
      have HND' : Hid S.Nodup := by rw [hS]; exact HND
      have HONE := Lib.hid hone
      have HBAD := Lib.hid hbad
      have HSN := Lib.hid hsn
      have HMM := Lib.hid hmm
      obtain ⟨al, cl, rfl, hlc⟩ := h2
      replace h1 := (hB.cell (p := ⟨g, off + q, none⟩) hg).trans h1
      have HLCC := Lib.hid hlc
      have HM' := Lib.hid hM
      clear hone hbad hsn hmm hle hS hcc hlc hM HM hB HIN HND
      by_cases hz : l.length < 1
      · have hr : ¬ OnceOk ls n len := fun h => by have := HBAD.out h; omega
        have HR := Lib.hid hr
        clear hr
        go_wp2_with fail
        go_ret
        exact ⟨_, rfl, HB.out, IsB.no HR.out⟩
      · by_cases hz2 : (l.length : Int) > len
        · have hr : ¬ OnceOk ls n len := fun h => by have := HBAD.out h; omega
          have HR := Lib.hid hr
          clear hr
          go_wp2_with fail
          go_ret
          exact ⟨_, rfl, HB.out, IsB.no HR.out⟩
        · go_wp2_with fail
          go_loopw [8, 32] (fun s i wx => ∃ p : Nat, p ≤ l.length ∧ i = .int .i64 p ∧ s = .int .i64 (S.length + p : Nat) ∧ Below w.heap.size w wx ∧ BoolsAt wx w.heap.size (metL n (S ++ l.take p)) ∧ (∀ x ∈ S ++ l.take p, 0 ≤ x ∧ x < (n : Int)) ∧ (S ++ l.take p).Nodup) (fun _ i _ => l.length - (intOf i).toNat)
          case atStart => exact ⟨0, Nat.zero_le _, rfl, rfl, HB.out, by rw [List.take_zero, List.append_nil]; exact HM'.out, by rw [List.take_zero, List.append_nil]; exact HIN'.out, by rw [List.take_zero, List.append_nil]; exact HND'.out⟩
          case round =>
            obtain ⟨wi, hwi⟩ : ∃ x, x = wr := ⟨_, rfl⟩
            subst hwi
            obtain ⟨p, hp, rfl, rfl, hB, hM, hin, hnd⟩ := hrel
            have HB' := Lib.hid hB
            have HM := Lib.hid hM
            have HIN := Lib.hid hin
            have HND := Lib.hid hnd
            clear hin hnd hM
            by_cases hlp : p < l.length
            · obtain ⟨g2, o2, rfl, hg2, hc2⟩ := HLCC.out (by omega)
              have e1 := (hB.cell (p := ⟨g2, o2 + p, none⟩) hg2).trans (hc2 p hlp)
              have hO := fun (h : OnceOk ls n len) => HONE.out h p hlp
              have htk : l.take (p + 1) = l.take p ++ [l[p]] := List.take_succ_eq_append_getElem hlp
              obtain ⟨x, hx⟩ : ∃ x, x = l[p] := ⟨_, rfl⟩
              rw [← hx] at e1 hO htk
              have HO := Lib.hid hO
              have HTK := Lib.hid htk
              clear hO hx hc2 htk
              by_cases x0 : x < 0
              · have hr : ¬ OnceOk ls n len := fun h => by have := (HO.out h).1; omega
                have HR := Lib.hid hr
                clear hr hB
                go_wp2_with fail
                go_ret
                exact ⟨_, rfl, HB'.out, IsB.no HR.out⟩
              · by_cases x1 : x ≥ (n : Int)
                · have hr : ¬ OnceOk ls n len := fun h => by have := (HO.out h).2.1; omega
                  have HR := Lib.hid hr
                  clear hr hB
                  go_wp2_with fail
                  go_ret
                  exact ⟨_, rfl, HB'.out, IsB.no HR.out⟩
                · obtain ⟨j, rfl⟩ : ∃ j : Nat, x = (j : Int) := ⟨x.toNat, by omega⟩
                  have hjn : j < n := by omega
                  have m1 := HM.out.cell (i := j) (by rw [metL_len]; exact hjn)
                  rw [metL_at hjn] at m1
                  have m2 := HM.out.free j
                  have m3 := HM.out.set j true
                  rw [metL_set hjn] at m3
                  have HM3 := Lib.hid m3
                  clear m3 hB
                  by_cases hm : (j : Int) ∈ S ++ l.take p
                  · have hd : decide ((j : Int) ∈ S ++ l.take p) = true := decide_eq_true hm
                    rw [hd] at m1
                    have hr : ¬ OnceOk ls n len := fun h => (HO.out h).2.2 hm
                    have HR := Lib.hid hr
                    clear hr hd hm
                    go_wp2_with fail
                    go_ret
                    exact ⟨_, rfl, HB'.out, IsB.no HR.out⟩
                  · have hd : decide ((j : Int) ∈ S ++ l.take p) = false := decide_eq_false hm
                    rw [hd] at m1
                    have HNM := Lib.hid hm
                    clear hd hm
                    go_wp2_with fail
                    go_roundw
                    case rel =>
                      refine ⟨p + 1, by omega, by go_num, by go_num, HB'.out.setCell (p := ⟨w.heap.size, j, none⟩) (Nat.le_refl _) _, by rw [HTK.out, ← List.append_assoc]; exact HM3.out, ?_, ?_⟩
                      · rw [HTK.out, ← List.append_assoc]
                        intro y hy
                        rcases List.mem_append.1 hy with hy | hy
                        · exact HIN.out y hy
                        · rw [List.mem_singleton.1 hy]; omega
                      · rw [HTK.out, ← List.append_assoc]
                        exact nodup_snoc HND.out HNM.out
                    case measure => simp [intOf]; omega
            · obtain rfl : p = l.length := by omega
              rw [List.take_length] at HM HIN HND
              clear hB
              go_wp2_with fail
              go_roundw
              case rel =>
                refine ⟨q + 1, by omega, by go_num, by rw [HSN.out, List.length_append], HB'.out, by rw [HSN.out]; exact HM.out, ?_, by rw [HSN.out]; exact HIN.out, by rw [HSN.out]; exact HND.out⟩
                intro y hy
                rcases HMM.out y hy with hy | rfl
                · exact HLEN.out y hy
                · omega
              case measure => simp [intOf]; omega
    · obtain rfl : q = ls.length := by omega
      rw [List.take_length] at HLEN HIN HND ⊢
      have HFF : Hid (ls.flatten.length = n ↔ OnceOk ls n len) := ⟨fun h => ⟨HLEN.out, HIN.out, HND.out, h⟩, fun h => h.all⟩
      clear hM hB
      obtain ⟨N, hN⟩ : ∃ N, N = ls.flatten.length := ⟨_, rfl⟩
      rw [← hN] at HFF ⊢
      clear hN
      go_wp2_with fail
      go_ret
      refine ⟨_, rfl, HB.out, IsB.of ?_⟩
      rw [← HFF.out]
      simp
      try omega
end Go.Proofs.YtelklmdlodgdpaaGreat
