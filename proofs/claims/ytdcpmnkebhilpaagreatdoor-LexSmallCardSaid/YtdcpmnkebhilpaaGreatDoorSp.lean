/-
  Contracts of strings.SplitSeq at a line end, and of its iterator.
-/
import Derived.Test.YtdcpmnkebhilpaaGreatDoorRF
import Derived.Test.YtdcpmnkebhilpaaGreatDoorShelf
import Derived.Test.YtdcpmnkebhilpaaGreatDoorB
import Derived.Lib.IndexLaws
import Derived.Outline
namespace Go.Proofs.YtdcpmnkebhilpaaGreatDoor
open Go.RowKit Go.Shelf
attribute [local go_sem] Oper.semAt_some
set_option linter.unusedVariables false
def splitGo : Nat → List UInt8 → List (List UInt8)
  | 0, r => [r]
  | n + 1, r => if Lib.indexByte r 10 = -1 then [r] else r.take (Lib.indexByte r 10).toNat :: splitGo n (r.drop ((Lib.indexByte r 10).toNat + 1))
def splitL (l : List UInt8) : List (List UInt8) := splitGo l.length l
abbrev Txt := { b : ByteArray // b.size ≤ 60000 }
def Kp3 (B : Nat) (W W' : World) : Prop := ∀ k, B ≤ k → k < B + 3 → W'.heap[k]? = W.heap[k]?
def lenAt (B : Nat) (W : World) : Nat := match W.cell? ⟨B, 0, none⟩ with | some (.string r) => r.size | _ => 0
theorem lenAt_eq {B : Nat} {W : World} {r : ByteArray} (h : Boxed W B 9 (.string r)) : lenAt B W = r.size := by unfold lenAt; rw [h.cell]
theorem splitSeq_stops (B : Nat) (s : ByteArray) (w : World) (hs : s.size ≤ 60000) (hB : B + 3 ≤ w.heap.size) (h1 : Boxed w B 9 (.string s)) (h2 : Boxed w (B + 1) 9 (.string ⟨#[10]⟩)) (h3 : Boxed w (B + 1 + 1) 3 (.int .i64 0)) :
    IterB Tryz.prog 106 #[.pointer (some ⟨B + 1, 0, none⟩), .pointer (some ⟨B, 0, none⟩), .pointer (some ⟨B + 1 + 1, 0, none⟩)] (fun x : Txt => #[.string x.1]) (Kp3 B)
      (fun xs => xs.map (fun x => x.1.data.toList) = splitL s.data.toList) (fun pre => pre.map (fun x => x.1.data.toList) <+: splitL s.data.toList) B w := by
  intro l J Jx W hW hJ hJx hY h0
  replace h1 : Boxed W B 9 (.string s) := (hW.block _ (by omega)).trans h1
  replace h2 : Boxed W (B + 1) 9 (.string ⟨#[10]⟩) := (hW.block _ (by omega)).trans h2
  replace h3 : Boxed W (B + 1 + 1) 3 (.int .i64 0) := (hW.block _ (by omega)).trans h3
  clear hB hW
  refine callsIn_of_wp Tryz.func106 rfl trivial ?_ rfl
  simp only [Tryz.ntmps106, List.size_toArray, List.length_cons, List.length_nil, Nat.reduceAdd, Nat.reduceSub, Array.replicate_succ, Array.replicate_zero, List.push_toArray, List.append_toArray, List.nil_append, List.cons_append]
  have c2 := h2.cell
  gi_wp2_with fail
  clear c2
  gi_loopw [7] (fun _ wr => ∃ (n : Nat) (r : ByteArray) (pre : List Txt), r.size ≤ n ∧ r.size ≤ 60000 ∧ Boxed wr B 9 (.string r) ∧ Boxed wr (B + 1) 9 (.string ⟨#[10]⟩) ∧ Boxed wr (B + 1 + 1) 3 (.int .i64 0) ∧
      Hid (splitL s.data.toList = pre.map (fun x => x.1.data.toList) ++ splitGo n r.data.toList) ∧ J pre wr) (fun _ wr => lenAt B wr)
  case atStart => exact ⟨s.size, s, [], Nat.le_refl _, hs, h1, h2, h3, by show _ = _; unfold splitL; simp, h0⟩
  case round =>
    clear h0 h1 h2 h3
    obtain ⟨n, r, pre, hn, hr, h1, h2, h3, hsp, hj⟩ := hrel
    have c1 := h1.cell
    have c2 := h2.cell
    have c3 := h3.cell
    by_cases hix : Lib.indexByte r.data.toList 10 = -1
    · have HX := Lib.hid hix
      obtain ⟨fn, tmps, assign, body, hy, hR⟩ := hY pre ⟨r, hr⟩ wr hj
      dsimp only at hy
      have HR := Lib.hid hR
      clear hix hY hR
      gi_wp2_with (refine ⟨trivial, rfl, ?_⟩; gi_at_call 84; refine (callsIn_wide.2 (Tryz.strings_Index_one _ 10 _)).mono ?_; rintro e w' ⟨rfl, rfl⟩; rw [HX.out])
      refine ⟨rfl, HR.out.mono ?_⟩
      have hone : splitGo n r.data.toList = [r.data.toList] := by
        cases n with
        | zero => rfl
        | succ n => rw [splitGo, if_pos HX.out]
      have hall : (pre ++ [(⟨r, hr⟩ : Txt)]).map (fun x : Txt => x.1.data.toList) = splitL s.data.toList := by rw [hsp.out, hone, List.map_append]; rfl
      have HA := Lib.hid hall
      clear hall hone
      rintro e W3 (⟨rfl, hJ3, hk3⟩ | ⟨rfl, hJx3⟩)
      · gi_wp2
        go_end0
        exact ⟨⟨_, rfl⟩, .inl ⟨_, HA.out, hJ3⟩⟩
      · gi_wp2
        go_end0
        exact ⟨⟨_, rfl⟩, .inr ⟨_, by rw [HA.out]; exact List.prefix_rfl, hJx3⟩⟩
    · obtain ⟨i, hi⟩ : ∃ i : Nat, Lib.indexByte r.data.toList 10 = i := ⟨(Lib.indexByte r.data.toList 10).toNat, by have := Lib.indexByte_ge r.data.toList 10; omega⟩
      have hib : i < r.size := by
        have := (Lib.indexByte_some hi).1
        have := (List.getElem?_eq_some_iff.1 this).1
        simpa using this
      obtain ⟨n, rfl⟩ : ∃ m, n = m + 1 := ⟨n - 1, by omega⟩
      have hgo : splitGo (n + 1) r.data.toList = r.data.toList.take i :: splitGo n (r.data.toList.drop (i + 1)) := by rw [splitGo, if_neg hix, hi]; rfl
      have HG := Lib.hid hgo
      have HX := Lib.hid hi
      have hxs : (r.extract 0 i).size ≤ 60000 := by rw [ByteArray.size_extract]; omega
      obtain ⟨fn, tmps, assign, body, hy, hR⟩ := hY pre ⟨r.extract 0 i, hxs⟩ wr hj
      dsimp only at hy
      have HR := Lib.hid hR
      clear hix hR hgo hi
      have HYY := Lib.hid hY
      clear hY
      gi_wp2_with (refine ⟨trivial, rfl, ?_⟩; gi_at_call 84; refine (callsIn_wide.2 (Tryz.strings_Index_one _ 10 _)).mono ?_; rintro e w' ⟨rfl, rfl⟩; rw [HX.out])
      refine ⟨rfl, HR.out.mono ?_⟩
      rintro e W3 (⟨rfl, hJ3, hk3⟩ | ⟨rfl, hJx3⟩)
      · have h1o := lenAt_eq h1
        have H1 := Lib.hid h1o
        clear h1o
        replace h1 : Boxed W3 B 9 (.string r) := (hk3 B (Nat.le_refl _) (by omega)).trans h1
        replace h2 : Boxed W3 (B + 1) 9 (.string ⟨#[10]⟩) := (hk3 (B + 1) (by omega) (by omega)).trans h2
        replace h3 : Boxed W3 (B + 1 + 1) 3 (.int .i64 0) := (hk3 (B + 1 + 1) (by omega) (by omega)).trans h3
        clear c1 c2 c3 hk3
        have c1 := h1.cell
        have c2 := h2.cell
        have c4 := h1.frozen
        gi_wp2_with fail
        go_roundw
        case rel =>
          have hsz : (r.extract (i + 1) r.size).size = r.size - (i + 1) := by rw [ByteArray.size_extract]; omega
          exact ⟨n, r.extract (i + 1) r.size, pre ++ [⟨r.extract 0 i, hxs⟩], by omega, by omega, h1.set _, h2.kept (grownBy_setCell' _ _ _) (by simp), h3.kept (grownBy_setCell' _ _ _) (by simp; omega),
            by show _ = _; rw [hsp.out, HG.out, List.map_append, List.append_assoc]; simp [List.take_of_length_le], hJ _ _ _ (some B) hJ3 (grownBy_setCell' _ _ _) (fun x e => by cases e; rfl)⟩
        case measure =>
          rw [lenAt_eq (h1.set _), H1.out, ByteArray.size_extract]; omega
      · gi_wp2_with fail
        refine bodyPost_ret (results_none rfl _ _ _) rfl ?_
        refine ⟨⟨_, rfl⟩, .inr ⟨_, ?_, hJx3⟩⟩
        rw [hsp.out, HG.out, List.map_append]
        refine ⟨splitGo n (r.data.toList.drop (i + 1)), ?_⟩
        simp
theorem splitSeq_any (s : ByteArray) (w : World) :
    Calls Tryz.prog 62 #[.string s, .string ⟨#[10]⟩] w fun e w' => e = .returned (.func (.func 106) #[] #[.pointer (some ⟨w.heap.size + 1, 0, none⟩), .pointer (some ⟨w.heap.size, 0, none⟩), .pointer (some ⟨w.heap.size + 1 + 1, 0, none⟩)]) ∧
      ((w.alloc (.cells #[.string s] 9)).alloc (.cells #[.string ⟨#[10]⟩] 9)).alloc (.cells #[.int .i64 0] 3) = w' := by
  go_enter Tryz.func62, Tryz.ntmps62
  go_wp2
  go_ret
  exact ⟨rfl, rfl⟩
end Go.Proofs.YtdcpmnkebhilpaaGreatDoor
