import Derived.Test.YtlgajongmkhcnaaGreatDoorQU8
import Derived.Test.YtlgajongmkhcnaaGreatDoorQU3
import Derived.Laws.CopyOwn
import Derived.Laws.OwnMore
import Derived.Deep.OwnRows
set_option maxRecDepth 100000
set_option linter.unusedVariables false
set_option linter.unusedSimpArgs false
set_option maxHeartbeats 32000000
namespace Go.Proofs.YtlgajongmkhcnaaGreatDoor
open Go.RowKit Go.Sort
theorem Z6G (xs : List Int) (off : Nat) (ys : List Int) : splice (xs.map (Value.int .i64)) off (ys.map (Value.int .i64)) = (xs.take off ++ (ys ++ xs.drop (off + ys.length))).map (Value.int .i64) := by
 unfold splice
 simp [List.map_take, List.map_drop]
theorem Zhg (v : Int) (n m c : Nat) (hc : c = min (n - m) m) (hm : m <= n) :
 (List.replicate m v ++ List.replicate (n - m) 0).take m ++ (List.replicate c v ++ (List.replicate m v ++ List.replicate (n - m) 0).drop (m + c)) = List.replicate (m + c) v ++ List.replicate (n - (m + c)) 0 := by
 subst hc
 have h1 : (List.replicate m v ++ List.replicate (n - m) (0 : Int)).take m = List.replicate m v := by
  rw [Kdo (by simp)]; exact Kas (by simp)
 have h2 : (List.replicate m v ++ List.replicate (n - m) (0 : Int)).drop (m + min (n - m) m) = List.replicate (n - (m + min (n - m) m)) 0 := by
  rw [List.drop_append, List.drop_of_length_le (by simp), Kca, List.drop_replicate, Kcb]
  congr 1; omega
 rw [h1, h2, <- Kbc, List.replicate_append_replicate]
theorem Z7T (n : Nat) : madeCells #[Value.int .i64 0] n = ((List.replicate n 0).map (Value.int .i64)).toArray := by
 apply Array.toList_inj.1
 rw [toList_madeCells_one]
 simp
theorem Z4W (w : World) (n : Nat) : (w.alloc (.cells (madeCells #[Value.int .i64 0] n) 3)).1[w.1.size]? = some (.cells ((List.replicate n 0).map (Value.int .i64)).toArray 3 (0, 0)) := by
 rw [Z7T]
 show (w.1.push _)[w.1.size]? = _
 rw [Array.getElem?_push_size]
theorem Zj2 {w : World} {b o n : Nat} {v : Int} {ob : Obj} (hc : w.cell? ⟨b, o, none⟩ = some (.int .i64 v)) (hb : b < w.1.size) :
 0 < (List.replicate (min n 1) (Value.int .i64 v)).length -> some (⟨w.1.size, 0, none⟩ : Addr) = some ⟨w.1.size, 0, none⟩ /\ ∃ ad, some (⟨b, o, none⟩ : Addr) = some ad /\ ∀ j u, (List.replicate (min n 1) (Value.int .i64 v))[j]? = some u -> (w.alloc ob).cell? (ad.add j) = some u := by
 intro h
 refine ⟨rfl, _, rfl, fun j u hu => ?_⟩
 obtain ⟨hj, rfl⟩ := Kam.1 hu
 rw [Kcb] at hj
 obtain rfl : j = 0 := by omega
 have ea : (⟨b, o, none⟩ : Addr).add 0 = ⟨b, o, none⟩ := by unfold Addr.add; simp
 rw [ea, List.getElem_replicate]
 exact (((Z9 _ w).alloc (Z1 _) ob).cell (p := ⟨b, o, none⟩) hb).trans hc
theorem Za0 (n : Nat) (v : Int) : ∀ u ∈ List.replicate n (Value.int .i64 v), u.oneCell' = true := by
 intro u hu
 rw [(List.mem_replicate.1 hu).2]; rfl
theorem Zhf {w : World} {g n m : Nat} {v : Int} (h : w.1[g]? = some (.cells (splice ((List.replicate m v ++ List.replicate (n - m) 0).map (Value.int .i64)) m (List.replicate (min (n - m) m) (Value.int .i64 v))).toArray 3 (0, 0))) (hm : m <= n) :
 IntsAt w g (List.replicate (m + min (n - m) m) v ++ List.replicate (n - (m + min (n - m) m)) 0) := by
 unfold IntsAt
 rw [h, show List.replicate (min (n - m) m) (Value.int .i64 v) = (List.replicate (min (n - m) m) v).map (Value.int .i64) by simp, Z6G, Kcb, Zhg v n m _ rfl hm]
theorem ifv {n m : Nat} (h : n ≠ m) (a b : Option Addr) (k : Nat) : Value.slice (if n = m then a else b) k k = .slice b k k := by rw [if_neg h]
theorem Zj3 {n m : Nat} {v x : Int} (hm : m <= n) : m + (List.replicate (min (n - m) m) (Value.int .i64 v)).length <= ((List.replicate m v ++ List.replicate (n - m) x).map (Value.int .i64)).length := by
 simp; omega
theorem Zj1 {w : World} {g n m : Nat} {v : Int} (h : w.1[g]? = some (.cells ((List.replicate m v ++ List.replicate (n - m) 0).map (Value.int .i64)).toArray 3 (0, 0))) (hm : 0 < m) (pB : m < n) :
 0 < (List.replicate (min (n - m) m) (Value.int .i64 v)).length -> some (⟨g, m, none⟩ : Addr) = some ⟨g, m, none⟩ /\ ∃ ad, some (⟨g, 0, none⟩ : Addr) = some ad /\ ∀ j u, (List.replicate (min (n - m) m) (Value.int .i64 v))[j]? = some u -> w.cell? (ad.add j) = some u := by
 intro _
 refine ⟨rfl, _, rfl, fun j u hu => ?_⟩
 obtain ⟨hj, rfl⟩ := Kam.1 hu
 rw [Kcb] at hj
 have ea : (⟨g, 0, none⟩ : Addr).add j = ⟨g, j, none⟩ := by unfold Addr.add; split <;> simp_all
 have h' : IntsAt w g (List.replicate m v ++ List.replicate (n - m) 0) := h
 rw [ea, h'.cell (by simp; omega), List.getElem_replicate, Z2, Ka6 (by simp; omega), List.getElem?_replicate, if_pos (by omega)]
 rfl
theorem Z5n (v : Int) (n b o c : Nat) (w : World) (hn : n <= 1000000) (hc : w.cell? ⟨b, o, none⟩ = some (.int .i64 v)) (hb : b < w.1.size) :
 Calls Tryz.prog 100 #[.slice (some ⟨b, o, none⟩) 1 c, .int .i64 (n : Int)] w fun e w' => ∃ g, e = .returned (.slice (some ⟨g, 0, none⟩) n n) /\ w.1.size <= g /\ IntsAt w' g (List.replicate n v) /\ Below w.1.size w w' := by
 have HM : Hid (∀ W, Calls Tryz.prog 130 #[.int .u64 1, .int .u64 (n : Int)] W fun e w' => e = .returned (.tuple #[.int .u64 0, .int .u64 (n : Int)]) /\ w' = W) := fun W => by
  have h := Tryz.bits_Mul 1 n (by omega) (by omega) W
  rw [Nat.one_mul, Nat.div_eq_of_lt (by omega), Kcv (by omega)] at h
  exact h
 have HC := Z0 hc
 clear hc
 go_enter Tryz.func100, Tryz.ntmps100
 have pL := run_make_row' (P := Tryz.prog) 35 3 (.int .i64 0) 8 Tryz.underlying35 Tryz.infoI rfl .i64 .i64 n (by omega) (by omega)
 go_wp2_with (first
  | (go_at_call 130; refine (HM.out _).mono ?_; rintro e w1 ⟨rfl, h1⟩; obtain rfl : w = w1 := h1.symm)
  | (with_reducible refine wpList_copy_splice rfl (.tmp 31) (.tmp 32) 35 35 rfl 3 Tryz.underlying35 (by kernel_rfl) (some ⟨w.1.size, 0, none⟩) (some ⟨b, o, none⟩) n n 1 c rfl rfl w.1.size 0 ((List.replicate n 0).map (Value.int .i64)) 3 ?q1 (List.replicate (min n 1) (.int .i64 v)) ?q2 ?q3 ?q4 ?q5 w.1.size w ?q6 (Z1 _) ?_; (case q1 => exact Z4W w n); (case q2 => simp [Nat.min_comm]); (case q3 => exact Zj2 HC.out hb); (case q4 => simp; omega); (case q5 => exact Za0 _ _); (case q6 => exact (Z9 _ w).alloc (Z1 _) _); intro w2 pC pD))
 have hq : (0 < n -> 0 < min n 1) /\ min n 1 <= n := by omega
 have HG : Hid (IntsAt w2 w.1.size (List.replicate (min n 1) v ++ List.replicate (n - min n 1) 0)) := by
  have h := pC.out
  rw [show List.replicate (min n 1) (Value.int .i64 v) = (List.replicate (min n 1) v).map (Value.int .i64) by simp, Z6G] at h
  show _ = _
  rw [h]
  simp
 clear pC
 generalize min n 1 = m0 at hq HG
 go_loopw [8] (fun i wr => ∃ m : Nat, m <= n /\ (0 < n -> 0 < m) /\ i = .int .i64 m /\ Below w.1.size w wr /\ Hid (IntsAt wr w.1.size (List.replicate m v ++ List.replicate (n - m) 0))) (fun i _ => n - (intOf i).toNat)
 case atStart => exact ⟨m0, hq.2, hq.1, rfl, pD, HG⟩
 case round =>
  clear pD HG hq
  obtain ⟨m, hm, pI, rfl, hB, HG⟩ := hrel
  by_cases pB : m < n
  ·have pJ := pI (by omega)
   have pE : (wr.1[w.1.size]? = some (.cells (((List.replicate m v ++ List.replicate (n - m) 0)).map (Value.int .i64)).toArray 3 (0, 0))) := HG.out
   have pF := Z0 pE
   clear pE
   have q6 : Below w.1.size w wr := hB
   have pK : n ≠ m := by omega
   go_wp2_with fail
   go_region_law (refine step_copy_splice rfl (.tmp 41) (.tmp 44) 35 35 rfl 3 Tryz.underlying35 (by kernel_rfl) (some ⟨w.1.size, m, none⟩) (some ⟨w.1.size, 0, none⟩) (n - m) (n - m) m n ?r1 ?r2 w.1.size m _ 3 pF.out (List.replicate (min (n - m) m) (.int .i64 v)) ?q2 ?q3 ?q4 ?q5 w.1.size w ?q6 (Z1 _) ?_; (case r1 => first | rfl | exact ifv pK _ _ _); (case r2 => rfl); (case q2 => simp [Nat.min_comm]); (case q3 => exact Zj1 pF.out pJ pB); (case q4 => exact Zj3 hm); (case q5 => exact Za0 _ _); (case q6 => first | exact q6 | exact q6.drew); intro w3 pG pM)
   all_goals
    have pA : m + min (n - m) m <= n /\ (0 < n -> 0 < m + min (n - m) m) /\ n - (m + min (n - m) m) < n - m := by omega
    have pH := Z0 (Zhf pG.out hm)
    clear pG
    generalize min (n - m) m = cc at pA pH
    go_wp2_with fail
    go_simp
    have hw : IntKind.i64.wrap ((m : Int) + (cc : Int)) = ((m + cc : Nat) : Int) := by rw [IntWalk.i64_left, IntWalk.wrap64_in _ (by omega)]; omega
    exact ⟨⟨m + cc, pA.1, pA.2.1, hw, pH⟩, by rw [hw]; simp [intOf]; omega⟩
  ·obtain rfl : m = n := by omega
   go_wp2_with fail
   go_ret
   refine ⟨_, rfl, Z1 _, ?_, hB⟩
   have h := HG.out
   rw [Kb3, List.replicate_zero, Ka1] at h
   exact h
end Go.Proofs.YtlgajongmkhcnaaGreatDoor
