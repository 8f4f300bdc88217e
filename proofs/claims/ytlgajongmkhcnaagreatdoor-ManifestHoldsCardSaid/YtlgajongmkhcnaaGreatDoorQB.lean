import Derived.Test.YtlgajongmkhcnaaGreatDoorQZ
import Derived.Test.YtlgajongmkhcnaaGreatDoorQ8
import Derived.Test.YtlgajongmkhcnaaGreatDoorQ3
import Derived.Laws.CopyOwn
import Derived.Laws.OwnMore
import Derived.Deep.OwnRows
set_option linter.unusedVariables false
set_option linter.unusedSimpArgs false
set_option maxHeartbeats 32000000
namespace Go.Proofs.YtlgajongmkhcnaaGreatDoor
open Go.RowKit Go.Sort
set_option maxRecDepth 100000
theorem Z64 (xs : List Int) (off : Nat) (ys : List Int) : splice (xs.map (Value.int .i64)) off (ys.map (Value.int .i64)) = (xs.take off ++ (ys ++ xs.drop (off + ys.length))).map (Value.int .i64) := by
 unfold splice
 simp [List.map_take, List.map_drop]
theorem Zg0 (v : Int) (n m c : Nat) (hc : c = min (n - m) m) (hm : m <= n) :
 (List.replicate m v ++ List.replicate (n - m) 0).take m ++ (List.replicate c v ++ (List.replicate m v ++ List.replicate (n - m) 0).drop (m + c)) = List.replicate (m + c) v ++ List.replicate (n - (m + c)) 0 := by
 subst hc
 have h1 : (List.replicate m v ++ List.replicate (n - m) (0 : Int)).take m = List.replicate m v := by
  rw [List.take_append_of_le_length (by simp)]; exact List.take_of_length_le (by simp)
 have h2 : (List.replicate m v ++ List.replicate (n - m) (0 : Int)).drop (m + min (n - m) m) = List.replicate (n - (m + min (n - m) m)) 0 := by
  rw [List.drop_append, List.drop_of_length_le (by simp), List.nil_append, List.drop_replicate, List.length_replicate]
  congr 1; omega
 rw [h1, h2, <- List.append_assoc, List.replicate_append_replicate]
theorem Z7k (n : Nat) : madeCells #[Value.int .i64 0] n = ((List.replicate n 0).map (Value.int .i64)).toArray := by
 apply Array.toList_inj.1
 rw [toList_madeCells_one]
 simp
theorem Z6v (w : World) (n : Nat) : (w.alloc (.cells (madeCells #[Value.int .i64 0] n) 3)).1[w.1.size]? = some (.cells ((List.replicate n 0).map (Value.int .i64)).toArray 3 (0, 0)) := by
 rw [Z7k]
 show (w.1.push _)[w.1.size]? = _
 rw [Array.getElem?_push_size]
theorem ZhK {w : World} {b o n : Nat} {v : Int} {ob : Obj} (hc : w.cell? ⟨b, o, none⟩ = some (.int .i64 v)) (hb : b < w.1.size) :
 0 < (List.replicate (min n 1) (Value.int .i64 v)).length -> some (⟨w.1.size, 0, none⟩ : Addr) = some ⟨w.1.size, 0, none⟩ /\ ∃ ad, some (⟨b, o, none⟩ : Addr) = some ad /\ ∀ j u, (List.replicate (min n 1) (Value.int .i64 v))[j]? = some u -> (w.alloc ob).cell? (ad.add j) = some u := by
 intro h
 refine ⟨rfl, _, rfl, fun j u hu => ?_⟩
 obtain ⟨hj, rfl⟩ := List.getElem?_eq_some_iff.1 hu
 rw [List.length_replicate] at hj
 obtain rfl : j = 0 := by omega
 have ea : (⟨b, o, none⟩ : Addr).add 0 = ⟨b, o, none⟩ := by unfold Addr.add; simp
 rw [ea, List.getElem_replicate]
 exact (((Z9 _ w).alloc (Z1 _) ob).cell (p := ⟨b, o, none⟩) hb).trans hc
theorem Z9k (n : Nat) (v : Int) : ∀ u ∈ List.replicate n (Value.int .i64 v), u.oneCell' = true := by
 intro u hu
 rw [(List.mem_replicate.1 hu).2]; rfl
theorem ZfZ {w : World} {g n m : Nat} {v : Int} (h : w.1[g]? = some (.cells (splice ((List.replicate m v ++ List.replicate (n - m) 0).map (Value.int .i64)) m (List.replicate (min (n - m) m) (Value.int .i64 v))).toArray 3 (0, 0))) (hm : m <= n) :
 IntsAt w g (List.replicate (m + min (n - m) m) v ++ List.replicate (n - (m + min (n - m) m)) 0) := by
 unfold IntsAt
 rw [h, show List.replicate (min (n - m) m) (Value.int .i64 v) = (List.replicate (min (n - m) m) v).map (Value.int .i64) by simp, Z64, List.length_replicate, Zg0 v n m _ rfl hm]
theorem ifv {n m : Nat} (h : n ≠ m) (a b : Option Addr) (k : Nat) : Value.slice (if n = m then a else b) k k = .slice b k k := by rw [if_neg h]
theorem ZhL {n m : Nat} {v x : Int} (hm : m <= n) : m + (List.replicate (min (n - m) m) (Value.int .i64 v)).length <= ((List.replicate m v ++ List.replicate (n - m) x).map (Value.int .i64)).length := by
 simp; omega
theorem ZhJ {w : World} {g n m : Nat} {v : Int} (h : w.1[g]? = some (.cells ((List.replicate m v ++ List.replicate (n - m) 0).map (Value.int .i64)).toArray 3 (0, 0))) (hm : 0 < m) (hlt : m < n) :
 0 < (List.replicate (min (n - m) m) (Value.int .i64 v)).length -> some (⟨g, m, none⟩ : Addr) = some ⟨g, m, none⟩ /\ ∃ ad, some (⟨g, 0, none⟩ : Addr) = some ad /\ ∀ j u, (List.replicate (min (n - m) m) (Value.int .i64 v))[j]? = some u -> w.cell? (ad.add j) = some u := by
 intro _
 refine ⟨rfl, _, rfl, fun j u hu => ?_⟩
 obtain ⟨hj, rfl⟩ := List.getElem?_eq_some_iff.1 hu
 rw [List.length_replicate] at hj
 have ea : (⟨g, 0, none⟩ : Addr).add j = ⟨g, j, none⟩ := by unfold Addr.add; split <;> simp_all
 have h' : IntsAt w g (List.replicate m v ++ List.replicate (n - m) 0) := h
 rw [ea, h'.cell (by simp; omega), List.getElem_replicate, Z2, List.getElem?_append_left (by simp; omega), List.getElem?_replicate, if_pos (by omega)]
 rfl
theorem Z50 (v : Int) (n b o c : Nat) (w : World) (hn : n <= 1000000) (hc : w.cell? ⟨b, o, none⟩ = some (.int .i64 v)) (hb : b < w.1.size) :
 Calls Tryz.prog 100 #[.slice (some ⟨b, o, none⟩) 1 c, .int .i64 (n : Int)] w fun e w' => ∃ g, e = .returned (.slice (some ⟨g, 0, none⟩) n n) /\ w.1.size <= g /\ IntsAt w' g (List.replicate n v) /\ Below w.1.size w w' := by
 have HM : Hid (∀ W, Calls Tryz.prog 130 #[.int .u64 1, .int .u64 (n : Int)] W fun e w' => e = .returned (.tuple #[.int .u64 0, .int .u64 (n : Int)]) /\ w' = W) := fun W => by
  have h := Tryz.bits_Mul 1 n (by omega) (by omega) W
  rw [Nat.one_mul, Nat.div_eq_of_lt (by omega), Nat.mod_eq_of_lt (by omega)] at h
  exact h
 have HC := Z0 hc
 clear hc
 go_enter Tryz.func100, Tryz.ntmps100
 have hmk := run_make_row' (P := Tryz.prog) 35 3 (.int .i64 0) 8 Tryz.underlying35 Tryz.infoI rfl .i64 .i64 n (by omega) (by omega)
 go_wp2_with (first
  | (go_at_call 130; refine (HM.out _).mono ?_; rintro e w1 ⟨rfl, h1⟩; obtain rfl : w = w1 := h1.symm)
  | (with_reducible refine wpList_copy_splice rfl (.tmp 31) (.tmp 32) 35 35 rfl 3 Tryz.underlying35 (by kernel_rfl) (some ⟨w.1.size, 0, none⟩) (some ⟨b, o, none⟩) n n 1 c rfl rfl w.1.size 0 ((List.replicate n 0).map (Value.int .i64)) 3 ?q1 (List.replicate (min n 1) (.int .i64 v)) ?q2 ?q3 ?q4 ?q5 w.1.size w ?q6 (Z1 _) ?_; (case q1 => exact Z6v w n); (case q2 => simp [Nat.min_comm]); (case q3 => exact ZhK HC.out hb); (case q4 => simp; omega); (case q5 => exact Z9k _ _); (case q6 => exact (Z9 _ w).alloc (Z1 _) _); intro w2 HG2 hB2))
 have hq : (0 < n -> 0 < min n 1) /\ min n 1 <= n := by omega
 have HG : Hid (IntsAt w2 w.1.size (List.replicate (min n 1) v ++ List.replicate (n - min n 1) 0)) := by
  have h := HG2.out
  rw [show List.replicate (min n 1) (Value.int .i64 v) = (List.replicate (min n 1) v).map (Value.int .i64) by simp, Z64] at h
  show _ = _
  rw [h]
  simp
 clear HG2
 generalize min n 1 = m0 at hq HG
 go_loopw [8] (fun i wr => ∃ m : Nat, m <= n /\ (0 < n -> 0 < m) /\ i = .int .i64 m /\ Below w.1.size w wr /\ Hid (IntsAt wr w.1.size (List.replicate m v ++ List.replicate (n - m) 0))) (fun i _ => n - (intOf i).toNat)
 case atStart => exact ⟨m0, hq.2, hq.1, rfl, hB2, HG⟩
 case round =>
  clear hB2 HG hq
  obtain ⟨m, hm, hm0, rfl, hB, HG⟩ := hrel
  by_cases hlt : m < n
  ·have hm1 := hm0 (by omega)
   have hg1 : (wr.1[w.1.size]? = some (.cells (((List.replicate m v ++ List.replicate (n - m) 0)).map (Value.int .i64)).toArray 3 (0, 0))) := HG.out
   have HG1 := Z0 hg1
   clear hg1
   have q6 : Below w.1.size w wr := hB
   have hne : n ≠ m := by omega
   go_wp2_with fail
   go_region_law (refine step_copy_splice rfl (.tmp 41) (.tmp 44) 35 35 rfl 3 Tryz.underlying35 (by kernel_rfl) (some ⟨w.1.size, m, none⟩) (some ⟨w.1.size, 0, none⟩) (n - m) (n - m) m n ?r1 ?r2 w.1.size m _ 3 HG1.out (List.replicate (min (n - m) m) (.int .i64 v)) ?q2 ?q3 ?q4 ?q5 w.1.size w ?q6 (Z1 _) ?_; (case r1 => first | rfl | exact ifv hne _ _ _); (case r2 => rfl); (case q2 => simp [Nat.min_comm]); (case q3 => exact ZhJ HG1.out hm1 hlt); (case q4 => exact ZhL hm); (case q5 => exact Z9k _ _); (case q6 => first | exact q6 | exact q6.drew); intro w3 HG3 hB3)
   all_goals
    have hc2 : m + min (n - m) m <= n /\ (0 < n -> 0 < m + min (n - m) m) /\ n - (m + min (n - m) m) < n - m := by omega
    have HG4 := Z0 (ZfZ HG3.out hm)
    clear HG3
    generalize min (n - m) m = cc at hc2 HG4
    go_wp2_with fail
    go_simp
    have hw : IntKind.i64.wrap ((m : Int) + (cc : Int)) = ((m + cc : Nat) : Int) := by rw [IntWalk.i64_left, IntWalk.wrap64_in _ (by omega)]; omega
    exact ⟨⟨m + cc, hc2.1, hc2.2.1, hw, HG4⟩, by rw [hw]; simp [intOf]; omega⟩
  ·obtain rfl : m = n := by omega
   go_wp2_with fail
   go_ret
   refine ⟨_, rfl, Z1 _, ?_, hB⟩
   have h := HG.out
   rw [Nat.sub_self, List.replicate_zero, List.append_nil] at h
   exact h
end Go.Proofs.YtlgajongmkhcnaaGreatDoor
