/-
  letterbaglaw17.CodeSmall: the walk.
-/
import Derived.Test.YtgdlgfplheeblaaGreatDoorN1
namespace Go.Proofs.YtgdlgfplheeblaaGreatDoor
open Go.RowKit
set_option linter.unusedVariables false
set_option maxRecDepth 100000
theorem conv_two (W : World) (a b : UInt8) (y z : Int) (hy : y = (a.toNat : Int)) (hz : z = (b.toNat : Int)) : Sem.run Tryz.prog (convert 27 9 (.slice (some ⟨W.heap.size, 0, none⟩) 2 2)) (W.alloc (.cells #[.int .u8 y, .int .u8 z] 5)) = .ok (.string ⟨#[a, b]⟩) (W.alloc (.cells #[.int .u8 y, .int .u8 z] 5)) := by
  subst hy hz
  refine run_convert_bytes_back (P := Tryz.prog) _ 27 9 5 ⟨W.heap.size, 0, none⟩ 2 [a, b] Tryz.underlying27 Tryz.underlying5 Tryz.underlying9 (fun j hj => ?_)
  have ea : (⟨W.heap.size, 0, none⟩ : Addr).add j = ⟨W.heap.size, j, none⟩ := by unfold Addr.add; split <;> simp_all
  rw [ea, World.cell?_alloc_new]
  have hj1 : j < 2 := hj
  have : j = 0 ∨ j = 1 := by omega
  rcases this with rfl | rfl <;> rfl
def basesL : List ByteArray := [⟨#[48, 48, 48, 48, 48]⟩, ⟨#[49, 50, 51, 52, 53]⟩, ⟨#[65, 48, 65, 48, 65, 48]⟩, ⟨#[75, 49, 65, 48, 66, 49]⟩, ⟨#[90, 57, 90, 57, 90, 57]⟩, ⟨#[48, 48, 48, 48]⟩, ⟨#[57, 57, 57, 57]⟩, ⟨#[]⟩]
def headsL : List ByteArray := [⟨#[48, 48, 48, 48, 48, 48, 48, 48, 48, 48, 48, 48, 48, 48, 48]⟩, ⟨#[49, 49, 49, 49, 49, 49, 49, 49, 49, 49, 49, 49, 49, 49, 49]⟩, ⟨#[49, 48, 48, 48, 49, 48, 48, 48, 48, 48, 48, 48, 48, 48, 49]⟩, ⟨#[49, 48, 48, 48, 48, 49, 48, 48, 48, 48, 48, 48, 48, 48, 49]⟩, ⟨#[51, 48, 48, 48, 49, 48, 48, 48, 48, 48, 48, 48, 48, 48, 49]⟩, ⟨#[51, 48, 48, 48, 48, 49, 48, 48, 48, 48, 48, 48, 48, 48, 49]⟩, ⟨#[51, 48, 48, 48, 48, 48, 57, 57, 57, 57, 48, 48, 48, 48, 48]⟩, ⟨#[50, 48, 48, 48, 48, 48, 48, 48, 48, 48, 48, 48, 48, 48, 49]⟩, ⟨#[50, 48, 48, 49, 48, 48, 49, 48, 48, 49, 48, 48, 48, 48, 49]⟩, ⟨#[50, 48, 49, 48, 48, 49, 48, 48, 49, 48, 48, 48, 48, 48, 49]⟩, ⟨#[50, 50, 54, 48, 50, 54, 48, 50, 54, 48, 48, 48, 48, 48, 49]⟩, ⟨#[50, 50, 55, 48, 50, 54, 48, 50, 54, 48, 48, 48, 48, 48, 49]⟩, ⟨#[50, 50, 54, 48, 50, 55, 48, 50, 54, 48, 48, 48, 48, 48, 49]⟩, ⟨#[50, 50, 54, 48, 50, 54, 48, 50, 55, 48, 48, 48, 48, 48, 49]⟩, ⟨#[50, 48, 49, 57, 48, 49, 57, 48, 49, 57, 48, 48, 48, 48, 48]⟩, ⟨#[50, 48, 49, 57, 48, 49, 57, 48, 49, 57, 57, 57, 57, 57, 57]⟩, ⟨#[52, 48, 48, 48, 48, 49, 50, 51, 52, 48, 48, 48, 48, 48, 49]⟩]
def pointsL : List Int := [-1, 0, 1, 9, 10, 99999, 100000, 999999, 1000000]
def allS : ByteArray := ⟨#[48, 49, 50, 51, 52, 53, 54, 55, 56, 57, 65, 66, 67, 68, 69, 70, 71, 72, 73, 74, 75, 76, 77, 78, 79, 80, 81, 82, 83, 84, 85, 86, 87, 88, 89, 90, 97, 32, 45, 64, 91]⟩
def basesO : Obj := .cells #[.string ⟨#[48, 48, 48, 48, 48]⟩, .string ⟨#[49, 50, 51, 52, 53]⟩, .string ⟨#[65, 48, 65, 48, 65, 48]⟩, .string ⟨#[75, 49, 65, 48, 66, 49]⟩, .string ⟨#[90, 57, 90, 57, 90, 57]⟩, .string ⟨#[48, 48, 48, 48]⟩, .string ⟨#[57, 57, 57, 57]⟩, .string ⟨#[]⟩] 9
def headsO : Obj := .cells #[.string ⟨#[48, 48, 48, 48, 48, 48, 48, 48, 48, 48, 48, 48, 48, 48, 48]⟩, .string ⟨#[49, 49, 49, 49, 49, 49, 49, 49, 49, 49, 49, 49, 49, 49, 49]⟩, .string ⟨#[49, 48, 48, 48, 49, 48, 48, 48, 48, 48, 48, 48, 48, 48, 49]⟩, .string ⟨#[49, 48, 48, 48, 48, 49, 48, 48, 48, 48, 48, 48, 48, 48, 49]⟩, .string ⟨#[51, 48, 48, 48, 49, 48, 48, 48, 48, 48, 48, 48, 48, 48, 49]⟩, .string ⟨#[51, 48, 48, 48, 48, 49, 48, 48, 48, 48, 48, 48, 48, 48, 49]⟩, .string ⟨#[51, 48, 48, 48, 48, 48, 57, 57, 57, 57, 48, 48, 48, 48, 48]⟩, .string ⟨#[50, 48, 48, 48, 48, 48, 48, 48, 48, 48, 48, 48, 48, 48, 49]⟩, .string ⟨#[50, 48, 48, 49, 48, 48, 49, 48, 48, 49, 48, 48, 48, 48, 49]⟩, .string ⟨#[50, 48, 49, 48, 48, 49, 48, 48, 49, 48, 48, 48, 48, 48, 49]⟩, .string ⟨#[50, 50, 54, 48, 50, 54, 48, 50, 54, 48, 48, 48, 48, 48, 49]⟩, .string ⟨#[50, 50, 55, 48, 50, 54, 48, 50, 54, 48, 48, 48, 48, 48, 49]⟩, .string ⟨#[50, 50, 54, 48, 50, 55, 48, 50, 54, 48, 48, 48, 48, 48, 49]⟩, .string ⟨#[50, 50, 54, 48, 50, 54, 48, 50, 55, 48, 48, 48, 48, 48, 49]⟩, .string ⟨#[50, 48, 49, 57, 48, 49, 57, 48, 49, 57, 48, 48, 48, 48, 48]⟩, .string ⟨#[50, 48, 49, 57, 48, 49, 57, 48, 49, 57, 57, 57, 57, 57, 57]⟩, .string ⟨#[52, 48, 48, 48, 48, 49, 50, 51, 52, 48, 48, 48, 48, 48, 49]⟩] 9
def pointsO : Obj := .cells #[.int .i64 (-1), .int .i64 (0), .int .i64 (1), .int .i64 (9), .int .i64 (10), .int .i64 (99999), .int .i64 (100000), .int .i64 (999999), .int .i64 (1000000)] 3
theorem basesO_at (w : World) (k : Nat) (h : k < 8) : (w.alloc basesO).cell? ⟨w.heap.size, k, none⟩ = some (.string (basesL.getD k ⟨#[]⟩)) := by
  unfold basesO
  rw [World.cell?_alloc_new]
  exact (match k, h with
    | 0, _ => rfl
    | 1, _ => rfl
    | 2, _ => rfl
    | 3, _ => rfl
    | 4, _ => rfl
    | 5, _ => rfl
    | 6, _ => rfl
    | 7, _ => rfl
    | k + 8, h => absurd h (by omega))
theorem headsO_at (w : World) (k : Nat) (h : k < 17) : (w.alloc headsO).cell? ⟨w.heap.size, k, none⟩ = some (.string (headsL.getD k ⟨#[]⟩)) := by
  unfold headsO
  rw [World.cell?_alloc_new]
  exact (match k, h with
    | 0, _ => rfl
    | 1, _ => rfl
    | 2, _ => rfl
    | 3, _ => rfl
    | 4, _ => rfl
    | 5, _ => rfl
    | 6, _ => rfl
    | 7, _ => rfl
    | 8, _ => rfl
    | 9, _ => rfl
    | 10, _ => rfl
    | 11, _ => rfl
    | 12, _ => rfl
    | 13, _ => rfl
    | 14, _ => rfl
    | 15, _ => rfl
    | 16, _ => rfl
    | k + 17, h => absurd h (by omega))
theorem pointsO_at (w : World) (k : Nat) (h : k < 9) : (w.alloc pointsO).cell? ⟨w.heap.size, k, none⟩ = some (.int .i64 (pointsL.getD k 0)) := by
  unfold pointsO
  rw [World.cell?_alloc_new]
  exact (match k, h with
    | 0, _ => rfl
    | 1, _ => rfl
    | 2, _ => rfl
    | 3, _ => rfl
    | 4, _ => rfl
    | 5, _ => rfl
    | 6, _ => rfl
    | 7, _ => rfl
    | 8, _ => rfl
    | k + 9, h => absurd h (by omega))
theorem bases_size (k : Nat) (h : k < 8) : (basesL.getD k ⟨#[]⟩).size ≤ 6 := (by decide : ∀ k : Fin 8, (basesL.getD k.1 ⟨#[]⟩).size ≤ 6) ⟨k, h⟩
theorem heads_size (k : Nat) (h : k < 17) : (headsL.getD k ⟨#[]⟩).size ≤ 15 := (by decide : ∀ k : Fin 17, (headsL.getD k.1 ⟨#[]⟩).size ≤ 15) ⟨k, h⟩
theorem heap_alloc (w : World) (o : Obj) : (w.alloc o).heap.size = w.heap.size + 1 := by simp
set_option maxHeartbeats 16000000 in
theorem codeSmall_walk (w : World) (ht : TabW w) (hg : 3 < w.heap.size) :
    Calls Tryz.prog 4 #[] w fun e w' => e = .returned (.bool true) ∧ Below w.heap.size w w' := by
  have HAW : Hid (∀ W, Below w.heap.size w W → Calls Tryz.prog 9 #[] W fun e w' => e = .returned (.bool true) ∧ Below w.heap.size w w') := fun W hB =>
    (awake_any W (ht.below hB hg) (Nat.lt_of_lt_of_le hg hB.size)).mono fun e w' ⟨a, b⟩ => ⟨a, hB.trans (b.mono hB.size)⟩
  have HE : Hid (∀ (c p : Int) (s : ByteArray) W, 0 ≤ c → s.size ≤ 60000 → Below w.heap.size w W → Calls Tryz.prog 10 #[.int .u8 c, .string s, .int .i64 p] W fun e w' => e = .returned (.bool true) ∧ Below W.heap.size W w') := fun c p s W hc hs hB => encodes_any c p s hc hs ht hg W hB
  have HD : Hid (∀ (t : ByteArray) W, t.size ≤ 60000 → Below w.heap.size w W → Calls Tryz.prog 11 #[.string t] W fun e w' => e = .returned (.bool true) ∧ Below W.heap.size W w') := fun t W hs hB => decodes_any t hs ht hg W hB
  clear ht hg
  go_enter Tryz.func4, Tryz.ntmps4
  go_wp2_with fail
  go_loopw [1] (fun c w1 => ∃ n : Nat, n ≤ 5 ∧ c = .int .i64 n ∧ Hid (Below w.heap.size w w1)) (fun c _ => 5 - (intOf c).toNat)
  case atStart => exact ⟨0, by omega, rfl, Below.refl _ _⟩
  case round =>
    obtain ⟨n, hn, rfl, HB1⟩ := hrel
    by_cases hn5 : n < 5
    · have hwc : IntKind.u8.wrap (n : Int) = (n : Int) := IntWalk.u8_in _ (by omega)
      have HN : Hid (0 ≤ (n : Int)) := by show 0 ≤ (n : Int); omega
      have hnn : decide ((n : Int) < 5) = true := decide_eq_true (by omega)
      go_wp2_with fail
      obtain ⟨wa, rfl⟩ : ∃ wa : World, wa = wr := ⟨_, rfl⟩
      have HBA : Hid (Below w.heap.size w (wa.alloc basesO)) := HB1.out.alloc HB1.out.size _
      have hza : (wa.alloc basesO).heap.size = wa.heap.size + 1 := heap_alloc _ _
      have HZA := Lib.hid hza
      clear hza
      go_loopw [18] (fun i w2 => ∃ k : Nat, k ≤ 8 ∧ i = .int .i64 k ∧ Hid (Below (wa.heap.size + 1) (wa.alloc basesO) w2)) (fun i _ => 8 - (intOf i).toNat)
      case atStart => exact ⟨0, by omega, rfl, Below.refl _ _⟩
      case round =>
        obtain ⟨k, hk, rfl, HB2⟩ := hrel
        by_cases hk8 : k < 8
        · have hcell : wr.cell? ⟨wa.heap.size, k, none⟩ = some (.string (basesL.getD k ⟨#[]⟩)) := (HB2.out.cell (p := ⟨wa.heap.size, k, none⟩) (Nat.lt_succ_self _)).trans (basesO_at wa k hk8)
          have hbs := bases_size k hk8
          generalize basesL.getD k ⟨#[]⟩ = b at hcell hbs
          have HBC : Hid (Below w.heap.size w wr) := HBA.out.trans (HB2.out.mono (by have := HB1.out.size; omega))
          have hkk : decide ((k : Int) < 8) = true := decide_eq_true (by omega)
          obtain ⟨wc, rfl⟩ : ∃ wc : World, wc = wr := ⟨_, rfl⟩
          go_wp2_with fail
          go_loopw [4] (fun i w3 => ∃ m : Nat, m ≤ b.size + 1 ∧ i = .int .i64 m ∧ Hid (Below wc.heap.size wc w3)) (fun i _ => b.size + 1 - (intOf i).toNat)
          case atStart => exact ⟨0, by omega, rfl, Below.refl _ _⟩
          case round =>
            obtain ⟨m, hm, rfl, HB3⟩ := hrel
            clear hcell
            by_cases hmb : m ≤ b.size
            · obtain ⟨wd, rfl⟩ : ∃ wd : World, wd = wr := ⟨_, rfl⟩
              have hmi : (m : Int) ≤ (b.size : Int) := by omega
              have hmd : decide ((m : Int) ≤ (b.size : Int)) = true := decide_eq_true hmi
              go_wp2_with fail
              go_loopw [5] (fun i w4 => ∃ q : Nat, q ≤ 41 ∧ i = .int .i64 q ∧ Hid (Below wc.heap.size wc w4)) (fun i _ => 41 - (intOf i).toNat)
              case atStart => exact ⟨0, by omega, rfl, HB3.out⟩
              case round =>
                obtain ⟨q, hq, rfl, HB4⟩ := hrel
                by_cases hq41 : q < 41
                · have HBD : Hid (Below w.heap.size w wr) := HBC.out.trans (HB4.out.mono HBC.out.size)
                  obtain ⟨xa, hxa⟩ : ∃ xa, b.extract 0 m = xa := ⟨_, rfl⟩
                  obtain ⟨q1, hq1⟩ : ∃ q1, q + 1 = q1 := ⟨_, rfl⟩
                  obtain ⟨ka, hka⟩ : ∃ ka, allS.extract q q1 = ka := ⟨_, rfl⟩
                  have hxs : xa.size ≤ 6 := by rw [← hxa, ByteArray.size_extract]; omega
                  have hks : ka.size ≤ 1 := by rw [← hka, ByteArray.size_extract]; omega
                  have hov : ¬ 9223372036854775807 < xa.size + ka.size := by omega
                  have hw1 : IntKind.i64.wrap ((q : Int) + 1) = (q1 : Int) := by rw [IntWalk.i64_in _ (by omega)]; omega
                  have hq2 : (q1 : Int) ≤ 41 := by omega
                  have hq3 : (q : Int) ≤ (q1 : Int) := by omega
                  have hq4 : q1 ≤ 41 := by omega
                  have hq5 : q ≤ q1 := by omega
                  unfold allS at hka
                  have HQ := Lib.hid hq1
                  clear hq1
                  go_wp2_with fail
                  refine wp_region_quiet_lit (by kernel_rfl) (by kernel_rfl) ?_
                  repeat (go_big_quiet_step (fail))
                  refine wpQuiet_nil ?_
                  intro _ hw'
                  obtain ⟨nq, hw''⟩ := hw'
                  subst hw''
                  have HBE : Hid (Below w.heap.size w (wr.drewN nq)) := below_drewN HBD.out nq
                  have HBF : Hid (Below wc.heap.size wc (wr.drewN nq)) := below_drewN HB4.out nq
                  generalize wr.drewN nq = wz at HBE HBF ⊢
                  clear HB4 HBD hxa hka hw1 hov
                  by_cases hlt : m < b.size
                  · obtain ⟨yb, hyb⟩ : ∃ yb, b.extract (m + 1) b.size = yb := ⟨_, rfl⟩
                    have hys : yb.size ≤ 6 := by rw [← hyb, ByteArray.size_extract]; omega
                    have hov2 : ¬ 9223372036854775807 < (xa ++ ka).size + yb.size := by rw [ByteArray.size_append]; omega
                    have HSZ : Hid ((xa ++ ka ++ yb).size ≤ 60000) := by show (xa ++ ka ++ yb).size ≤ 60000; rw [ByteArray.size_append, ByteArray.size_append]; omega
                    clear hxs hks hys
                    go_wp2_with fail
                    refine (HE.out _ _ _ _ HN.out HSZ.out HBE.out).mono ?_
                    rintro e w5 ⟨rfl, hb5⟩
                    have HB5 := Lib.hid (HBF.out.trans (hb5.mono HBF.out.size))
                    clear hb5
                    go_wp2_with fail
                    go_roundw
                    case rel => exact ⟨q1, by omega, by rw [← HQ.out]; go_num, HB5.out⟩
                    case measure => have := HQ.out; simp [intOf]; omega
                  · have HSZ : Hid ((xa ++ ka).size ≤ 60000) := by show (xa ++ ka).size ≤ 60000; rw [ByteArray.size_append]; omega
                    clear hxs hks
                    go_wp2_with fail
                    refine (HE.out _ _ _ _ HN.out HSZ.out HBE.out).mono ?_
                    rintro e w5 ⟨rfl, hb5⟩
                    have HB5 := Lib.hid (HBF.out.trans (hb5.mono HBF.out.size))
                    clear hb5
                    go_wp2_with fail
                    go_roundw
                    case rel => exact ⟨q1, by omega, by rw [← HQ.out]; go_num, HB5.out⟩
                    case measure => have := HQ.out; simp [intOf]; omega
                · obtain rfl : q = 41 := by omega
                  go_wp2_with fail
                  go_roundw
                  case rel => exact ⟨m + 1, by omega, by go_num, HB4.out⟩
                  case measure => simp [intOf]; omega
            · obtain rfl : m = b.size + 1 := by omega
              have hmi : ¬ (((b.size + 1 : Nat) : Int) ≤ (b.size : Int)) := by omega
              have hmd : decide (((b.size + 1 : Nat) : Int) ≤ (b.size : Int)) = false := decide_eq_false hmi
              have hsz6 : b.size ≤ 60000 := by omega
              have HSZ := Lib.hid hsz6
              obtain ⟨we, rfl⟩ : ∃ we : World, we = wr := ⟨_, rfl⟩
              have HBW : Hid (Below w.heap.size w we) := HBC.out.trans (HB3.out.mono HBC.out.size)
              have HBK : Hid (Below (wa.heap.size + 1) (wa.alloc basesO) we) := HB2.out.trans (HB3.out.mono (by have := HB2.out.size; have := HZA.out; omega))
              have HBP : Hid (Below (wa.heap.size + 1) (wa.alloc basesO) (we.alloc pointsO)) := HBK.out.alloc (by have := HBK.out.size; have := HZA.out; omega) _
              have HBQ : Hid (Below w.heap.size w (we.alloc pointsO)) := HBW.out.alloc HBW.out.size _
              have HZE := Lib.hid (heap_alloc we pointsO)
              generalize hM : (((b.size + 1 : Nat) : Int)) = M at hmd ⊢
              clear hmi hsz6 hbs hm hmb hM
              go_wp2_with fail
              go_loopw [57] (fun i w5 => ∃ q : Nat, q ≤ 9 ∧ i = .int .i64 q ∧ Hid (Below (we.heap.size + 1) (we.alloc pointsO) w5)) (fun i _ => 9 - (intOf i).toNat)
              case atStart => exact ⟨0, by omega, rfl, Below.refl _ _⟩
              case round =>
                obtain ⟨q, hq, rfl, HB5⟩ := hrel
                clear hmd
                by_cases hq9 : q < 9
                · have hcell : wr.cell? ⟨we.heap.size, q, none⟩ = some (.int .i64 (pointsL.getD q 0)) := (HB5.out.cell (p := ⟨we.heap.size, q, none⟩) (Nat.lt_succ_self _)).trans (pointsO_at we q hq9)
                  generalize pointsL.getD q 0 = p at hcell
                  have HBR : Hid (Below w.heap.size w wr) := HBQ.out.trans (HB5.out.mono (by have := HBW.out.size; omega))
                  have hqq : decide ((q : Int) < 9) = true := decide_eq_true (by omega)
                  go_wp2_with fail
                  refine (HE.out _ _ _ _ HN.out HSZ.out HBR.out).mono ?_
                  rintro e w6 ⟨rfl, hb6⟩
                  have HB6 : Hid (Below (we.heap.size + 1) (we.alloc pointsO) w6) := HB5.out.trans (hb6.mono (by have := HB5.out.size; have := HZE.out; omega))
                  clear hb6 hcell
                  go_wp2_with fail
                  go_roundw
                  case rel => exact ⟨q + 1, by omega, by go_num, HB6.out⟩
                  case measure => simp [intOf]; omega
                · obtain rfl : q = 9 := by omega
                  have HBT : Hid (Below (wa.heap.size + 1) (wa.alloc basesO) wr) := HBP.out.trans (HB5.out.mono (by have := HBK.out.size; have := HZA.out; omega))
                  go_wp2_with fail
                  go_roundw
                  case rel => exact ⟨k + 1, by omega, by go_num, HBT.out⟩
                  case measure => simp [intOf]; omega
        · obtain rfl : k = 8 := by omega
          have HBV : Hid (Below w.heap.size w wr) := HBA.out.trans (HB2.out.mono (by have := HB1.out.size; omega))
          go_wp2_with fail
          go_roundw
          case rel => exact ⟨n + 1, by omega, by go_num, HBV.out⟩
          case measure => simp [intOf]; omega
    · have hnn : decide ((n : Int) < 5) = false := decide_eq_false (by omega)
      clear hn5 hn
      obtain ⟨wa, rfl⟩ : ∃ wa : World, wa = wr := ⟨_, rfl⟩
      have HBA : Hid (Below w.heap.size w (wa.alloc headsO)) := HB1.out.alloc HB1.out.size _
      have HZA := Lib.hid (heap_alloc wa headsO)
      go_wp2_with fail
      go_loopw [71] (fun i w2 => ∃ k : Nat, k ≤ 17 ∧ i = .int .i64 k ∧ Hid (Below (wa.heap.size + 1) (wa.alloc headsO) w2)) (fun i _ => 17 - (intOf i).toNat)
      case atStart => exact ⟨0, by omega, rfl, Below.refl _ _⟩
      case round =>
        obtain ⟨k, hk, rfl, HB2⟩ := hrel
        by_cases hk17 : k < 17
        · have hcell : wr.cell? ⟨wa.heap.size, k, none⟩ = some (.string (headsL.getD k ⟨#[]⟩)) := (HB2.out.cell (p := ⟨wa.heap.size, k, none⟩) (Nat.lt_succ_self _)).trans (headsO_at wa k hk17)
          have hbs := heads_size k hk17
          generalize headsL.getD k ⟨#[]⟩ = b at hcell hbs
          have hkk : decide ((k : Int) < 17) = true := decide_eq_true (by omega)
          go_wp2_with fail
          go_loopw [11] (fun i w3 => ∃ d : Nat, d ≤ 100 ∧ i = .int .i64 d ∧ Hid (Below (wa.heap.size + 1) (wa.alloc headsO) w3)) (fun i _ => 100 - (intOf i).toNat)
          case atStart => exact ⟨0, by omega, rfl, HB2.out⟩
          case round =>
            obtain ⟨d, hd, rfl, HB3⟩ := hrel
            clear hcell
            by_cases hd100 : d < 100
            · have HBV : Hid (Below w.heap.size w wr) := HBA.out.trans (HB3.out.mono (by have := HB1.out.size; omega))
              obtain ⟨x, hx⟩ : ∃ x, d / 10 = x := ⟨_, rfl⟩
              obtain ⟨y, hy⟩ : ∃ y, d % 10 = y := ⟨_, rfl⟩
              have e1 : (d : Int).tdiv 10 = (x : Int) := by rw [Int.tdiv_eq_ediv_of_nonneg (by omega)]; omega
              have e2 : (d : Int).tmod 10 = (y : Int) := by rw [Int.tmod_eq_emod_of_nonneg (by omega)]; omega
              have e3 : (d : Int) / 10 = (x : Int) := by omega
              have e4 : (d : Int) % 10 = (y : Int) := by omega
              have hx9 : (x : Int) ≤ 9 := by omega
              have hy9 : (y : Int) ≤ 9 := by omega
              have hx0 : (0 : Int) ≤ (x : Int) := by omega
              have hy0 : (0 : Int) ≤ (y : Int) := by omega
              have hcv := conv_two wr (UInt8.ofNat (48 + x)) (UInt8.ofNat (48 + y)) (48 + (x : Int)) (48 + (y : Int)) (by rw [UInt8.toNat_ofNat']; omega) (by rw [UInt8.toNat_ofNat']; omega)
              have hcs : (⟨#[UInt8.ofNat (48 + x), UInt8.ofNat (48 + y)]⟩ : ByteArray).size = 2 := rfl
              generalize (⟨#[UInt8.ofNat (48 + x), UInt8.ofNat (48 + y)]⟩ : ByteArray) = cb at hcv hcs
              have hov : ¬ 9223372036854775807 < b.size + cb.size := by omega
              have HSZ : Hid ((b ++ cb).size ≤ 60000) := by show (b ++ cb).size ≤ 60000; rw [ByteArray.size_append]; omega
              have HBX := Lib.hid (HBV.out.alloc HBV.out.size (.cells #[.int .u8 (48 + (x : Int)), .int .u8 (48 + (y : Int))] 5))
              have HBY := Lib.hid (HB3.out.alloc (by have := HB3.out.size; have := HZA.out; omega) (.cells #[.int .u8 (48 + (x : Int)), .int .u8 (48 + (y : Int))] 5))
              clear hcs hx hy
              go_wp2_with fail
              refine (HD.out _ _ HSZ.out HBX.out).mono ?_
              rintro e w6 ⟨rfl, hb6⟩
              have HB6 : Hid (Below (wa.heap.size + 1) (wa.alloc headsO) w6) := HBY.out.trans (hb6.mono (by have := HBY.out.size; have := HZA.out; omega))
              clear hb6 hcv e1 e2 e3 e4
              go_wp2_with fail
              go_roundw
              case rel => exact ⟨d + 1, by omega, by go_num, HB6.out⟩
              case measure => simp [intOf]; omega
            · obtain rfl : d = 100 := by omega
              go_wp2_with fail
              go_roundw
              case rel => exact ⟨k + 1, by omega, by go_num, HB3.out⟩
              case measure => simp [intOf]; omega
        · obtain rfl : k = 17 := by omega
          have HBV : Hid (Below w.heap.size w wr) := HBA.out.trans (HB2.out.mono (by have := HB1.out.size; omega))
          go_wp2_with fail
          refine (HAW.out _ HBV.out).mono ?_
          rintro e w6 ⟨rfl, hb6⟩
          go_wp2_with fail
          go_ret
          exact ⟨rfl, hb6⟩
end Go.Proofs.YtgdlgfplheeblaaGreatDoor
