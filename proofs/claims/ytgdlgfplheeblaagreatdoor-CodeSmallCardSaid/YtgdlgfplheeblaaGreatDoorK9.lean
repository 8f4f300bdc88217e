/-
  Numbers with zeros before them: padded of package code.
-/
import Derived.Test.YtgdlgfplheeblaaGreatDoorK8
import Derived.Test.YtgdlgfplheeblaaGreatDoorShelf
import Derived.Lib.QuietBelow
import Derived.Lib.AppendIntMem
import Derived.WalkSmall
namespace Go.Proofs.YtgdlgfplheeblaaGreatDoor
open Go.RowKit
set_option linter.unusedVariables false
set_option maxRecDepth 100000
/-- The table of powers stands as it was laid. -/
def TabW (w : World) : Prop := Lib.TabIs Tryz.prog w "internal/strconv.uint64pow10" .u64 Lib.pow10Tab
theorem TabW.below {B : Nat} {W W' : World} (h : TabW W) (hb : Below B W W') (hB : 3 < B) : TabW W' :=
  var?_below hb (show Tryz.prog.globalNamed "internal/strconv.uint64pow10" = some 3 by kernel_rfl) hB h
def padL (n width : Nat) : List UInt8 := List.replicate (width - Lib.nDigits n) 48 ++ Lib.decDigits n
theorem nDigits_le : ∀ (k n : Nat), 1 ≤ k → n < 10 ^ k → Lib.nDigits n ≤ k
  | 0, _, h, _ => by omega
  | 1, n, _, h => by rw [Lib.nDigits_small (by simpa using h)]; exact Nat.le_refl _
  | k + 2, n, _, h => by
    by_cases hn : n < 10
    · rw [Lib.nDigits_small hn]; omega
    · rw [Lib.nDigits_big hn]
      have := nDigits_le (k + 1) (n / 10) (by omega) (by rw [Nat.pow_succ] at h; omega)
      omega
theorem padL_len {n width : Nat} (h1 : 1 ≤ width) (h : n < 10 ^ width) : (padL n width).length = width := by
  unfold padL
  rw [List.length_append, List.length_replicate, Lib.decDigits_length]
  have := nDigits_le width n h1 h
  omega
theorem dec_digit : ∀ (n : Nat), ∀ c ∈ Lib.decDigits n, 48 ≤ c.toNat ∧ c.toNat ≤ 57 := by
  intro n
  induction n using Nat.strongRecOn with
  | _ n ih =>
    intro c hc
    rw [Lib.decDigits] at hc
    split at hc
    · rw [List.mem_singleton] at hc
      subst hc
      rw [UInt8.toNat_ofNat']
      omega
    · rcases List.mem_append.1 hc with hc | hc
      · exact ih (n / 10) (by omega) c hc
      · rw [List.mem_singleton] at hc
        subst hc
        rw [UInt8.toNat_ofNat']
        omega
theorem padL_digit (n width : Nat) : ∀ c ∈ padL n width, 48 ≤ c.toNat ∧ c.toNat ≤ 57 := by
  intro c hc
  unfold padL at hc
  rcases List.mem_append.1 hc with hc | hc
  · rw [(List.mem_replicate.1 hc).2]; decide
  · exact dec_digit n c hc
theorem decFrom_append : ∀ (a b : List UInt8) (acc : Nat), Lib.decFrom acc (a ++ b) = (Lib.decFrom acc a).bind (fun n => Lib.decFrom n b)
  | [], b, acc => rfl
  | x :: r, b, acc => by
    rw [List.cons_append, Lib.decFrom, Lib.decFrom]
    cases Lib.digitVal x with
    | none => rfl
    | some d => exact decFrom_append r b _
theorem decFrom_digits (n : Nat) : Lib.decFrom 0 (Lib.decDigits n) = some n := by
  induction n using Nat.strongRecOn with
  | _ n ih =>
    rw [Lib.decDigits]
    split
    · rename_i h
      have : Lib.digitVal (UInt8.ofNat (48 + n)) = some n := by
        unfold Lib.digitVal
        rw [UInt8.toNat_ofNat', if_pos (by omega)]
        congr 1
        omega
      rw [Lib.decFrom, this]
      simp [Lib.decFrom]
    · rename_i h
      rw [decFrom_append, ih (n / 10) (by omega)]
      have : Lib.digitVal (UInt8.ofNat (48 + n % 10)) = some (n % 10) := by
        unfold Lib.digitVal
        rw [UInt8.toNat_ofNat', if_pos (by omega)]
        congr 1
        omega
      rw [Option.bind_some, Lib.decFrom, this]
      simp only [Lib.decFrom]
      congr 1
      omega
theorem decFrom_zeros (k : Nat) : Lib.decFrom 0 (List.replicate k 48) = some 0 := by
  induction k with
  | zero => rfl
  | succ k ih =>
    rw [List.replicate_succ, Lib.decFrom]
    have : Lib.digitVal 48 = some 0 := by decide
    rw [this]
    exact ih
theorem padL_val (n width : Nat) : Lib.decFrom 0 (padL n width) = some n := by
  unfold padL
  rw [decFrom_append, decFrom_zeros]
  exact decFrom_digits n
theorem repeat_zero (c : Nat) : Lib.repeatL [48] c = List.replicate c 48 := by
  induction c with
  | zero => rfl
  | succ c ih => rw [Lib.repeatL, ih, List.replicate_succ]; rfl
def padB (n width : Nat) : ByteArray := ⟨(padL n width).toArray⟩
theorem padB_size {n width : Nat} (h1 : 1 ≤ width) (h : n < 10 ^ width) : (padB n width).size = width := by
  have : (padB n width).size = (padL n width).length := by unfold padB; rfl
  rw [this]; exact padL_len h1 h
theorem padB_dig (n width : Nat) : digB (padB n width) = true := digB_iff.2 (fun c hc => padL_digit n width c hc)
theorem itoa_any (n : Nat) (w : World) (hn : n ≤ 999999) (ht : TabW w) : Calls Tryz.prog 24 #[.int .i64 (n : Nat)] w fun e w' => e = .returned (.string ⟨(Lib.decDigits n).toArray⟩) ∧ Below w.heap.size w w' := by
  refine (Tryz.strconv_Itoa n (by omega) (by omega) w ht).mono ?_
  rintro e w' ⟨rfl, k, os, rfl⟩
  refine ⟨?_, Lib.below_grow _ w (Nat.le_refl _) k os⟩
  have : Lib.itoa (n : Int) = Lib.decDigits n := by unfold Lib.itoa; rw [if_neg (by omega)]; rfl
  rw [this]
theorem repeat_any (c : Nat) (w : World) (hc : c ≤ 100) : Calls Tryz.prog 23 #[.string ⟨#[48]⟩, .int .i64 (c : Nat)] w fun e w' => e = .returned (.string ⟨(List.replicate c 48).toArray⟩) ∧ Below w.heap.size w w' := by
  refine (Tryz.strings_Repeat ⟨#[48]⟩ c w (by omega) (by show 1 * c ≤ _; omega)).mono ?_
  rintro e w' ⟨rfl, hb⟩
  refine ⟨?_, hb⟩
  have : Lib.repeatL (⟨#[48]⟩ : ByteArray).data.toList c = List.replicate c 48 := repeat_zero c
  rw [this]
theorem padded_any (n width : Nat) (w : World) (h1 : 1 ≤ width) (h2 : width ≤ 6) (hn : n < 10 ^ width) (hn2 : n ≤ 999999) (ht : TabW w) (hg : 3 < w.heap.size) :
    Calls Tryz.prog 22 #[.int .i64 (n : Nat), .int .i64 (width : Nat)] w fun e w' => e = .returned (.string (padB n width)) ∧ Below w.heap.size w w' := by
  have hd := nDigits_le width n h1 hn
  have HI := Lib.hid (fun W (h : TabW W) => itoa_any n W hn2 h)
  have HR := Lib.hid (fun W => repeat_any (width - Lib.nDigits n) W (by omega))
  have hsz : (⟨(Lib.decDigits n).toArray⟩ : ByteArray).size = Lib.nDigits n := by rw [← Lib.decDigits_length]; rfl
  have hsz2 : (⟨(List.replicate (width - Lib.nDigits n) 48).toArray⟩ : ByteArray).size = width - Lib.nDigits n := by show (List.replicate (width - Lib.nDigits n) (48 : UInt8)).toArray.size = _; simp
  have hpe : padB n width = ⟨(List.replicate (width - Lib.nDigits n) 48).toArray⟩ ++ ⟨(Lib.decDigits n).toArray⟩ := by
    unfold padB padL
    apply ByteArray.ext
    rw [ByteArray.data_append]
    simp
  rw [hpe]
  clear hpe hn hn2
  generalize (⟨(Lib.decDigits n).toArray⟩ : ByteArray) = db at HI hsz
  generalize (⟨(List.replicate (width - Lib.nDigits n) 48).toArray⟩ : ByteArray) = zb at HR hsz2
  generalize Lib.nDigits n = dn at hd HR hsz hsz2
  have hov : ¬ 9223372036854775807 < zb.size + db.size := by omega
  obtain ⟨m, hm⟩ : ∃ m, width - dn = m := ⟨_, rfl⟩
  have hmi : (width : Int) - (db.size : Int) = (m : Int) := by omega
  have hmx : max (0 : Int) (m : Int) = (m : Int) := by omega
  rw [hm] at HR
  have hwi : (width : Int) ≤ 6 := by omega
  have hdi : (db.size : Int) ≤ 6 := by omega
  clear hm hsz hsz2 hd h1 h2
  go_enter Tryz.func22, Tryz.ntmps22
  go_wp2_with fail
  refine (HI.out _ ht).mono ?_
  rintro e w1 ⟨rfl, hb1⟩
  have HB1 := Lib.hid hb1
  clear hb1
  go_wp2_with fail
  refine (HR.out _).mono ?_
  rintro e w2 ⟨rfl, hb2⟩
  have HB2 := Lib.hid (HB1.out.trans (hb2.mono HB1.out.size))
  clear hb2 HB1
  go_wp2_with fail
  go_ret
  exact ⟨rfl, HB2.out⟩
end Go.Proofs.YtgdlgfplheeblaaGreatDoor
