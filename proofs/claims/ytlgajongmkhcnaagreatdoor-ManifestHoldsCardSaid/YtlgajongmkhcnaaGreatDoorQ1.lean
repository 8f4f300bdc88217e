import Derived.Test.YtlgajongmkhcnaaGreatDoorQZ
import Derived.Test.YtlgajongmkhcnaaGreatDoorProg
import Derived.WalkKit
import Derived.WalkSpells
import Derived.WalkLawsBesides
import Derived.Outline
import Derived.Below
import Derived.OneCell
import Derived.OwnWalk
import Derived.Deep.QuietTactic
import Derived.BigQuiet
import Derived.Lib.Hide
import Derived.RegionTactic
import Derived.ChangeAlike
import Derived.Deep.RegionWith
import Derived.Deep.DeepCutAuto
import Derived.Deep.RegionHeld3
import Derived.Maps.OwnOps
import Derived.Maps.OwnSet
import Derived.Maps.StringElems
import Derived.WideShapes
import Derived.Carry
import Derived.StringKeys
import Derived.Lib.Strings
import Derived.DeepKeys4
import Derived.WideKeyPair
set_option linter.unusedVariables false
set_option maxHeartbeats 32000000
namespace Go.Proofs.YtlgajongmkhcnaaGreatDoor
open Go.RowKit
theorem Z0d {a b : Bool} (h : a = b) : Ending.returned (.bool a) = .returned (.bool b) := by rw [h]
theorem Z6b {k : IntKind} {a b : Int} (h : a = b) : Ending.returned (.int k a) = .returned (.int k b) := by rw [h]
theorem ZdX {a b : ByteArray} (h : a = b) : Ending.returned (.string a) = .returned (.string b) := by rw [h]
theorem Z0a {A B : World} (h : Below A.1.size A B) : A.grownBy B none := ⟨h.os, h.tape, h.output, h.size, fun k hk _ => h.block k hk⟩
theorem Z01 (w : World) (o : Obj) : (w.alloc o).1[w.1.size]? = some o := by
 show (w.1.push o)[w.1.size]? = some o
 simp
theorem Z73 {a b : ByteArray} (h : a.data.toList = b.data.toList) : a = b := WideShapes.bytes_inj h
theorem ba_eq (a b : ByteArray) : (a.toList == b.toList) = decide (a = b) := by
 rw [ByteArray.toList_eq, ByteArray.toList_eq, Bool.eq_iff_iff]
 simp only [beq_iff_eq, decide_eq_true_eq]
 exact ⟨fun h => Z73 h, fun h => by rw [h]⟩
theorem Z5e {W : World} {b o : Nat} {v : Value} (h : W.cell? ⟨b, o, none⟩ = some v) : b < W.1.size := by
 rcases Nat.lt_or_ge b W.1.size with h' | h'
 ·exact h'
 ·have : W.1[b]? = none := Array.getElem?_eq_none h'
  simp [World.cell?, this] at h
theorem Z2v {W w1 : World} (hb : Below W.1.size W w1) : (∀ b o, b < W.1.size -> w1.cell? ⟨b, o, none⟩ = W.cell? ⟨b, o, none⟩) /\ (∀ b o, b < W.1.size -> w1.frozen? ⟨b, o, none⟩ = W.frozen? ⟨b, o, none⟩) :=
 ⟨fun b o h => hb.cell (p := ⟨b, o, none⟩) h, fun b o h => hb.frozen (p := ⟨b, o, none⟩) h⟩
theorem Z85 (W : World) (t : ByteArray) : ∃ (cap : Nat) (C : Array Value), t.size <= cap /\
 Sem.run Tryz.prog (convert 9 23 (.string t)) W = .ok (.slice (some ⟨W.1.size, 0, none⟩) t.size cap) (W.drew.alloc (.cells C 5 (C.size, C.size + 1))) /\
 ∀ j (h : j < t.size), (W.alloc (.cells C 5 (C.size, C.size + 1))).cell? ⟨W.1.size, j, none⟩ = some (.int .u8 (t[j].toNat : Int)) := by
 have hcap := grownCap_ge W t.size 0 5
 have hconv := run_bytes_of_string (P := Tryz.prog) W 9 23 5 t Tryz.underlying9 Tryz.underlying23 Tryz.underlying5
 generalize grownCap W t.size 0 5 = cap at hcap hconv
 have hC : ∀ j (h : j < t.size), (bytesRow t cap)[j]? = some (.int .u8 (t[j].toNat : Int)) := fun j h => by
  unfold bytesRow
  rw [Array.getElem?_append_left (by simpa using h), Array.getElem?_map, Array.getElem?_eq_getElem h]
  rfl
 generalize bytesRow t cap = C at hconv hC
 have hblk : (W.alloc (.cells C 5 (C.size, C.size + 1))).1[W.1.size]? = some (.cells C 5 (C.size, C.size + 1)) := Z01 W _
 exact ⟨cap, C, hcap, hconv, fun j h => by simp only [World.cell?, hblk]; exact hC j h⟩
def ZfD (p : Int -> Bool) (s : ByteArray) : Bool := s.data.toList.all (fun c => p c.toNat)
theorem Zac {p : Int -> Bool} {s : ByteArray} (h : ∀ j, j < s.size -> ∀ h : j < s.size, p s[j].toNat = true) : ZfD p s = true := by
 unfold ZfD
 rw [List.all_eq_true]
 intro c hc
 obtain ⟨j, hj, rfl⟩ := List.mem_iff_getElem.1 hc
 have hj' : j < s.size := by simpa using hj
 exact h j hj' hj'
theorem Z8d {p : Int -> Bool} {s : ByteArray} {k : Nat} (hk : k < s.size) (h : p s[k].toNat = false) : ZfD p s = false := by
 unfold ZfD
 rw [List.all_eq_false]
 exact ⟨s[k], Array.mem_toList_iff.2 (Array.getElem_mem (xs := s.data) hk), by rw [h]; simp⟩
def Z4k (n : Int) : Bool := decide (65 <= n /\ n <= 90) || decide (48 <= n /\ n <= 57)
def Z1s (s : ByteArray) : Bool := ZfD Z4k s
def Z5E (n : Int) : Bool := decide (33 <= n /\ n <= 126)
def Z0C (s : ByteArray) : Bool := decide (1 <= s.size) && decide (s.size <= 10) && Z1s s
def Z2D (s : ByteArray) : Bool := decide (1 <= s.size) && decide (s.size <= 20) && ZfD Z5E s
structure Lab where
 pre : ByteArray
 grp : ByteArray
structure Lev where
 name : ByteArray
 pre : Int
 labs : List Lab
 min : Int
 cents : Int
def ltB (a b : ByteArray) : Bool := decide (a.data.toList < b.data.toList)
theorem Z5x : ∀ (x y : List UInt8), Op.bytesLess x y = decide (x < y)
 | [], [] => by simp [Op.bytesLess]
 | _ :: _, [] => by simp [Op.bytesLess]
 | [], _ :: _ => by simp [Op.bytesLess]
 | a :: x, b :: y => by
  rw [Op.bytesLess, Z5x x y]
  simp only [List.cons_lt_cons_iff]
  by_cases h1 : a < b <;> by_cases h2 : a = b <;> by_cases h3 : x < y <;> simp [h1, h2, h3]
theorem ZeJ (a b : ByteArray) : Op.bytesLess a.toList b.toList = ltB a b := by
 rw [ByteArray.toList_eq, ByteArray.toList_eq, Z5x]; rfl
theorem Z1u (a : ByteArray) : ltB a a = false := by unfold ltB; simp [List.lt_irrefl]
theorem Z2F {a b c : ByteArray} (h : ltB a b = true) (h' : ltB b c = true) : ltB a c = true := by
 unfold ltB at *
 simp only [decide_eq_true_eq] at *
 exact List.lt_trans h h'
theorem Z3l {a b : ByteArray} (h : ltB a b = true) : ltB b a = false := by
 cases h' : ltB b a
 ·rfl
 ·have := Z2F h h'; rw [Z1u] at this; cases this
theorem Z6w (a b : ByteArray) : ltB a b = true \/ a = b \/ ltB b a = true := by
 unfold ltB
 simp only [decide_eq_true_eq]
 rcases Classical.em (a.data.toList < b.data.toList) with h | h
 ·exact .inl h
 ·rcases Classical.em (b.data.toList < a.data.toList) with h' | h'
  ·exact .inr (.inr h')
  ·exact .inr (.inl (Z73 (List.le_antisymm (List.not_lt.1 h') (List.not_lt.1 h))))
theorem ZiV (a b : ByteArray) : (Op.bytesLess a.toList b.toList || a.toList == b.toList) = !ltB b a := by
 rw [ZeJ, ba_eq]
 rcases Z6w a b with h | h | h
 ·rw [h, Z3l h]; rfl
 ·subst h; rw [Z1u]; simp
 ·rw [h, Z3l h]
  simp
  rintro rfl
  rw [Z1u] at h; cases h
theorem Z3k {a b : ByteArray} (h : ltB a b = true) : a ≠ b := by rintro rfl; rw [Z1u] at h; cases h
end Go.Proofs.YtlgajongmkhcnaaGreatDoor
namespace Go.Proofs.YtlgajongmkhcnaaGreatDoor
open Go.RowKit
set_option linter.unusedVariables false
set_option maxRecDepth 100000
theorem Zaz {n : Int} (h : 65 <= n /\ n <= 90 \/ 48 <= n /\ n <= 57) : Z4k n = true := by unfold Z4k; simp; omega
theorem Z9o {n : Int} (h : ¬ (65 <= n /\ n <= 90 \/ 48 <= n /\ n <= 57)) : Z4k n = false := by unfold Z4k; simp; omega
theorem Z1G (s : ByteArray) (w : World) (hs : s.size <= maxLen) :
 Calls Tryz.prog 110 #[.string s] w fun e w' => e = .returned (.bool (Z1s s)) /\ Below w.1.size w w' := by
 unfold maxLen at hs
 obtain ⟨cap, C, hcap, hconv, hcell⟩ := Z85 w s
 have HC := Z0 hcell
 clear hcell
 go_enter Tryz.func110, Tryz.ntmps110
 go_wp2_with fail
 go_loop [8] (fun i => ∃ k : Nat, k <= s.size /\ i = .int .i64 k /\ Hid (∀ j, j < k -> ∀ h : j < s.size, Z4k s[j].toNat = true)) (fun i => s.size - (intOf i).toNat)
 case atStart => exact ⟨0, ZE _, rfl, fun j h => by omega⟩
 case round =>
  obtain ⟨k, hk, rfl, ha⟩ := hrel
  by_cases hlt : k < s.size
  ·have c := HC.out k hlt
   have hn : Hid (Z4k s[k].toNat = true -> ∀ j, j < k + 1 -> ∀ h : j < s.size, Z4k s[j].toNat = true) := fun h1 j hj h => by
    by_cases e : j = k
    ·subst e; exact h1
    ·exact ha j (by omega) h
   have hf : Hid (Z4k s[k].toNat = false -> Z1s s = false) := fun h1 => Z8d hlt h1
   generalize (s[k].toNat : Int) = n at c hn hf
   go_wp2_with fail
   all_goals first
    | (go_ret; exact ⟨Z0d (hf.out (Z9o (by omega))).symm, ((Z9 _ w).drew).alloc (Z1 _) _⟩)
    | (go_round
       case rel => exact ⟨k + 1, by omega, by go_num, hn.out (Zaz (by omega))⟩
       case measure => simp [intOf]; omega)
  ·go_wp2_with fail
   go_ret
   exact ⟨Z0d (Zac fun j hj h => ha j (by omega) h).symm, ((Z9 _ w).drew).alloc (Z1 _) _⟩
theorem Z5W (s : ByteArray) (w : World) (hs : s.size <= maxLen) :
 Calls Tryz.prog 74 #[.string s] w fun e w' => e = .returned (.bool (Z0C s)) /\ Below w.1.size w w' := by
 have hm := hs
 unfold maxLen at hs
 by_cases h : 1 <= s.size /\ s.size <= 10
 ·obtain ⟨h1, h2⟩ := h
  have hf : Z0C s = Z1s s := by unfold Z0C; simp [h1, h2]
  have HF := Z0 hf
  clear hf
  go_enter Tryz.func74, Tryz.ntmps74
  go_wp2_with (go_at_call 110; refine (Z1G _ _ hm).mono ?_; rintro e w' ⟨rfl, hb⟩)
  go_ret
  exact ⟨Z0d HF.out.symm, hb⟩
 ·have hf : Z0C s = false := by unfold Z0C; simp; intro a b; exact absurd ⟨a, b⟩ h
  have HF := Z0 hf
  clear hf
  have h' : s.size < 1 \/ 10 < s.size := by omega
  clear h
  rcases h' with h | h
  all_goals
   go_enter Tryz.func74, Tryz.ntmps74
   go_wp2_with fail
   go_ret
   exact ⟨Z0d HF.out.symm, Z9 _ _⟩
theorem ZaW (n : Int) (w : World) :
 Calls Tryz.prog 139 #[.int .u8 n] w fun e w' => e = .returned (.bool (!Z5E n)) /\ w = w' := by
 go_enter Tryz.func139, Tryz.ntmps139
 go_wp2
 all_goals (go_ret; refine ⟨Z0d ?_, rfl⟩; unfold Z5E; rw [Bool.eq_iff_iff]; simp; try omega)
theorem Z7m (s : ByteArray) (B cap : Nat) (w : World) (hs : s.size <= maxLen) (hc : ∀ j (h : j < s.size), w.cell? ⟨B, j, none⟩ = some (.int .u8 (s[j].toNat : Int))) :
 Calls Tryz.prog 168 #[.slice (some ⟨B, 0, none⟩) s.size cap, .func (.func 139) #[] #[]] w fun e w' => ∃ i : Int, e = .returned (.int .i64 i) /\ decide (0 <= i) = !ZfD Z5E s /\ w = w' := by
 unfold maxLen at hs
 have HC := Z0 hc
 clear hc
 go_enter Tryz.func168, Tryz.ntmps168
 go_wp2_with fail
 go_loop [8] (fun i => ∃ k : Nat, k <= s.size /\ i = .int .i64 k /\ Hid (∀ j, j < k -> ∀ h : j < s.size, Z5E s[j].toNat = true)) (fun i => s.size - (intOf i).toNat)
 case atStart => exact ⟨0, ZE _, rfl, fun j h => by omega⟩
 case round =>
  obtain ⟨k, hk, rfl, ha⟩ := hrel
  by_cases hlt : k < s.size
  ·have c := HC.out k hlt
   have hn : Hid (Z5E s[k].toNat = true -> ∀ j, j < k + 1 -> ∀ h : j < s.size, Z5E s[j].toNat = true) := fun h1 j hj h => by
    by_cases e : j = k
    ·subst e; exact h1
    ·exact ha j (by omega) h
   have hf : Hid (Z5E s[k].toNat = false -> ZfD Z5E s = false) := fun h1 => Z8d hlt h1
   generalize (s[k].toNat : Int) = n at c hn hf
   cases hd : Z5E n
   all_goals go_wp2_with (go_at_call 139; refine (ZaW _ _).mono ?_; rintro e w' ⟨rfl, rfl⟩)
   ·go_ret
    exact ⟨_, rfl, by rw [hf.out hd]; simp, rfl⟩
   ·go_round
    case rel => exact ⟨k + 1, by omega, by go_num, hn.out hd⟩
    case measure => simp [intOf]; omega
  ·go_wp2_with fail
   go_ret
   exact ⟨_, rfl, by rw [Zac fun j hj h => ha j (by omega) h]; rfl, rfl⟩
theorem Z5d (s : ByteArray) (B cap : Nat) (w : World) (hs : s.size <= maxLen) (hc : ∀ j (h : j < s.size), w.cell? ⟨B, j, none⟩ = some (.int .u8 (s[j].toNat : Int))) :
 Calls Tryz.prog 138 #[.slice (some ⟨B, 0, none⟩) s.size cap, .func (.func 139) #[] #[]] w fun e w' => e = .returned (.bool (!ZfD Z5E s)) /\ w = w' := by
 have HC := Z0 hc
 clear hc
 go_enter Tryz.func138, Tryz.ntmps138
 go_wp2_with (go_at_call 168; refine (Z7m _ _ _ _ hs HC.out).mono ?_; rintro e w' ⟨i, rfl, hi, rfl⟩; have HI := Z0 hi; clear hi)
 go_ret
 exact ⟨Z0d HI.out, rfl⟩
theorem Z15 (s : ByteArray) (w : World) (hs : s.size <= maxLen) :
 Calls Tryz.prog 115 #[.string s] w fun e w' => e = .returned (.bool (Z2D s)) /\ Below w.1.size w w' := by
 have hm := hs
 unfold maxLen at hs
 by_cases h : 1 <= s.size /\ s.size <= 20
 ·obtain ⟨h1, h2⟩ := h
  have hf : Z2D s = ZfD Z5E s := by unfold Z2D; simp [h1, h2]
  have HF := Z0 hf
  clear hf
  obtain ⟨cap, C, hcap, hconv, hcell⟩ := Z85 w s
  have HC := Z0 hcell
  clear hcell
  go_enter Tryz.func115, Tryz.ntmps115
  go_wp2_with (go_at_call 138; refine (Z5d s _ _ (w.alloc (.cells C 5 (C.size, C.size + 1))).drew hm (fun j h => HC.out j h)).mono ?_; rintro e w1 ⟨rfl, rfl⟩)
  go_ret
  exact ⟨Z0d (by rw [HF.out]), ((Z9 _ w).drew).alloc (Z1 _) _⟩
 ·have hf : Z2D s = false := by unfold Z2D; simp; intro a b; exact absurd ⟨a, b⟩ h
  have HF := Z0 hf
  clear hf
  have h' : s.size < 1 \/ 20 < s.size := by omega
  clear h
  rcases h' with h | h
  all_goals
   go_enter Tryz.func115, Tryz.ntmps115
   go_wp2_with fail
   go_ret
   exact ⟨Z0d HF.out.symm, Z9 _ _⟩
end Go.Proofs.YtlgajongmkhcnaaGreatDoor
namespace Go.Proofs.YtlgajongmkhcnaaGreatDoor
open Go.RowKit
set_option linter.unusedVariables false
set_option maxRecDepth 100000
def RdLabs (w : World) (v : Value) (labs : List Lab) : Prop :=
 ∃ a cap, v = .slice a labs.length cap /\ (0 < labs.length -> ∃ g off, a = some ⟨g, off, none⟩ /\ g < w.1.size /\ ∀ i (h : i < labs.length), w.cell? ⟨g, off + i * 2, none⟩ = some (.string labs[i].pre) /\ w.cell? ⟨g, off + i * 2 + 1, none⟩ = some (.string labs[i].grp))
theorem RdLabs.below {w w' : World} {v : Value} {ls : List Lab} (h : RdLabs w v ls) (hb : Below w.1.size w w') : RdLabs w' v ls := by
 obtain ⟨a, cap, hv, hc⟩ := h
 exact ⟨a, cap, hv, fun h0 => by
  obtain ⟨g, off, ha, hg, hcc⟩ := hc h0
  exact ⟨g, off, ha, ZH hg hb.size, fun i h => ⟨(hb.cell (p := ⟨g, off + i * 2, none⟩) hg).trans (hcc i h).1, (hb.cell (p := ⟨g, off + i * 2 + 1, none⟩) hg).trans (hcc i h).2⟩⟩⟩
def lvA (l : Lev) (v : Value) : Value := .agg #[.string l.name, .int .i64 l.pre, v, .int .i64 l.min, .int .i64 l.cents]
def Z0G (l : Lev) : Prop := l.name.size <= maxLen /\ l.labs.length <= 100000 /\ ∀ x ∈ l.labs, x.pre.size <= maxLen /\ x.grp.size <= maxLen
def Z6B (l : Lev) (x : Lab) : Bool := decide ((x.pre.size : Int) = l.pre) && Z1s x.pre && Z2D x.grp
def Z1V (labs : List Lab) : Prop := ∀ i, (h : i + 1 < labs.length) -> ltB labs[i].pre labs[i + 1].pre = true
def Z7V (l : Lev) (k : Nat) : Prop := ∀ i, i < k -> ∀ h : i < l.labs.length, Z6B l l.labs[i] = true /\ ∀ j, j + 1 = i -> ∀ h' : j < l.labs.length, ltB l.labs[j].pre l.labs[i].pre = true
def Z3W (l : Lev) : Bool := Z2D l.name && decide (0 <= l.pre /\ l.pre <= 10 /\ 0 <= l.cents /\ l.cents <= 1000000)
def Z9G (l : Lev) (last : Bool) : Prop := Z3W l = true /\ if last then (l.min = 0 /\ l.pre = 0 /\ l.labs.length = 0) else ((1 <= l.min /\ l.min <= 2000) /\ Z7V l l.labs.length)
open Classical in
noncomputable def Z0M (l : Lev) (last : Bool) : Bool := decide (Z9G l last)
theorem Z13 {l : Lev} {last : Bool} : Z0M l last = true ↔ Z9G l last := by unfold Z0M; simp
theorem Z1P {l : Lev} {last : Bool} (h : ¬ Z9G l last) : Z0M l last = false := by unfold Z0M; simp [h]
theorem Zb2 {l : Lev} {last : Bool} (h : Z3W l = false) : Z0M l last = false := Z1P (fun h' => by rw [h'.1] at h; cases h)
theorem Z9T (l : Lev) (v : Value) (last : Bool) (w : World) (hf : Z0G l) (hh : Z3W l = false) :
 Calls Tryz.prog 80 #[lvA l v, .bool last] w fun e w' => e = .returned (.bool (Z0M l last)) /\ Below w.1.size w w' := by
 obtain ⟨hn, hl, hx⟩ := hf
 have HF := Z0 (Zb2 (last := last) hh)
 have hh' : Z2D l.name = false \/ (Z2D l.name = true /\ (l.pre < 0 \/ (0 <= l.pre /\ 10 < l.pre) \/ ((0 <= l.pre /\ l.pre <= 10) /\ l.cents < 0) \/ ((0 <= l.pre /\ l.pre <= 10) /\ 0 <= l.cents /\ 1000000 < l.cents))) := by
  unfold Z3W at hh
  cases h : Z2D l.name
  ·exact .inl rfl
  ·rw [h] at hh
   simp at hh
   exact .inr ⟨rfl, by omega⟩
 clear hh hl hx
 obtain ⟨name, pre, labs, min, cents⟩ := l
 dsimp only at hn hh'
 unfold lvA
 dsimp only
 generalize Z0M _ _ = r at HF
 clear labs
 rcases hh' with h | ⟨h, h1 | ⟨h0, h1⟩ | ⟨⟨h0, h1⟩, h2⟩ | ⟨⟨h0, h1⟩, h2, h3⟩⟩
 all_goals
  go_enter Tryz.func80, Tryz.ntmps80
  go_wp2_with (go_at_call 115; refine (Z15 _ _ hn).mono ?_; rintro e w1 ⟨rfl, hb⟩; obtain ⟨hc1, hf1⟩ := Z2v hb)
  go_ret
  exact ⟨Z0d HF.out.symm, ((Z9 _ w).alloc (Z1 _) _).trans (hb.mono (by simp))⟩
end Go.Proofs.YtlgajongmkhcnaaGreatDoor
namespace Go.Proofs.YtlgajongmkhcnaaGreatDoor
open Go.RowKit
set_option linter.unusedVariables false
set_option maxRecDepth 100000
theorem Z3K {W : World} {b i : Nat} (o : Obj) (h : b < W.1.size) : (W.alloc o).cell? ⟨b, i, none⟩ = W.cell? ⟨b, i, none⟩ :=
 ((Z9 _ W).alloc (Z1 _) o).cell (p := ⟨b, i, none⟩) h
theorem Z0k {B : Nat} {w wr w2 : World} {o : Obj} (h : Below B w wr) (hB : B <= wr.1.size) (h2 : Below (wr.alloc o).1.size (wr.alloc o) w2) : Below B w w2 :=
 (h.alloc hB o).trans (h2.mono (by simp; omega))
theorem Z00 {B : Nat} {w wr w2 : World} (h : Below B w wr) (hB : B <= wr.1.size) (h2 : Below wr.1.size wr w2) : Below B w w2 := h.trans (h2.mono hB)
theorem Z1H {l : Lev} (h : Z3W l = true) : Z2D l.name = true /\ 0 <= l.pre /\ l.pre <= 10 /\ 0 <= l.cents /\ l.cents <= 1000000 := by
 unfold Z3W at h
 simpa using h
theorem Z9R (l : Lev) (v : Value) (w : World) (hf : Z0G l) (hh : Z3W l = true) (hv : ∃ a cap, v = .slice a l.labs.length cap) :
 Calls Tryz.prog 80 #[lvA l v, .bool true] w fun e w' => e = .returned (.bool (Z0M l true)) /\ Below w.1.size w w' := by
 obtain ⟨hn, hl, hx⟩ := hf
 obtain ⟨a, cap, rfl⟩ := hv
 have HT : Hid (l.min = 0 -> l.pre = 0 -> l.labs.length = 0 -> Z0M l true = true) := fun h1 h2 h3 => Z13.2 ⟨hh, by simp [h1, h2, h3]⟩
 have HF : Hid (¬ (l.min = 0 /\ l.pre = 0 /\ l.labs.length = 0) -> Z0M l true = false) := fun h => Z1P (fun h' => h (by simpa using h'.2))
 obtain ⟨h, h1, h2, h3, h4⟩ := Z1H hh
 clear hh hx
 obtain ⟨name, pre, labs, min, cents⟩ := l
 dsimp only at *
 unfold lvA
 dsimp only
 generalize Z0M _ _ = r at HT HF
 generalize labs.length = n at HT HF hl
 by_cases m0 : min = 0
 ·subst m0
  by_cases p0 : pre = 0
  ·subst p0
   by_cases n0 : n = 0
   ·subst n0
    have HR := Z0 (HT.out rfl rfl rfl)
    clear HT HF
    go_enter Tryz.func80, Tryz.ntmps80
    go_wp2_with (go_at_call 115; refine (Z15 _ _ hn).mono ?_; rintro e w1 ⟨rfl, hb⟩; obtain ⟨hc1, hf1⟩ := Z2v hb)
    go_ret
    exact ⟨Z0d HR.out.symm, ((Z9 _ w).alloc (Z1 _) _).trans (hb.mono (by simp))⟩
   ·have hne : ((n : Int) == 0) = false := by simp; omega
    have HR := Z0 (HF.out (fun h => n0 h.2.2))
    clear n0
    go_enter Tryz.func80, Tryz.ntmps80
    go_wp2_with (go_at_call 115; refine (Z15 _ _ hn).mono ?_; rintro e w1 ⟨rfl, hb⟩; obtain ⟨hc1, hf1⟩ := Z2v hb)
    go_ret
    exact ⟨Z0d HR.out.symm, ((Z9 _ w).alloc (Z1 _) _).trans (hb.mono (by simp))⟩
  ·have hne : (pre == 0) = false := by simpa using p0
   have HR := Z0 (HF.out (fun h => p0 h.2.1))
   clear p0
   go_enter Tryz.func80, Tryz.ntmps80
   go_wp2_with (go_at_call 115; refine (Z15 _ _ hn).mono ?_; rintro e w1 ⟨rfl, hb⟩; obtain ⟨hc1, hf1⟩ := Z2v hb)
   go_ret
   exact ⟨Z0d HR.out.symm, ((Z9 _ w).alloc (Z1 _) _).trans (hb.mono (by simp))⟩
 ·have hne : (min == 0) = false := by simpa using m0
  have HR := Z0 (HF.out (fun h => m0 h.1))
  clear m0
  go_enter Tryz.func80, Tryz.ntmps80
  go_wp2_with (go_at_call 115; refine (Z15 _ _ hn).mono ?_; rintro e w1 ⟨rfl, hb⟩; obtain ⟨hc1, hf1⟩ := Z2v hb)
  go_ret
  exact ⟨Z0d HR.out.symm, ((Z9 _ w).alloc (Z1 _) _).trans (hb.mono (by simp))⟩
theorem ZaX (l : Lev) (v : Value) (w : World) (hf : Z0G l) (hh : Z3W l = true) (hm : l.min < 1 \/ 2000 < l.min) :
 Calls Tryz.prog 80 #[lvA l v, .bool false] w fun e w' => e = .returned (.bool (Z0M l false)) /\ Below w.1.size w w' := by
 obtain ⟨hn, hl, hx⟩ := hf
 have HR : Hid (Z0M l false = false) := Z1P (fun h => by have := h.2; simp at this; omega)
 obtain ⟨h, h1, h2, h3, h4⟩ := Z1H hh
 clear hh hx
 obtain ⟨name, pre, labs, min, cents⟩ := l
 dsimp only at *
 unfold lvA
 dsimp only
 generalize Z0M _ _ = r at HR
 rcases hm with hm | hm
 all_goals
  go_enter Tryz.func80, Tryz.ntmps80
  go_wp2_with (go_at_call 115; refine (Z15 _ _ hn).mono ?_; rintro e w1 ⟨rfl, hb⟩; obtain ⟨hc1, hf1⟩ := Z2v hb)
  go_ret
  exact ⟨Z0d HR.out.symm, ((Z9 _ w).alloc (Z1 _) _).trans (hb.mono (by simp))⟩
theorem ZaV {l : Lev} {x : Lab} : (Z6B l x = false /\ (((x.pre.size : Int) != l.pre) = true \/ (((x.pre.size : Int) != l.pre) = false /\ Z1s x.pre = false) \/ (((x.pre.size : Int) != l.pre) = false /\ Z1s x.pre = true /\ Z2D x.grp = false))) \/
 (Z6B l x = true /\ ((x.pre.size : Int) != l.pre) = false /\ Z1s x.pre = true /\ Z2D x.grp = true) := by
 unfold Z6B
 by_cases h : (x.pre.size : Int) = l.pre
 ·cases h1 : Z1s x.pre <;> cases h2 : Z2D x.grp <;> simp [h]
 ·simp [h]
theorem ZaU {l : Lev} {k : Nat} (h : Z7V l k) (hk : k < l.labs.length) (h1 : Z6B l l.labs[k] = true) (h2 : ∀ j, j + 1 = k -> ∀ h' : j < l.labs.length, ltB l.labs[j].pre l.labs[k].pre = true) : Z7V l (k + 1) := by
 intro i hi hlt
 by_cases e : i = k
 ·subst e; exact ⟨h1, h2⟩
 ·exact h i (by omega) hlt
theorem Z7l {l : Lev} {k : Nat} (hk : k < l.labs.length) (h : Z6B l l.labs[k] = false) : Z0M l false = false :=
 Z1P (fun h' => by
  have := h'.2
  simp only [Bool.false_eq_true, if_false] at this
  have := (this.2 k hk hk).1
  rw [h] at this; cases this)
theorem Z59 {l : Lev} {j : Nat} (hk : j + 1 < l.labs.length) (h : ltB l.labs[j].pre l.labs[j + 1].pre = false) : Z0M l false = false :=
 Z1P (fun h' => by
  have := h'.2
  simp only [Bool.false_eq_true, if_false] at this
  have := (this.2 (j + 1) hk hk).2 j rfl (by omega)
  rw [h] at this; cases this)
theorem Z9S (l : Lev) (v : Value) (w : World) (hf : Z0G l) (hh : Z3W l = true) (hm1 : 1 <= l.min) (hm2 : l.min <= 2000) (hr : RdLabs w v l.labs) :
 Calls Tryz.prog 80 #[lvA l v, .bool false] w fun e w' => e = .returned (.bool (Z0M l false)) /\ Below w.1.size w w' := by
 obtain ⟨hn, hl, hx⟩ := hf
 obtain ⟨a, cap, rfl, hc⟩ := hr
 have HC := Z0 hc
 have HX := Z0 hx
 have HT : Hid (Z7V l l.labs.length -> Z0M l false = true) := fun h => Z13.2 ⟨hh, by simp; exact ⟨⟨hm1, hm2⟩, h⟩⟩
 have HF1 : Hid (∀ k (hk : k < l.labs.length), Z6B l l.labs[k] = false -> Z0M l false = false) := fun k hk => Z7l hk
 have HF2 : Hid (∀ j (hk : j + 1 < l.labs.length), ltB l.labs[j].pre l.labs[j + 1].pre = false -> Z0M l false = false) := fun j hk => Z59 hk
 obtain ⟨h, h1, h2, h3, h4⟩ := Z1H hh
 clear hh hx hc
 generalize Z0M l false = r at HT HF1 HF2
 unfold lvA
 go_enter Tryz.func80, Tryz.ntmps80
 go_wp2_with (go_at_call 115; refine (Z15 _ _ hn).mono ?_; rintro e w1 ⟨rfl, hb⟩; obtain ⟨hc1, hf1⟩ := Z2v hb)
 go_loopw [57] (fun i wr => ∃ k : Nat, k <= l.labs.length /\ i = .int .i64 k /\ Hid (Z7V l k) /\ Below (w.1.size + 1) (w.alloc (.cells #[.string l.name, .int .i64 l.pre, .slice a l.labs.length cap, .int .i64 l.min, .int .i64 l.cents] 63)) wr) (fun i _ => l.labs.length - (intOf i).toNat)
 case atStart => exact ⟨0, ZE _, rfl, fun j h => by omega, by simpa using hb⟩
 case round =>
  clear hc1 hf1 hb
  obtain ⟨k, hk, rfl, ha, hB⟩ := hrel
  have hbx : w.1.size < (w.alloc (.cells #[.string l.name, .int .i64 l.pre, .slice a l.labs.length cap, .int .i64 l.min, .int .i64 l.cents] 63)).1.size := by simp
  have b1 : wr.cell? ⟨w.1.size, 1, none⟩ = some (.int .i64 l.pre) := (hB.cell (p := ⟨w.1.size, 1, none⟩) (Nat.lt_succ_self _)).trans (by simp [go_sem])
  have b2 : wr.cell? ⟨w.1.size, 2, none⟩ = some (.slice a l.labs.length cap) := (hB.cell (p := ⟨w.1.size, 2, none⟩) (Nat.lt_succ_self _)).trans (by simp [go_sem])
  have hsz : w.1.size < wr.1.size := ZH hbx hB.size
  have hend : Below w.1.size w wr := ((Z9 _ w).alloc (Z1 _) _).trans (hB.mono (Nat.le_succ _))
  by_cases hlt : k < l.labs.length
  ·obtain ⟨g, off, rfl, hg, hcc⟩ := HC.out (by omega)
   have hgr : g < wr.1.size := by omega
   have cl : ∀ o, wr.cell? ⟨g, o, none⟩ = w.cell? ⟨g, o, none⟩ := fun o => (hend.cell (p := ⟨g, o, none⟩) hg)
   have c1 : wr.cell? ⟨g, off + k * 2, none⟩ = some (.string l.labs[k].pre) := (cl _).trans (hcc k hlt).1
   have c2 : wr.cell? ⟨g, off + k * 2 + 1, none⟩ = some (.string l.labs[k].grp) := (cl _).trans (hcc k hlt).2
   have x1 := (HX.out _ (Z4 hlt)).1
   have x2 := (HX.out _ (Z4 hlt)).2
   have HN := Z0 (fun a b => ZaU ha.out hlt a b)
   have HFK := Z0 (HF1.out k hlt)
   have hprev : Hid (∀ j, j + 1 = k -> ∃ q : ByteArray, wr.cell? ⟨g, off + j * 2, none⟩ = some (.string q) /\ (ltB q l.labs[k].pre = false -> r = false) /\ (ltB q l.labs[k].pre = true -> ∀ j, j + 1 = k -> ∀ h' : j < l.labs.length, ltB l.labs[j].pre l.labs[k].pre = true)) := fun j hj => by
    subst hj
    exact ⟨l.labs[j].pre, (cl _).trans (hcc j (by omega)).1, fun h => HF2.out j hlt h, fun h i hi _ => by
     obtain rfl : i = j := by omega
     exact h⟩
   clear cl hcc HC HX HF1 HF2 HT ha
   rcases ZaV (l := l) (x := l.labs[k]) with ⟨hlo, hcs⟩ | ⟨hlo, t1, t2, t3⟩
   ·have HR := Z0 (HFK.out hlo)
    clear hlo HFK HN hprev
    generalize l.labs[k].pre = xp at c1 hcs x1
    generalize l.labs[k].grp = xg at c2 hcs x2
    rcases hcs with t1 | ⟨t1, t2⟩ | ⟨t1, t2, t3⟩
    ·go_wp2_with fail
     go_ret
     exact ⟨Z0d HR.out.symm, hend.alloc (Nat.le_of_lt hsz) _⟩
    ·go_wp2_with (go_at_call 110; refine (Z1G _ _ x1).mono ?_; rintro e w2 ⟨rfl, hb2⟩; obtain ⟨hc2, hf2⟩ := Z2v hb2)
     go_ret
     exact ⟨Z0d HR.out.symm, Z0k hend (Nat.le_of_lt hsz) hb2⟩
    ·go_wp2_with (first | (go_at_call 110; refine (Z1G _ _ x1).mono ?_; rintro e w2 ⟨rfl, hb2⟩; obtain ⟨hc2, hf2⟩ := Z2v hb2; have hz2 := hb2.size) | (go_at_call 115; refine (Z15 _ _ x2).mono ?_; rintro e w3 ⟨rfl, hb3⟩; obtain ⟨hc3, hf3⟩ := Z2v hb3))
     go_ret
     exact ⟨Z0d HR.out.symm, Z00 (Z0k hend (Nat.le_of_lt hsz) hb2) (by have := hb2.size; simp at this; omega) hb3⟩
   ·clear HFK
    have HN' := Z0 (HN.out hlo)
    clear HN hlo
    generalize l.labs[k].pre = xp at c1 t1 t2 x1 HN' hprev
    generalize l.labs[k].grp = xg at c2 t3 x2
    by_cases k0 : 0 < k
    ·obtain ⟨q, hq, hq1, hq2⟩ := hprev.out (k - 1) (by omega)
     have HQ1 := Z0 hq1
     have HQ2 := Z0 hq2
     clear hq1 hq2 hprev
     have hle := ZiV xp q
     go_wp2_with (first | (go_at_call 110; refine (Z1G _ _ x1).mono ?_; rintro e w2 ⟨rfl, hb2⟩; obtain ⟨hc2, hf2⟩ := Z2v hb2; have hz2 := hb2.size) | (go_at_call 115; refine (Z15 _ _ x2).mono ?_; rintro e w3 ⟨rfl, hb3⟩; obtain ⟨hc3, hf3⟩ := Z2v hb3))
     have d1 : w3.cell? ⟨w.1.size, 2, none⟩ = some (.slice (some ⟨g, off, none⟩) l.labs.length cap) := by
      rw [hc3 _ _ (by simp at hz2; omega), hc2 _ _ (by simp; omega)]
      exact (Z3K _ hsz).trans b2
     have d2 : w3.cell? ⟨g, off + (k - 1) * 2, none⟩ = some (.string q) := by
      rw [hc3 _ _ (by simp at hz2; omega), hc2 _ _ (by simp; omega)]
      exact (Z3K _ hgr).trans hq
     have d3 : w3.cell? ⟨wr.1.size, 0, none⟩ = some (.string xp) := by
      rw [hc3 _ _ (by simp at hz2; omega), hc2 _ _ (by simp)]
      simp [go_sem]
     have HB : Hid (Below (w.1.size + 1) (w.alloc (.cells #[.string l.name, .int .i64 l.pre, .slice (some ⟨g, off, none⟩) l.labs.length cap, .int .i64 l.min, .int .i64 l.cents] 63)) w3) := Z00 (Z0k hB hsz hb2) (by have := hb2.size; simp at this; omega) hb3
     have HE : Hid (Below w.1.size w w3) := Z00 (Z0k hend (by omega) hb2) (by have := hb2.size; simp at this; omega) hb3
     clear hc2 hc3 hf2 hf3 hb2 hb3 hB hend b1 b2 c1 c2 hq hz2
     have hd1 : decide (0 < k) = true := by simpa using k0
     have hd2 : decide ((0 : Int) < (k : Int)) = true := by simp; omega
     have hw2 : 0 <= (k : Int) - 1 := by omega
     have hw3 : ((k : Int) - 1).toNat = k - 1 := by omega
     have hw4 : (k : Int) - 1 < (l.labs.length : Int) := by omega
     have hw5 : 1 <= k := by omega
     have hw6 : k - 1 < l.labs.length := by omega
     have hw1 : IntKind.i64.wrap ((k : Int) - 1) = (k : Int) - 1 := IntWalk.i64_in _ (by omega)
     cases hq : ltB q xp
     ·rw [hq] at hle
      have HR := Z0 (HQ1.out hq)
      go_quiet (fail)
      clear hw1
      go_wp2_with fail
      go_ret
      exact ⟨Z0d HR.out.symm, below_drewN HE.out _⟩
     ·rw [hq] at hle
      have HR := Z0 (HQ2.out hq)
      go_quiet (fail)
      clear hw1
      go_wp2_with fail
      go_roundw
      case rel => exact ⟨k + 1, by omega, by go_num, HN'.out HR.out, below_drewN HB.out _⟩
      case measure => simp [intOf]; omega
    ·have hd1 : decide (0 < k) = false := by simp; omega
     have hd2 : decide ((0 : Int) < (k : Int)) = false := by simp; omega
     go_wp2_with (first | (go_at_call 110; refine (Z1G _ _ x1).mono ?_; rintro e w2 ⟨rfl, hb2⟩; obtain ⟨hc2, hf2⟩ := Z2v hb2; have hz2 := hb2.size) | (go_at_call 115; refine (Z15 _ _ x2).mono ?_; rintro e w3 ⟨rfl, hb3⟩; obtain ⟨hc3, hf3⟩ := Z2v hb3))
     go_quiet (fail)
     go_wp2_with fail
     go_roundw
     case rel => exact ⟨k + 1, by omega, by go_num, HN'.out (fun j hj => by omega), below_drewN (Z00 (Z0k hB hsz hb2) (by have := hb2.size; simp at this; omega) hb3) _⟩
     case measure => simp [intOf]; omega
  ·have HR := Z0 (HT.out (by obtain rfl : k = l.labs.length := (by omega); exact ha.out))
   go_wp2_with fail
   go_ret
   exact ⟨Z0d HR.out.symm, hend⟩
theorem ZaY (l : Lev) (v : Value) (last : Bool) (w : World) (hf : Z0G l) (hr : RdLabs w v l.labs) :
 Calls Tryz.prog 80 #[lvA l v, .bool last] w fun e w' => e = .returned (.bool (Z0M l last)) /\ Below w.1.size w w' := by
 cases hh : Z3W l
 ·exact Z9T l v last w hf hh
 ·cases last
  ·by_cases hm : l.min < 1 \/ 2000 < l.min
   ·exact ZaX l v w hf hh hm
   ·exact Z9S l v w hf hh (by omega) (by omega) hr
  ·exact Z9R l v w hf hh (by obtain ⟨a, cap, h, _⟩ := hr; exact ⟨a, cap, h⟩)
end Go.Proofs.YtlgajongmkhcnaaGreatDoor
namespace Go.Proofs.YtlgajongmkhcnaaGreatDoor
open Go.RowKit
set_option linter.unusedVariables false
set_option maxRecDepth 100000
def Za3 (a b : ByteArray) : Int := if ltB a b then -1 else if ltB b a then 1 else 0
theorem Z6F (s : ByteArray) (w : World) : Calls Tryz.prog 169 #[.string s] w fun e w' => e = .returned (.bool false) /\ w = w' := by
 go_enter Tryz.func169, Tryz.ntmps169
 go_wp2
 go_ret
 exact ⟨by simp, rfl⟩
theorem Zbd (a b : ByteArray) (w : World) : Calls Tryz.prog 142 #[.string a, .string b] w fun e w' => e = .returned (.int .i64 (Za3 a b)) /\ w = w' := by
 have h1 := ZeJ a b
 have h3 := ba_eq a b
 have HC : Hid (Za3 a b = if ltB a b then -1 else if ltB b a then 1 else 0) := rfl
 rcases Z6w a b with h | h | h
 ·rw [h] at h1 HC
  rw [decide_eq_false (Z3k h)] at h3
  generalize Za3 a b = c at HC
  clear h
  go_enter Tryz.func142, Tryz.ntmps142
  go_wp2_with (go_at_call 169; refine (Z6F _ _).mono ?_; rintro e w' ⟨rfl, rfl⟩)
  go_ret
  exact ⟨Z6b (by rw [HC.out]; rfl), rfl⟩
 ·have hc2 : Za3 a b = 0 := by unfold Za3; rw [h]; simp [Z1u]
  have HC2 := Z0 hc2
  clear hc2
  rw [h, Z1u] at h1
  rw [decide_eq_true h] at h3
  have h1' : Op.bytesLess a.toList b.toList = false := by rw [h]; exact h1
  generalize Za3 a b = c at HC2
  clear h h1 HC
  go_enter Tryz.func142, Tryz.ntmps142
  go_wp2_with (go_at_call 169; refine (Z6F _ _).mono ?_; rintro e w' ⟨rfl, rfl⟩)
  go_ret
  exact ⟨Z6b (by rw [HC2.out]), rfl⟩
 ·rw [Z3l h] at h1 HC
  rw [h] at HC
  rw [decide_eq_false (fun e => Z3k h e.symm)] at h3
  generalize Za3 a b = c at HC
  clear h
  go_enter Tryz.func142, Tryz.ntmps142
  go_wp2_with (go_at_call 169; refine (Z6F _ _).mono ?_; rintro e w' ⟨rfl, rfl⟩)
  go_ret
  exact ⟨Z6b (by rw [HC.out]; rfl), rfl⟩
theorem Z2U (x : Lab) (p : ByteArray) (w : World) : Calls Tryz.prog 141 #[.agg #[.string x.pre, .string x.grp], .string p] w fun e w' => e = .returned (.int .i64 (Za3 x.pre p)) /\ Below w.1.size w w' := by
 go_enter Tryz.func141, Tryz.ntmps141
 go_wp2_with (go_at_call 142; refine (Zbd _ _ _).mono ?_; rintro e w' ⟨rfl, rfl⟩)
 go_ret
 exact ⟨rfl, (Z9 _ w).alloc (Z1 _) _⟩
theorem ZgT {a b : ByteArray} (h : ltB a b = true) : Za3 a b < 0 := by unfold Za3; simp [h]
theorem ZgS {a b : ByteArray} (h : ltB a b = false) : 0 <= Za3 a b := by unfold Za3; simp [h]; split <;> omega
theorem Zfk {a b : ByteArray} : (Za3 a b == 0) = decide (a = b) := by
 unfold Za3
 rcases Z6w a b with h | h | h
 ·rw [h, decide_eq_false (Z3k h)]; rfl
 ·rw [h, Z1u]; simp
 ·rw [h, Z3l h, decide_eq_false (fun e => Z3k h e.symm)]; rfl
def Z1x (labs : List Lab) (p : ByteArray) : Option ByteArray := (labs.find? (fun x => decide (x.pre = p))).map (·.grp)
theorem Z4b {labs : List Lab} (h : Z1V labs) {s t : Nat} (hst : s < t) (ht : t < labs.length) : ltB (labs[s]'(by omega)).pre labs[t].pre = true := by
 induction t with
 | zero => omega
 | succ t ih =>
  by_cases e : s = t
  ·subst e; exact h s ht
  ·exact Z2F (ih (by omega) (by omega)) (h t ht)
theorem ZgC {labs : List Lab} (h : Z1V labs) {i : Nat} (hi : i < labs.length) : Z1x labs labs[i].pre = some labs[i].grp := by
 unfold Z1x
 have hfind : labs.find? (fun x => decide (x.pre = labs[i].pre)) = some labs[i] := List.find?_eq_some_iff_getElem.2 ⟨by simp, i, hi, rfl, fun j hj => by
  simp only [Bool.not_eq_true', decide_eq_false_iff_not]
  exact Z3k (Z4b h hj hi)⟩
 rw [hfind]
 rfl
theorem Zd7 {labs : List Lab} {p : ByteArray} (h : ∀ i (hi : i < labs.length), labs[i].pre ≠ p) : Z1x labs p = none := by
 unfold Z1x
 rw [List.find?_eq_none.2 (fun x hx => by
  obtain ⟨i, hi, rfl⟩ := List.mem_iff_getElem.1 hx
  simpa using h i hi)]
 rfl
theorem search_end {labs : List Lab} {p : ByteArray} (h : Z1V labs) {i : Nat} (h1 : ∀ t, t < i -> ∀ ht : t < labs.length, ltB labs[t].pre p = true) (h2 : ∀ t, i <= t -> ∀ ht : t < labs.length, ltB labs[t].pre p = false) :
 (∀ hi : i < labs.length, labs[i].pre = p -> Z1x labs p = some labs[i].grp) /\ ((∀ hi : i < labs.length, labs[i].pre ≠ p) -> Z1x labs p = none) := by
 constructor
 ·rintro hi rfl; exact ZgC h hi
 ·intro hn
  refine Zd7 (fun t ht => ?_)
  rcases Nat.lt_trichotomy t i with hlt | rfl | hgt
  ·exact Z3k (h1 t hlt ht)
  ·exact hn ht
  ·have hi : i < labs.length := by omega
   have ha := Z4b h hgt ht
   have hb := h2 i (Z1 _) hi
   rcases Z6w labs[i].pre p with hc | hc | hc
   ·rw [hc] at hb; cases hb
   ·exact absurd hc (hn hi)
   ·exact fun e => Z3k (Z2F hc ha) e.symm
theorem ZcC (labs : List Lab) (p : ByteArray) (v : Value) (w : World) (hl : labs.length <= 100000) (hr : RdLabs w v labs) (hs : Z1V labs) :
 Calls Tryz.prog 140 #[v, .string p, .func (.func 141) #[] #[]] w fun e w' => ∃ (i : Nat) (b : Bool), e = .returned (.tuple #[.int .i64 i, .bool b]) /\ Below w.1.size w w' /\
  ((b = true /\ ∃ hi : i < labs.length, Z1x labs p = some labs[i].grp) \/ (b = false /\ Z1x labs p = none)) := by
 obtain ⟨a, cap, rfl, hc⟩ := hr
 have HC := Z0 hc
 have HS := Z0 hs
 clear hc hs
 go_enter Tryz.func140, Tryz.ntmps140
 go_wp2_with fail
 go_loopw [9, 10] (fun vi vj wr => ∃ i j : Nat, i <= j /\ j <= labs.length /\ vi = .int .i64 i /\ vj = .int .i64 j /\ Below w.1.size w wr /\ Hid (∀ t, t < i -> ∀ ht : t < labs.length, ltB labs[t].pre p = true) /\ Hid (∀ t, j <= t -> ∀ ht : t < labs.length, ltB labs[t].pre p = false)) (fun vi vj _ => (intOf vj).toNat - (intOf vi).toNat)
 case atStart => exact ⟨0, labs.length, ZE _, Z1 _, rfl, rfl, Z9 _ _, fun t h => by omega, fun t h ht => by omega⟩
 case round =>
  obtain ⟨i, j, hij, hjn, rfl, rfl, hB, H1, H2⟩ := hrel
  by_cases hlt : i < j
  ·obtain ⟨g, off, rfl, hg, hcc⟩ := HC.out (by omega)
   have hm : (i + j) / 2 < labs.length := by omega
   have cl : ∀ o, wr.cell? ⟨g, o, none⟩ = w.cell? ⟨g, o, none⟩ := fun o => (hB.cell (p := ⟨g, o, none⟩) hg)
   have c1 : wr.cell? ⟨g, off + (i + j) / 2 * 2, none⟩ = some (.string labs[(i + j) / 2].pre) := (cl _).trans (hcc _ hm).1
   have c2 : wr.cell? ⟨g, off + (i + j) / 2 * 2 + 1, none⟩ = some (.string labs[(i + j) / 2].grp) := (cl _).trans (hcc _ hm).2
   have N1 : Hid (ltB labs[(i + j) / 2].pre p = true -> ∀ t, t < (i + j) / 2 + 1 -> ∀ ht : t < labs.length, ltB labs[t].pre p = true) := fun h t h1 ht => by
    by_cases e : t = (i + j) / 2
    ·subst e; exact h
    ·exact Z2F (Z4b HS.out (show t < (i + j) / 2 by omega) hm) h
   have N2 : Hid (ltB labs[(i + j) / 2].pre p = false -> ∀ t, (i + j) / 2 <= t -> ∀ ht : t < labs.length, ltB labs[t].pre p = false) := fun h t h1 ht => by
    by_cases e : t = (i + j) / 2
    ·subst e; exact h
    ·cases e' : ltB labs[t].pre p
     ·rfl
     ·rw [Z2F (Z4b HS.out (show (i + j) / 2 < t by omega) ht) e'] at h; cases h
   clear cl hcc HC HS
   generalize labs[(i + j) / 2] = x at c1 c2 N1 N2
   cases hx : ltB x.pre p
   ·have hcn := ZgS hx
    have N := Z0 (N2.out hx)
    clear N1 N2 hx
    have hcall := Z2U x p
    have HCL := Z0 hcall
    clear hcall
    generalize Za3 x.pre p = cc at hcn HCL
    go_wp2_with (go_at_call 141; refine (HCL.out _).mono ?_; rintro e w2 ⟨rfl, hb2⟩)
    go_roundw
    case rel => exact ⟨i, (i + j) / 2, by omega, by omega, rfl, by go_num, Z00 hB hB.size hb2, H1, N⟩
    case measure => simp [intOf]; omega
   ·have hcn := ZgT hx
    have N := Z0 (N1.out hx)
    clear N1 N2 hx
    have hcall := Z2U x p
    have HCL := Z0 hcall
    clear hcall
    generalize Za3 x.pre p = cc at hcn HCL
    go_wp2_with (go_at_call 141; refine (HCL.out _).mono ?_; rintro e w2 ⟨rfl, hb2⟩)
    go_roundw
    case rel => exact ⟨(i + j) / 2 + 1, j, by omega, by omega, by go_num, rfl, Z00 hB hB.size hb2, N, H2⟩
    case measure => simp [intOf]; omega
  ·obtain rfl : i = j := by omega
   obtain ⟨F1, F2⟩ := search_end HS.out H1.out H2.out
   have HF1 := Z0 F1
   have HF2 := Z0 F2
   clear F1 F2 H1 H2 HS
   by_cases hin : i < labs.length
   ·obtain ⟨g, off, rfl, hg, hcc⟩ := HC.out (by omega)
    have cl : ∀ o, wr.cell? ⟨g, o, none⟩ = w.cell? ⟨g, o, none⟩ := fun o => (hB.cell (p := ⟨g, o, none⟩) hg)
    have c1 : wr.cell? ⟨g, off + i * 2, none⟩ = some (.string labs[i].pre) := (cl _).trans (hcc _ hin).1
    have c2 : wr.cell? ⟨g, off + i * 2 + 1, none⟩ = some (.string labs[i].grp) := (cl _).trans (hcc _ hin).2
    have HFIN : Hid ((decide (labs[i].pre = p) = true /\ ∃ hi : i < labs.length, Z1x labs p = some labs[i].grp) \/ (decide (labs[i].pre = p) = false /\ Z1x labs p = none)) := by
     by_cases e : labs[i].pre = p
     ·exact .inl ⟨decide_eq_true e, hin, HF1.out hin e⟩
     ·exact .inr ⟨decide_eq_false e, HF2.out (fun _ => e)⟩
    have hz := Zfk (a := labs[i].pre) (b := p)
    clear cl hcc HC HF1 HF2
    have hcall := Z2U labs[i] p
    generalize Za3 labs[i].pre p = cc at hz hcall
    generalize decide (labs[i].pre = p) = bb at hz HFIN
    have HCL := Z0 hcall
    clear hcall
    generalize labs[i].pre = x1 at c1 HCL
    generalize labs[i].grp = x2 at c2 HCL
    go_wp2_with (go_at_call 141; refine (HCL.out _).mono ?_; rintro e w2 ⟨rfl, hb2⟩)
    go_ret2
    exact ⟨i, bb, rfl, Z00 hB hB.size hb2, HFIN.out⟩
   ·have hd : decide (i < labs.length) = false := by simpa using hin
    have HR := Z0 (HF2.out (fun h => absurd h hin))
    go_wp2_with fail
    go_ret2
    exact ⟨i, false, rfl, hB, .inr ⟨rfl, HR.out⟩⟩
def Z0e (l : Lev) (code : ByteArray) : ByteArray := (Z1x l.labs (code.extract 0 l.pre.toNat)).getD (code.extract 0 l.pre.toNat)
theorem Z5u (l : Lev) (p : ByteArray) (v : Value) (w : World) (hf : Z0G l) (hr : RdLabs w v l.labs) (hs : Z1V l.labs) :
 Calls Tryz.prog 117 #[lvA l v, .string p] w fun e w' => e = .returned (.tuple #[.string ((Z1x l.labs p).getD ⟨#[]⟩), .bool (Z1x l.labs p).isSome]) /\ Below w.1.size w w' := by
 obtain ⟨hn, hl, hx⟩ := hf
 have hr' := hr.below ((Z9 _ w).alloc (Z1 _) (.cells #[.string l.name, .int .i64 l.pre, v, .int .i64 l.min, .int .i64 l.cents] 63))
 have HCL := Z0 (ZcC l.labs p v _ hl hr' hs)
 clear hx hn hs hr'
 obtain ⟨a, cap, rfl, hc⟩ := hr
 have HC := Z0 hc
 clear hc
 unfold lvA
 go_enter Tryz.func117, Tryz.ntmps117
 go_wp2_with fail
 refine HCL.out.mono ?_
 rintro e w2 ⟨i, b, rfl, hb2, hres⟩
 have hend : Below w.1.size w w2 := Z0k (Z9 _ w) (Z1 _) hb2
 have b2 : w2.cell? ⟨w.1.size, 2, none⟩ = some (.slice a l.labs.length cap) := (hb2.cell (p := ⟨w.1.size, 2, none⟩) (by simp)).trans (by simp [go_sem])
 clear hb2 HCL
 rcases hres with ⟨rfl, hi, hlab⟩ | ⟨rfl, hlab⟩
 ·obtain ⟨g, off, rfl, hg, hcc⟩ := HC.out (by omega)
  have c2 : w2.cell? ⟨g, off + i * 2 + 1, none⟩ = some (.string l.labs[i].grp) := (hend.cell (p := ⟨g, off + i * 2 + 1, none⟩) hg).trans (hcc _ hi).2
  have HL := Z0 hlab
  clear hlab hcc HC
  generalize l.labs[i].grp = x at c2 HL
  go_wp2_with fail
  go_ret2
  exact ⟨by rw [HL.out]; rfl, hend⟩
 ·have HL := Z0 hlab
  clear hlab HC
  go_wp2_with fail
  go_ret2
  exact ⟨by rw [HL.out]; rfl, hend⟩
theorem ZgH {l : Lev} {c p : ByteArray} (hp : p = c.extract 0 l.pre.toNat) {x : ByteArray} (h : Z1x l.labs p = some x) : Z0e l c = x := by unfold Z0e; rw [<- hp, h]; rfl
theorem ZgI {l : Lev} {c p : ByteArray} (hp : p = c.extract 0 l.pre.toNat) (h : Z1x l.labs p = none) : Z0e l c = p := by unfold Z0e; rw [<- hp, h]; rfl
theorem Z9U (l : Lev) (c : ByteArray) (v : Value) (w : World) (hf : Z0G l) (hr : RdLabs w v l.labs) (hs : Z1V l.labs) (h0 : 0 <= l.pre) (h1 : l.pre <= c.size) (hcs : c.size <= maxLen) :
 Calls Tryz.prog 85 #[lvA l v, .string c] w fun e w' => e = .returned (.string (Z0e l c)) /\ Below w.1.size w w' := by
 have hr' := hr.below ((Z9 _ w).alloc (Z1 _) (.cells #[.string l.name, .int .i64 l.pre, v, .int .i64 l.min, .int .i64 l.cents] 63))
 have HCL := Z0 (fun p => Z5u l p v _ hf hr' hs)
 clear hr' hf hr hs
 unfold maxLen at hcs
 obtain ⟨n, hn⟩ : ∃ n : Nat, l.pre = n := ⟨l.pre.toNat, by omega⟩
 have HN := Z0 hn
 have e0 : Hid (∀ p, p = c.extract 0 n -> p = c.extract 0 l.pre.toNat) := fun p h => by rw [h, HN.out]; rfl
 unfold lvA at HCL ⊢
 rw [hn] at HCL ⊢ h1
 clear hn HN h0
 go_enter Tryz.func85, Tryz.ntmps85
 go_wp2_with fail
 refine (HCL.out _).mono ?_
 rintro e w2 ⟨rfl, hb2⟩
 have hend : Below w.1.size w w2 := Z0k (Z9 _ w) (Z1 _) hb2
 clear hb2
 cases hlab : Z1x l.labs (c.extract 0 n) with
 | none =>
  have HG := Z0 (ZgI (e0.out _ rfl) hlab)
  clear hlab HCL
  go_wp2_with fail
  go_ret
  exact ⟨ZdX HG.out.symm, hend⟩
 | some x =>
  have HG := Z0 (ZgH (e0.out _ rfl) hlab)
  clear hlab HCL
  go_wp2_with fail
  go_ret
  exact ⟨ZdX HG.out.symm, hend⟩
end Go.Proofs.YtlgajongmkhcnaaGreatDoor
namespace Go.Proofs.YtlgajongmkhcnaaGreatDoor
open Go.RowKit Go.Maps Go.WideMaps
set_option linter.unusedVariables false
structure ElemLaw (E : TypeId) (α : Type) (enc : α -> Lit) (val : α -> Value) (ok : α -> Prop) (z0 : α) : Prop where
 lay : ∀ x, ok x -> plainElem (H := Unit) Tryz.prog E (val x) = some (.lit (enc x), [])
 inv : ∀ v x ps, plainElem (H := Unit) Tryz.prog E v = some (.lit (enc x), ps) -> v = val x
 zero : ∀ w, (zeroValue E).run Tryz.prog w = .ok (val z0) w
 okz : ok z0
theorem ZdN : ElemLaw 9 ByteArray (fun s => .string s.data.toList) Value.string (fun s => s.size <= maxLen) ⟨#[]⟩ where
 lay := fun x h => plainElem_string Tryz.underlying9 h
 inv := fun v x ps h => by
  obtain ⟨s, rfl, hz, _⟩ := plainElem_string_inv Tryz.underlying9 h
  simp only [Prod.mk.injEq, DataW.lit.injEq, Lit.string.injEq] at hz
  rw [Z73 hz.1]
 zero := fun w => by kernel_rfl
 okz := by decide
theorem Z4j {e : TypeId} (he : Tryz.prog.underlying e = some .bool) {v : Value} {z : DataW Unit × List MemPlace} (h : plainElem Tryz.prog e v = some z) : ∃ s : Bool, v = .bool s /\ z = (.lit (.bool s), []) := by
 unfold plainElem at h
 rw [he] at h
 cases v <;> simp at h
 exact ⟨_, rfl, h.symm⟩
theorem Z3s : ElemLaw 4 Bool Lit.bool Value.bool (fun _ => True) false where
 lay := fun x h => plainElem_bool Tryz.underlying4 x
 inv := fun v x ps h => by
  obtain ⟨s, rfl, hz⟩ := Z4j Tryz.underlying4 h
  simp only [Prod.mk.injEq, DataW.lit.injEq, Lit.bool.injEq] at hz
  rw [hz.1]
 zero := fun w => by kernel_rfl
 okz := trivial
theorem intLaw : ElemLaw 3 Int (Lit.int .i64) (Value.int .i64) (fun n => (Lit.int .i64 n).wf = true) 0 where
 lay := fun x h => plainElem_int Tryz.underlying3 h
 inv := fun v x ps h => by
  obtain ⟨s, rfl, hz, _⟩ := plainElem_int_inv Tryz.underlying3 h
  simp only [Prod.mk.injEq, DataW.lit.injEq, Lit.int.injEq, true_and] at hz
  rw [hz.1]
 zero := fun w => by kernel_rfl
 okz := by decide
def Z7a (s : ByteArray) : Lit := .string s.data.toList
def OwnsF {α : Type} (E : TypeId) (enc : α -> Lit) (w : World) (B n : Nat) (f : ByteArray -> Option α) : Prop :=
 ∃ D : DataW Unit, w.ownsMap Tryz.prog 9 (plainElem Tryz.prog E) B n D /\ ∀ s, (f s = none -> Maps.has D (Z7a s) = false) /\ ∀ x, f s = some x -> Maps.has D (Z7a s) = true /\ ∀ zd, D.atKey (Z7a s) zd = .lit (enc x)
section
variable {α : Type} {E : TypeId} {enc : α -> Lit} {val : α -> Value} {ok : α -> Prop} {z0 : α} {w w' : World} {B n : Nat} {f : ByteArray -> Option α}
theorem OwnsF.made (w : World) : OwnsF E enc (w.alloc (.map #[] 0)) w.1.size 0 (fun _ => none) :=
 ⟨.map [], World.ownsMap_made _ _ _ _, fun s => ⟨fun _ => rfl, fun x h => by cases h⟩⟩
theorem OwnsF.kept {row : Option Nat} (h : OwnsF E enc w B n f) (hg : w.grownBy w' row) (hne : some B ≠ row) : OwnsF E enc w' B n f := by
 obtain ⟨D, hD, hf⟩ := h
 exact ⟨D, hD.kept hg hne, hf⟩
theorem OwnsF.below (h : OwnsF E enc w B n f) (hb : Below w.1.size w w') : OwnsF E enc w' B n f := h.kept (Z0a hb) (by simp)
theorem OwnsF.alloc (h : OwnsF E enc w B n f) (o : Obj) : OwnsF E enc (w.alloc o) B n f := h.below ((Z9 _ w).alloc (Z1 _) o)
theorem OwnsF.lt (h : OwnsF E enc w B n f) : B < w.1.size := by obtain ⟨D, hD, _⟩ := h; exact hD.lt
theorem Z2d : Keyed Tryz.prog 9 := string_keyed Tryz.underlying9
theorem OwnsF.look (L : ElemLaw E α enc val ok z0) (h : OwnsF E enc w B n f) {t : TypeId} (ht : Tryz.prog.underlying t = some (.map 9 E)) {s : ByteArray} (hs : s.size <= maxLen) :
 (Instr.lookup t (.map (some B)) (.string s) false).run Tryz.prog w = .ok (val ((f s).getD z0)) w := by
 obtain ⟨D, hD, hf⟩ := h
 obtain ⟨v, ps, hrun, hv⟩ := hD.lookup Z2d ht (L.zero w) (L.lay z0 L.okz) (keyOf_string_mk Tryz.underlying9 hs)
 rw [hrun]
 obtain ⟨h1, h2⟩ := hf s
 cases hfs : f s with
 | none =>
  have := h1 hfs
  rw [show (Lit.string s.data.toList) = Z7a s from rfl, atKey_of_not_has this] at hv
  rw [L.inv _ _ _ hv]
  rfl
 | some x =>
  rw [show (Lit.string s.data.toList) = Z7a s from rfl, (h2 x hfs).2] at hv
  rw [L.inv _ _ _ hv]
  rfl
theorem OwnsF.lookOk (L : ElemLaw E α enc val ok z0) (h : OwnsF E enc w B n f) {t : TypeId} (ht : Tryz.prog.underlying t = some (.map 9 E)) {s : ByteArray} (hs : s.size <= maxLen) :
 (Instr.lookup t (.map (some B)) (.string s) true).run Tryz.prog w = .ok (.tuple #[val ((f s).getD z0), .bool (f s).isSome]) w := by
 obtain ⟨D, hD, hf⟩ := h
 obtain ⟨v, ps, hrun, hv⟩ := hD.look_ok Z2d ht (L.zero w) (L.lay z0 L.okz) (keyOf_string_mk Tryz.underlying9 hs)
 rw [hrun]
 obtain ⟨h1, h2⟩ := hf s
 cases hfs : f s with
 | none =>
  have := h1 hfs
  rw [show (Lit.string s.data.toList) = Z7a s from rfl] at hv ⊢
  rw [atKey_of_not_has this] at hv
  rw [L.inv _ _ _ hv, this]
  rfl
 | some x =>
  rw [show (Lit.string s.data.toList) = Z7a s from rfl] at hv ⊢
  rw [(h2 x hfs).2] at hv
  rw [L.inv _ _ _ hv, (h2 x hfs).1]
  rfl
theorem Zc1 {a b : ByteArray} (h : Z7a a = Z7a b) : a = b := by unfold Z7a at h; injection h with h; exact Z73 h
theorem OwnsF.update (L : ElemLaw E α enc val ok z0) (h : OwnsF E enc w B n f) {t : TypeId} (ht : Tryz.prog.underlying t = some (.map 9 E)) (hn : n < maxLen) {s : ByteArray} (hs : s.size <= maxLen) {x : α} (hx : ok x) :
 ∃ w', (Instr.mapUpdate t (.map (some B)) (.string s) (val x)).run Tryz.prog w = .ok () w' /\ OwnsF E enc w' B (n + 1) (fun u => if u = s then some x else f u) /\ w.grownBy w' (some B) := by
 obtain ⟨D, hD, hf⟩ := h
 obtain ⟨w', hrun, h1, h2⟩ := hD.update Z2d ht hn (keyOf_string_mk Tryz.underlying9 hs) (L.lay x hx)
 refine ⟨w', hrun, ⟨_, h1, fun u => ?_⟩, h2⟩
 have hm := hD.isMap
 have hk : WideAt.IsKeyLit (Z7a s) := trivial
 dsimp only
 by_cases e : u = s
 ·subst e
  rw [if_pos rfl]
  exact ⟨fun h => (by cases h), fun y hy => by
   injection hy with hy
   subst hy
   exact ⟨has_put_same hm hk _, fun zd => atKey_put_same hm hk _ zd⟩⟩
 ·rw [if_neg e]
  have hne : Z7a u ≠ Z7a s := fun h => e (Zc1 h)
  exact ⟨fun h => by rw [<- (hf u).1 h]; exact has_put_other hne _, fun y hy => ⟨by rw [<- ((hf u).2 y hy).1]; exact has_put_other hne _, fun zd => by rw [<- ((hf u).2 y hy).2 zd]; exact atKey_put_other hne _ _⟩⟩
end
end Go.Proofs.YtlgajongmkhcnaaGreatDoor
namespace Go.Proofs.YtlgajongmkhcnaaGreatDoor
open Go.RowKit Go.Maps
set_option linter.unusedVariables false
set_option maxRecDepth 100000
def BoxLev (w : World) (X : Nat) (l : Lev) (v : Value) : Prop :=
 w.cell? ⟨X, 0, none⟩ = some (.string l.name) /\ w.cell? ⟨X, 1, none⟩ = some (.int .i64 l.pre) /\ w.cell? ⟨X, 2, none⟩ = some v /\ w.cell? ⟨X, 3, none⟩ = some (.int .i64 l.min) /\ w.cell? ⟨X, 4, none⟩ = some (.int .i64 l.cents)
theorem BoxLev.below {w w' : World} {X : Nat} {l : Lev} {v : Value} {B : Nat} (h : BoxLev w X l v) (hb : Below B w w') (hX : X < B) : BoxLev w' X l v :=
 ⟨(hb.cell (p := ⟨X, 0, none⟩) hX).trans h.1, (hb.cell (p := ⟨X, 1, none⟩) hX).trans h.2.1, (hb.cell (p := ⟨X, 2, none⟩) hX).trans h.2.2.1, (hb.cell (p := ⟨X, 3, none⟩) hX).trans h.2.2.2.1, (hb.cell (p := ⟨X, 4, none⟩) hX).trans h.2.2.2.2⟩
theorem cell_grown {w w' : World} {row : Option Nat} {b o : Nat} {x : Value} (hg : w.grownBy w' row) (h : w.cell? ⟨b, o, none⟩ = some x) (hne : some b ≠ row) : w'.cell? ⟨b, o, none⟩ = some x := by
 have hlt := Z5e h
 have := hg.block b hlt hne
 rw [<- h]
 simp only [World.cell?, this]
theorem BoxLev.grown {w w' : World} {row : Option Nat} {X : Nat} {l : Lev} {v : Value} (h : BoxLev w X l v) (hg : w.grownBy w' row) (hX : some X ≠ row) : BoxLev w' X l v :=
 ⟨cell_grown hg h.1 hX, cell_grown hg h.2.1 hX, cell_grown hg h.2.2.1 hX, cell_grown hg h.2.2.2.1 hX, cell_grown hg h.2.2.2.2 hX⟩
def Z7n (f : ByteArray -> Option ByteArray) (name g : ByteArray) : Bool := match f name with | none => true | some o => decide (o = g)
abbrev OwnsSS := OwnsF 9 (fun s : ByteArray => Lit.string s.data.toList)
theorem Zc6 {l : Lev} {c : ByteArray} (hf : Z0G l) (hc : c.size <= maxLen) : (Z0e l c).size <= maxLen := by
 unfold Z0e Z1x
 cases h : l.labs.find? (fun x => decide (x.pre = c.extract 0 l.pre.toNat)) with
 | none => simp; omega
 | some x => exact (hf.2.2 x (List.mem_of_find?_eq_some h)).2
theorem Zcc (next : Lev) (v : Value) (name p : ByteArray) (A X B n : Nat) (f : ByteArray -> Option ByteArray) (w : World) (hA : w.cell? ⟨A, 0, none⟩ = some (.map (some B))) (hX : BoxLev w X next v) (hown : OwnsSS w B n f) (hn : n < 1000000)
 (hf : Z0G next) (hr : RdLabs w v next.labs) (hs : Z1V next.labs) (h0 : 0 <= next.pre) (h1 : next.pre <= p.size) (hps : p.size <= maxLen) (hns : name.size <= maxLen) :
 Calls Tryz.prog 116 #[.string name, .string p, .pointer (some ⟨A, 0, none⟩), .pointer (some ⟨X, 0, none⟩)] w fun e w' => e = .returned (.bool (Z7n f name (Z0e next p))) /\ OwnsSS w' B (n + 1) (fun u => if u = name then some (Z0e next p) else f u) /\ w.grownBy w' (some B) := by
 have hlk := hown.lookOk ZdN Tryz.underlying213 hns
 have hAlt := Z5e hA
 have hXlt := Z5e hX.1
 have hBA : A ≠ B := fun e => by
  obtain ⟨D, ⟨es, cl, hb, _⟩, _⟩ := hown
  subst e
  simp [World.cell?, hb] at hA
 have HCL : Hid (∀ W, Below w.1.size w W -> Calls Tryz.prog 85 #[lvA next v, .string p] W fun e w' => e = .returned (.string (Z0e next p)) /\ ∃ w3, Below w.1.size w w' /\ (Instr.mapUpdate 213 (.map (some B)) (.string name) (.string (Z0e next p))).run Tryz.prog w' = .ok () w3 /\ OwnsSS w3 B (n + 1) (fun u => if u = name then some (Z0e next p) else f u) /\ w.grownBy w3 (some B) /\
  (Instr.lookup 213 (.map (some B)) (.string name) false).run Tryz.prog w3 = .ok (.string (Z0e next p)) w3 /\ w3.cell? ⟨A, 0, none⟩ = some (.map (some B))) := fun W hW => by
  refine (Z9U next p v W hf (hr.below hW) hs h0 h1 hps).mono ?_
  rintro e w2 ⟨rfl, hb2⟩
  have hb : Below w.1.size w w2 := Z00 hW hW.size hb2
  obtain ⟨w3, hrun, ho3, hg3⟩ := (hown.below hb).update ZdN Tryz.underlying213 (by unfold maxLen; omega) hns (Zc6 hf hps)
  refine ⟨rfl, w3, hb, hrun, ho3, ((Z0a hb).but _).trans hg3, ?_, cell_grown (((Z0a hb).but (some B)).trans hg3) hA (fun e => hBA (by injection e))⟩
  have := ho3.look ZdN Tryz.underlying213 hns
  simpa using this
 obtain ⟨x0, x1, x2, x3, x4⟩ := hX
 have HFI : Hid (Z7n f name (Z0e next p) = match f name with | none => true | some o => decide (o = Z0e next p)) := rfl
 clear hown hf hr hs
 unfold lvA at HCL
 generalize Z0e next p = gp at HCL HFI
 generalize Z7n f name gp = res at HFI
 cases hfn : f name with
 | none =>
  rw [hfn] at hlk HFI
  have HR : Hid (res = true) := HFI.out
  clear HFI hfn
  go_enter Tryz.func116, Tryz.ntmps116
  go_wp2_with fail
  go_region_with (go_at_call 85; refine (HCL.out _ (Z9 _ w).drew).mono ?_; rintro e w2 ⟨rfl, w3, hb2, hrun, ho3, hg3, hlk3, hA3⟩; obtain ⟨hc2, hf2⟩ := Z2v hb2)
  all_goals
   clear hc2 hf2 hlk hA x0 x1 x2 x3 x4 hrun hb2
   go_wp2_with fail
   go_ret
   exact ⟨Z0d HR.out.symm, ho3, hg3⟩
 | some o =>
  rw [hfn] at hlk HFI
  have hb := ba_eq o gp
  have HR : Hid (res = decide (o = gp)) := HFI.out
  clear HFI hfn
  go_enter Tryz.func116, Tryz.ntmps116
  go_wp2_with fail
  go_region_with (go_at_call 85; refine (HCL.out _ (Z9 _ w).drew).mono ?_; rintro e w2 ⟨rfl, w3, hb2, hrun, ho3, hg3, hlk3, hA3⟩; obtain ⟨hc2, hf2⟩ := Z2v hb2)
  all_goals
   clear hc2 hf2 hlk hA x0 x1 x2 x3 x4 hrun hb2
   go_wp2_with fail
   go_ret
   exact ⟨Z0d HR.out.symm, ho3, hg3⟩
end Go.Proofs.YtlgajongmkhcnaaGreatDoor
namespace Go.Proofs.YtlgajongmkhcnaaGreatDoor
open Go.RowKit Go.Maps
set_option linter.unusedVariables false
set_option maxRecDepth 100000
def ownB (l : Lev) (x : Lab) : Bool := decide ((x.grp.size : Int) = l.pre) && Z1s x.grp && (Z1x l.labs x.grp).isNone
def Z0J (l : Lev) (x : Lab) : List (ByteArray × ByteArray) := (x.grp, x.pre) :: if ownB l x then [(x.grp, x.grp)] else []
def Z0Q (l : Lev) (k : Nat) : List (ByteArray × ByteArray) := (l.labs.take k).flatMap (Z0J l)
def Z54 (l next : Lev) : Prop := ∀ x ∈ l.labs.flatMap (Z0J l), ∀ y ∈ l.labs.flatMap (Z0J l), x.1 = y.1 -> Z0e next x.2 = Z0e next y.2
open Classical in
noncomputable def Z0R (l next : Lev) : Bool := decide (Z54 l next)
theorem Z3S {l next : Lev} : Z0R l next = true ↔ Z54 l next := by unfold Z0R; simp
theorem Z8w {l next : Lev} (h : ¬ Z54 l next) : Z0R l next = false := by unfold Z0R; simp [h]
theorem Z5q (l : Lev) (k : Nat) (h : k < l.labs.length) : Z0Q l (k + 1) = Z0Q l k ++ Z0J l l.labs[k] := by
 unfold Z0Q; rw [Z8 h, List.flatMap_append, List.flatMap_cons, List.flatMap_nil, List.append_nil]
theorem ZaD (l : Lev) (k : Nat) : ∀ q ∈ Z0Q l k, q ∈ l.labs.flatMap (Z0J l) := by
 unfold Z0Q
 intro q hq
 rw [List.mem_flatMap] at hq ⊢
 obtain ⟨x, hx, hq⟩ := hq
 exact ⟨x, List.mem_of_mem_take hx, hq⟩
theorem Z7K (l : Lev) (k : Nat) (h : k < l.labs.length) : ∀ q ∈ Z0J l l.labs[k], q ∈ l.labs.flatMap (Z0J l) := fun q hq =>
 List.mem_flatMap.2 ⟨_, Z4 h, hq⟩
def Zbp (next : Lev) (ps : List (ByteArray × ByteArray)) (f : ByteArray -> Option ByteArray) : Prop :=
 ∀ u, (f u = none -> ∀ q ∈ ps, q.1 ≠ u) /\ ∀ g, f u = some g -> (∃ q ∈ ps, q.1 = u) /\ ∀ q ∈ ps, q.1 = u -> Z0e next q.2 = g
theorem ZfF (next : Lev) : Zbp next [] (fun _ => none) := fun u => ⟨fun _ q hq => (by cases hq), fun g h => (by cases h)⟩
theorem Z8g {next : Lev} {ps : List (ByteArray × ByteArray)} {f : ByteArray -> Option ByteArray} (h : Zbp next ps f) {name p : ByteArray} (hf : Z7n f name (Z0e next p) = true) :
 Zbp next (ps ++ [(name, p)]) (fun u => if u = name then some (Z0e next p) else f u) := by
 intro u
 dsimp only
 by_cases e : u = name
 ·subst e
  rw [if_pos rfl]
  refine ⟨fun h => (by cases h), fun g hg => ?_⟩
  injection hg with hg
  subst hg
  refine ⟨⟨_, List.mem_append_right _ (ZI.2 rfl), rfl⟩, fun q hq hqu => ?_⟩
  rcases ZG.1 hq with hq | hq
  ·unfold Z7n at hf
   cases hfu : f u with
   | none => exact absurd hqu ((h u).1 hfu q hq)
   | some o =>
    rw [hfu] at hf
    rw [((h u).2 o hfu).2 q hq hqu]
    exact of_decide_eq_true hf
  ·obtain rfl := ZI.1 hq
   rfl
 ·rw [if_neg e]
  refine ⟨fun hn q hq => ?_, fun g hg => ?_⟩
  ·rcases ZG.1 hq with hq | hq
   ·exact (h u).1 hn q hq
   ·obtain rfl := ZI.1 hq
    exact fun h => e h.symm
  ·obtain ⟨⟨q, hq, hqu⟩, h2⟩ := (h u).2 g hg
   refine ⟨⟨q, List.mem_append_left _ hq, hqu⟩, fun q hq hqu => ?_⟩
   rcases ZG.1 hq with hq | hq
   ·exact h2 q hq hqu
   ·obtain rfl := ZI.1 hq
    exact absurd hqu.symm e
theorem Zco {l next : Lev} {ps : List (ByteArray × ByteArray)} {f : ByteArray -> Option ByteArray} (h : Zbp next ps f) {name p : ByteArray} (hf : Z7n f name (Z0e next p) = false) (hs : ∀ q ∈ ps, q ∈ l.labs.flatMap (Z0J l)) (hq : (name, p) ∈ l.labs.flatMap (Z0J l)) : Z0R l next = false := by
 refine Z8w (fun hn => ?_)
 unfold Z7n at hf
 cases hfn : f name with
 | none => rw [hfn] at hf; cases hf
 | some o =>
  rw [hfn] at hf
  obtain ⟨⟨q, hq1, hq2⟩, h2⟩ := (h name).2 o hfn
  have := hn q (hs q hq1) (name, p) hq hq2
  rw [h2 q hq1 hq2] at this
  exact of_decide_eq_false hf this
theorem Ziv {l next : Lev} {f : ByteArray -> Option ByteArray} (h : Zbp next (Z0Q l l.labs.length) f) : Z0R l next = true := by
 refine Z3S.2 ?_
 have e : Z0Q l l.labs.length = l.labs.flatMap (Z0J l) := by unfold Z0Q; rw [List.take_of_length_le (Z1 _)]
 rw [e] at h
 intro x hx y hy hxy
 cases hf : f y.1 with
 | none => exact absurd hxy ((h y.1).1 hf x hx)
 | some g => rw [((h y.1).2 g hf).2 x hx hxy, ((h y.1).2 g hf).2 y hy rfl]
def Ziu (l next : Lev) (v u : Value) (w : World) (k : Nat) (wr : World) : Prop :=
 ∃ n f, OwnsSS wr (w.1.size + 2) n f /\ n <= 2 * k /\ Zbp next (Z0Q l k) f /\ Below w.1.size w wr /\ w.1.size + 4 <= wr.1.size /\
  BoxLev wr w.1.size l v /\ BoxLev wr (w.1.size + 1) next u /\ wr.cell? ⟨w.1.size + 3, 0, none⟩ = some (.map (some (w.1.size + 2)))
theorem World.grownBy_refl (w : World) (row : Option Nat) : w.grownBy w row := ⟨rfl, rfl, rfl, Z1 _, fun _ _ _ => rfl⟩
theorem Z1b {B C : Nat} {w wr w2 : World} (h : Below B w wr) (hg : wr.grownBy w2 (some C)) (hB : B <= wr.1.size) (hC : B <= C) : Below B w w2 :=
 h.grown hg hB (fun r e => by injection e with e; omega)
theorem Zft (w : World) (l : Lev) (v : Value) (T : TypeId) : BoxLev (w.alloc (.cells #[.string l.name, .int .i64 l.pre, v, .int .i64 l.min, .int .i64 l.cents] T)) w.1.size l v := by
 unfold BoxLev; simp [go_sem]
theorem BoxLev.alloc {w : World} {X : Nat} {l : Lev} {v : Value} (h : BoxLev w X l v) (o : Obj) : BoxLev (w.alloc o) X l v :=
 h.below ((Z9 _ w).alloc (Z1 _) o) (Z5e h.1)
theorem ZcW (l next : Lev) (v u : Value) (w : World) (T T2 : TypeId) (B : Nat) (hB : B = w.1.size + 1 + 1) : Ziu l next v u w 0 ((((w.alloc (.cells #[.string l.name, .int .i64 l.pre, v, .int .i64 l.min, .int .i64 l.cents] T)).alloc (.cells #[.string next.name, .int .i64 next.pre, u, .int .i64 next.min, .int .i64 next.cents] T)).alloc (.map #[] 0)).alloc (.cells #[.map (some B)] T2)) := by
 subst hB
 refine ⟨0, fun _ => none, ?_, Z1 _, ZfF _, ?_, ?_, ?_, ?_, ?_⟩
 ·have := OwnsF.made (E := 9) (enc := fun s : ByteArray => Lit.string s.data.toList) ((w.alloc (.cells #[.string l.name, .int .i64 l.pre, v, .int .i64 l.min, .int .i64 l.cents] T)).alloc (.cells #[.string next.name, .int .i64 next.pre, u, .int .i64 next.min, .int .i64 next.cents] T))
  have e : ((w.alloc (.cells #[.string l.name, .int .i64 l.pre, v, .int .i64 l.min, .int .i64 l.cents] T)).alloc (.cells #[.string next.name, .int .i64 next.pre, u, .int .i64 next.min, .int .i64 next.cents] T)).1.size = w.1.size + 2 := by simp
  rw [e] at this
  exact this.alloc _
 ·exact ((((Z9 _ w).alloc (Z1 _) _).alloc (by simp) _).alloc (by simp; omega) _).alloc (by simp; omega) _
 ·simp
 ·exact (((Zft w l v T).alloc _).alloc _).alloc _
 ·have := Zft (w.alloc (.cells #[.string l.name, .int .i64 l.pre, v, .int .i64 l.min, .int .i64 l.cents] T)) next u T
  have e : (w.alloc (.cells #[.string l.name, .int .i64 l.pre, v, .int .i64 l.min, .int .i64 l.cents] T)).1.size = w.1.size + 1 := by simp
  rw [e] at this
  exact (this.alloc _).alloc _
 ·simp [go_sem]
theorem Z4r {l next : Lev} {v u : Value} {w wr w' : World} {k n' : Nat} {f' : ByteArray -> Option ByteArray} (hB : Below w.1.size w wr) (hz : w.1.size + 4 <= wr.1.size) (hL : BoxLev wr w.1.size l v) (hN : BoxLev wr (w.1.size + 1) next u) (hA : wr.cell? ⟨w.1.size + 3, 0, none⟩ = some (.map (some (w.1.size + 2))))
 (hg : wr.grownBy w' (some (w.1.size + 2))) (ho : OwnsSS w' (w.1.size + 2) n' f') (hn : n' <= 2 * k) (hf : Zbp next (Z0Q l k) f') : Ziu l next v u w k w' :=
 ⟨n', f', ho, hn, hf, Z1b hB hg (by omega) (by omega), Nat.le_trans hz hg.size, hL.grown hg (by simp), hN.grown hg (by simp), cell_grown hg hA (by simp)⟩
theorem Zej {l : Lev} {k : Nat} (h : k < l.labs.length) (ho : ownB l l.labs[k] = false) : Z0Q l (k + 1) = Z0Q l k ++ [(l.labs[k].grp, l.labs[k].pre)] := by
 rw [Z5q l k h]; unfold Z0J; rw [ho]; rfl
theorem Zei {l : Lev} {k : Nat} (h : k < l.labs.length) (ho : ownB l l.labs[k] = true) : Z0Q l (k + 1) = (Z0Q l k ++ [(l.labs[k].grp, l.labs[k].pre)]) ++ [(l.labs[k].grp, l.labs[k].grp)] := by
 rw [Z5q l k h]; unfold Z0J; rw [ho]; simp
theorem Zek {l : Lev} {k : Nat} (h : k < l.labs.length) : (l.labs[k].grp, l.labs[k].pre) ∈ l.labs.flatMap (Z0J l) /\ (ownB l l.labs[k] = true -> (l.labs[k].grp, l.labs[k].grp) ∈ l.labs.flatMap (Z0J l)) :=
 ⟨Z7K l k h _ (by unfold Z0J; simp), fun ho => Z7K l k h _ (by unfold Z0J; rw [ho]; simp)⟩
theorem ZfO {l : Lev} {ps : List (ByteArray × ByteArray)} {q : ByteArray × ByteArray} (h : ∀ x ∈ ps, x ∈ l.labs.flatMap (Z0J l)) (hq : q ∈ l.labs.flatMap (Z0J l)) : ∀ x ∈ ps ++ [q], x ∈ l.labs.flatMap (Z0J l) := fun x hx => by
 rcases ZG.1 hx with hx | hx
 ·exact h x hx
 ·rw [ZI.1 hx]; exact hq
theorem Z9Q (l next : Lev) (v u : Value) (w : World) (hf : Z0G l) (hfn : Z0G next) (hr : RdLabs w v l.labs) (hru : RdLabs w u next.labs) (hs : Z1V l.labs) (hsn : Z1V next.labs)
 (h0 : 0 <= next.pre) (h1 : next.pre <= l.pre) (hx : ∀ x ∈ l.labs, (x.pre.size : Int) = l.pre) :
 Calls Tryz.prog 81 #[lvA l v, lvA next u] w fun e w' => e = .returned (.bool (Z0R l next)) /\ Below w.1.size w w' := by
 have hmm := @run_makeMap Tryz.prog
 obtain ⟨hn, hl, hxf⟩ := hf
 have HR := Z0 hr
 have HRU := Z0 hru
 have HXF := Z0 hxf
 have HX := Z0 hx
 have HS := Z0 hs
 have HSN := Z0 hsn
 have HFN := Z0 hfn
 have HF : Hid (Z0G l) := ⟨hn, hl, hxf⟩
 have HRES : Hid (Z0R l next = Z0R l next) := rfl
 clear hr hru hxf hx hs hsn hfn
 obtain ⟨a, cap, hv, hc⟩ := HR.out
 subst hv
 have HC := Z0 hc
 clear hc
 unfold lvA
 go_enter Tryz.func81, Tryz.ntmps81
 go_wp2_with fail
 go_loopw [16] (fun i wr => ∃ k : Nat, k <= l.labs.length /\ i = .int .i64 k /\ Ziu l next (.slice a l.labs.length cap) u w k wr) (fun i _ => l.labs.length - (intOf i).toNat)
 case atStart => exact ⟨0, ZE _, rfl, ZcW l next _ u w _ _ _ rfl⟩
 case round =>
  clear hmm
  obtain ⟨k, hk, rfl, n, f, hown, hnk, hfit, hB, hz, hL, hN, hA⟩ := hrel
  by_cases hlt : k < l.labs.length
  ·obtain ⟨g, off, rfl, hg, hcc⟩ := HC.out (by omega)
   have hgr : g < wr.1.size := by omega
   have c1 : wr.cell? ⟨g, off + k * 2, none⟩ = some (.string l.labs[k].pre) := (hB.cell (p := ⟨g, _, none⟩) hg).trans (hcc k hlt).1
   have c2 : wr.cell? ⟨g, off + k * 2 + 1, none⟩ = some (.string l.labs[k].grp) := (hB.cell (p := ⟨g, _, none⟩) hg).trans (hcc k hlt).2
   have x1 := (HXF.out _ (Z4 hlt)).1
   have x2 := (HXF.out _ (Z4 hlt)).2
   have x3 := HX.out _ (Z4 hlt)
   have P1 := Z0 (Zej hlt)
   have P2 := Z0 (Zei hlt)
   have PM := Z0 (Zek hlt)
   have PS := Z0 (ZaD l k)
   have hps : next.pre <= (l.labs[k].pre.size : Int) := by omega
   have HO : Hid (ownB l l.labs[k] = (decide ((l.labs[k].grp.size : Int) = l.pre) && Z1s l.labs[k].grp && (Z1x l.labs l.labs[k].grp).isNone)) := rfl
   have X3 := Z0 x3
   clear x3 hcc HC HX HXF
   generalize ownB l l.labs[k] = ob at P1 P2 PM HO
   generalize l.labs[k].pre = xp at c1 x1 P1 P2 PM hps X3
   generalize l.labs[k].grp = xg at c2 x2 P1 P2 PM HO
   obtain ⟨wx, hwx⟩ : ∃ wx : World, wx = wr.alloc (.cells #[.string xp, .string xg] 150) := ⟨_, rfl⟩
   have gx : wr.grownBy wx (some (w.1.size + 2)) := by rw [hwx]; exact World.grownBy_alloc _ _ _
   have HG1 : Hid (∀ W : World, Below w.1.size w W -> RdLabs W u next.labs) := fun W h => HRU.out.below h
   have F1 := Zcc next u xg xp (w.1.size + 3) (w.1.size + 1) (w.1.size + 2) n f wx (cell_grown gx hA (by simp)) (hN.grown gx (by simp)) (by rw [hwx]; exact hown.alloc _) (by omega) HFN.out (HG1.out _ (Z1b hB gx (by omega) (by omega))) HSN.out h0 hps x1 x2
   rw [hwx] at F1 gx
   clear hwx
   go_wp2_with fail
   refine F1.mono ?_
   rintro e w2 ⟨rfl, ho2, hg2⟩
   have g2 : wr.grownBy w2 (some (w.1.size + 2)) := gx.trans hg2
   have L2 := hL.grown g2 (by simp)
   have N2 := hN.grown g2 (by simp)
   have A2 := cell_grown g2 hA (by simp)
   have B2 := Z1b hB g2 (by omega) (by omega)
   have z2 := Nat.le_trans hz g2.size
   have e2 : wr.1.size < w2.1.size := ZH (by simp) hg2.size
   have d2 : w2.cell? ⟨wr.1.size, 1, none⟩ = some (.string xg) := cell_grown hg2 (by simp [go_sem]) (by simp; omega)
   clear F1 gx hg2 hL hN hA hown g2 hB hz c1 c2 hgr
   obtain ⟨l20, l21, l22, l23, l24⟩ := L2
   cases hres : Z7n f xg (Z0e next xp)
   ·have HE : Hid (Z0R l next = false) := Zco hfit hres PS.out PM.out.1
    clear ho2 hfit hres N2 A2
    go_wp2_with fail
    go_ret
    exact ⟨Z0d HE.out.symm, B2⟩
   ·have fit2 := Z8g hfit hres
    have L2 : Hid (BoxLev w2 w.1.size l (.slice (some ⟨g, off, none⟩) l.labs.length cap)) := ⟨l20, l21, l22, l23, l24⟩
    have PS2 := Z0 (ZfO PS.out PM.out.1)
    have H2 := Z0 fit2
    have HN2 := Z0 N2
    have HO2 := Z0 ho2
    clear hfit hres PS fit2 N2 ho2
    by_cases hsz : (xg.size : Int) = l.pre
    ·have hne : ((xg.size : Int) != l.pre) = false := by simpa using hsz
     have HSZ := Z0 hsz
     clear hsz
     have HPL := Z0 (fun W => Z1G xg W x2)
     cases hpl : Z1s xg
     ·have HB : Hid (Z0Q l (k + 1) = Z0Q l k ++ [(xg, xp)]) := P1.out (by rw [HO.out, hpl]; simp)
      rw [hpl] at HPL
      clear P1 P2 PM HO hpl
      go_wp2_with (go_at_call 110; refine (HPL.out _).mono ?_; rintro e w3 ⟨rfl, hb3⟩)
      have g3 := (Z0a hb3).but (some (w.1.size + 2))
      go_roundw
      case rel => exact ⟨k + 1, by omega, by go_num, Z4r B2 z2 L2 HN2.out A2 g3 (HO2.out.below hb3) (by omega) (by rw [HB.out]; exact H2.out)⟩
      case measure => simp [intOf]; omega
     ·rw [hpl] at HPL
      have hw2 : w.1.size < w2.1.size := by omega
      have HLA : Hid (∀ W, Below w2.1.size w2 W -> Calls Tryz.prog 117 #[.agg #[.string l.name, .int .i64 l.pre, .slice (some ⟨g, off, none⟩) l.labs.length cap, .int .i64 l.min, .int .i64 l.cents], .string xg] W fun e w' => e = .returned (.tuple #[.string ((Z1x l.labs xg).getD ⟨#[]⟩), .bool (Z1x l.labs xg).isSome]) /\ Below w2.1.size w2 w') := fun W hW => by
       have hbw : Below w.1.size w W := Z00 B2 (by omega) hW
       refine (Z5u l xg _ W HF.out (HR.out.below hbw) HS.out).mono ?_
       rintro e w4 ⟨rfl, hb4⟩
       exact ⟨rfl, Z00 hW hW.size hb4⟩
      cases hla : Z1x l.labs xg with
      | some y =>
       have HB : Hid (Z0Q l (k + 1) = Z0Q l k ++ [(xg, xp)]) := P1.out (by rw [HO.out, hla]; simp)
       rw [hla] at HLA
       clear P1 P2 PM HO hpl hla
       go_wp2_with (first | (go_at_call 110; refine (HPL.out _).mono ?_; rintro e w3 ⟨rfl, hb3⟩; obtain ⟨hc3, hf3⟩ := Z2v hb3) | (go_at_call 117; refine (HLA.out _ hb3).mono ?_; rintro e w4 ⟨rfl, hb4⟩))
       have g4 := (Z0a hb4).but (some (w.1.size + 2))
       go_roundw
       case rel => exact ⟨k + 1, by omega, by go_num, Z4r B2 z2 L2 HN2.out A2 g4 (HO2.out.below hb4) (by omega) (by rw [HB.out]; exact H2.out)⟩
       case measure => simp [intOf]; omega
      | none =>
       have hob : ob = true := by rw [HO.out, hla, hpl, decide_eq_true HSZ.out]; rfl
       have HB := Z0 (P2.out hob)
       have HM := Z0 (PM.out.2 hob)
       rw [hla] at HLA
       have hps2 : next.pre <= (xg.size : Int) := by have := HSZ.out; omega
       have HF2 : Hid (∀ W, Below w2.1.size w2 W -> Calls Tryz.prog 116 #[.string xg, .string xg, .pointer (some ⟨w.1.size + 3, 0, none⟩), .pointer (some ⟨w.1.size + 1, 0, none⟩)] W fun e w' => e = .returned (.bool (Z7n (fun u => if u = xg then some (Z0e next xp) else f u) xg (Z0e next xg))) /\ OwnsSS w' (w.1.size + 2) (n + 1 + 1) (fun u => if u = xg then some (Z0e next xg) else (fun u => if u = xg then some (Z0e next xp) else f u) u) /\ w2.grownBy w' (some (w.1.size + 2))) := fun W hW => by
        have hgg := (Z0a hW).but (some (w.1.size + 2))
        have hbw : Below w.1.size w W := Z00 B2 (by omega) hW
        refine (Zcc next u xg xg (w.1.size + 3) (w.1.size + 1) (w.1.size + 2) (n + 1) _ W (cell_grown hgg A2 (by simp)) (HN2.out.grown hgg (by simp)) (HO2.out.below hW) (by omega) HFN.out (HG1.out _ hbw) HSN.out h0 hps2 x2 x2).mono ?_
        rintro e w' ⟨rfl, h1, h2⟩
        exact ⟨rfl, h1, hgg.trans h2⟩
       cases hr2 : Z7n (fun u => if u = xg then some (Z0e next xp) else f u) xg (Z0e next xg)
       ·have HE : Hid (Z0R l next = false) := Zco H2.out hr2 PS2.out HM.out
        rw [hr2] at HF2
        clear P1 P2 PM HO hpl hla hr2 hob
        go_wp2_with (first | (go_at_call 110; refine (HPL.out _).mono ?_; rintro e w3 ⟨rfl, hb3⟩; obtain ⟨hc3, hf3⟩ := Z2v hb3) | (go_at_call 117; refine (HLA.out _ hb3).mono ?_; rintro e w4 ⟨rfl, hb4⟩; obtain ⟨hc4, hf4⟩ := Z2v hb4) | (go_at_call 116; refine (HF2.out _ hb4).mono ?_; rintro e w5 ⟨rfl, ho5, hg5⟩))
        go_ret
        exact ⟨Z0d HE.out.symm, Z1b B2 hg5 (by omega) (by omega)⟩
       ·have H3 := Z0 (Z8g H2.out hr2)
        rw [hr2] at HF2
        clear P1 P2 PM HO hpl hla hr2 hob
        go_wp2_with (first | (go_at_call 110; refine (HPL.out _).mono ?_; rintro e w3 ⟨rfl, hb3⟩; obtain ⟨hc3, hf3⟩ := Z2v hb3) | (go_at_call 117; refine (HLA.out _ hb3).mono ?_; rintro e w4 ⟨rfl, hb4⟩; obtain ⟨hc4, hf4⟩ := Z2v hb4) | (go_at_call 116; refine (HF2.out _ hb4).mono ?_; rintro e w5 ⟨rfl, ho5, hg5⟩))
        go_roundw
        case rel => exact ⟨k + 1, by omega, by go_num, Z4r B2 z2 L2 HN2.out A2 hg5 ho5 (by omega) (by rw [HB.out]; exact H3.out)⟩
        case measure => simp [intOf]; omega
    ·have hne : ((xg.size : Int) != l.pre) = true := by simpa using hsz
     have HB : Hid (Z0Q l (k + 1) = Z0Q l k ++ [(xg, xp)]) := P1.out (by rw [HO.out, decide_eq_false hsz]; rfl)
     clear P1 P2 PM HO hsz
     go_wp2_with fail
     go_roundw
     case rel => exact ⟨k + 1, by omega, by go_num, Z4r B2 z2 L2 HN2.out A2 (World.grownBy_refl _ _) HO2.out (by omega) (by rw [HB.out]; exact H2.out)⟩
     case measure => simp [intOf]; omega
  ·have HE : Hid (Z0R l next = true) := Ziv (f := f) (by
    obtain rfl : k = l.labs.length := by omega
    exact hfit)
   go_wp2_with fail
   go_ret
   exact ⟨Z0d HE.out.symm, hB⟩
end Go.Proofs.YtlgajongmkhcnaaGreatDoor
namespace Go.Proofs.YtlgajongmkhcnaaGreatDoor
open Go.RowKit Go.Maps
set_option linter.unusedVariables false
set_option maxRecDepth 100000
def LevAt (w : World) (g o : Nat) (l : Lev) (v : Value) : Prop :=
 w.cell? ⟨g, o, none⟩ = some (.string l.name) /\ w.cell? ⟨g, o + 1, none⟩ = some (.int .i64 l.pre) /\ w.cell? ⟨g, o + 2, none⟩ = some v /\ w.cell? ⟨g, o + 3, none⟩ = some (.int .i64 l.min) /\ w.cell? ⟨g, o + 4, none⟩ = some (.int .i64 l.cents)
theorem LevAt.below {w w' : World} {X o : Nat} {l : Lev} {v : Value} {B : Nat} (h : LevAt w X o l v) (hb : Below B w w') (hX : X < B) : LevAt w' X o l v :=
 ⟨(hb.cell (p := ⟨X, o, none⟩) hX).trans h.1, (hb.cell (p := ⟨X, o + 1, none⟩) hX).trans h.2.1, (hb.cell (p := ⟨X, o + 2, none⟩) hX).trans h.2.2.1, (hb.cell (p := ⟨X, o + 3, none⟩) hX).trans h.2.2.2.1, (hb.cell (p := ⟨X, o + 4, none⟩) hX).trans h.2.2.2.2⟩
def RdLevs (w : World) (v : Value) (ls : List Lev) : Prop :=
 ∃ a cap, v = .slice a ls.length cap /\ (0 < ls.length -> ∃ g off, a = some ⟨g, off, none⟩ /\ g < w.1.size /\ ∀ i (h : i < ls.length), ∃ sv, RdLabs w sv ls[i].labs /\ LevAt w g (off + i * 5) ls[i] sv)
theorem RdLevs.below {w w' : World} {v : Value} {ls : List Lev} (h : RdLevs w v ls) (hb : Below w.1.size w w') : RdLevs w' v ls := by
 obtain ⟨a, cap, hv, hc⟩ := h
 exact ⟨a, cap, hv, fun h0 => by
  obtain ⟨g, off, ha, hg, hcc⟩ := hc h0
  exact ⟨g, off, ha, ZH hg hb.size, fun i h => by
   obtain ⟨sv, h1, h2⟩ := hcc i h
   exact ⟨sv, h1.below hb, h2.below hb hg⟩⟩⟩
def sumTo (ls : List Lev) (k : Nat) : Nat := ((ls.take k).map (fun l => l.labs.length)).sum
theorem Z4P (ls : List Lev) (k : Nat) (h : k < ls.length) : sumTo ls (k + 1) = sumTo ls k + ls[k].labs.length := by
 unfold sumTo; rw [Z8 h, ZD, List.sum_append]; simp
theorem Z7u (ls : List Lev) {k m : Nat} (h : k <= m) : sumTo ls k <= sumTo ls m := by
 induction m with
 | zero => obtain rfl : k = 0 := (by omega); exact Z1 _
 | succ m ih =>
  by_cases e : k = m + 1
  ·subst e; exact Z1 _
  ·by_cases hm : m < ls.length
   ·rw [Z4P ls m hm]; have := ih (by omega); omega
   ·have : sumTo ls (m + 1) = sumTo ls m := by unfold sumTo; rw [List.take_of_length_le (by omega), List.take_of_length_le (by omega)]
    rw [this]; exact ih (by omega)
def Ziy (ls : List Lev) (k : Nat) : Prop := sumTo ls k <= 200 /\ (∀ i, i < k -> ∀ h : i < ls.length, Z0M ls[i] (decide (i + 1 = ls.length)) = true) /\
 (∀ i, i < k -> ∀ h : i < ls.length, ∀ j, j < i -> ∀ h' : j < ls.length, ls[j].name ≠ ls[i].name) /\ (∀ i, i < k -> ∀ h : i < ls.length, ∀ j, j + 1 = i -> ∀ h' : j < ls.length, ls[i].pre <= ls[j].pre)
def ZbI (ls : List Lev) : Prop := 1 <= ls.length /\ ls.length <= 6 /\ Ziy ls ls.length /\ ∀ i, (h : i + 1 < ls.length) -> Z0R ls[i] ls[i + 1] = true
open Classical in
noncomputable def Z0i (ls : List Lev) : Bool := decide (ZbI ls)
theorem Z0E {ls : List Lev} : Z0i ls = true ↔ ZbI ls := by unfold Z0i; simp
theorem Z1r {ls : List Lev} (h : ¬ ZbI ls) : Z0i ls = false := by unfold Z0i; simp [h]
theorem Zep {ls : List Lev} {k : Nat} (h : Ziy ls k) (hk : k < ls.length) (h1 : sumTo ls (k + 1) <= 200) (h2 : Z0M ls[k] (decide (k + 1 = ls.length)) = true) (h3 : ∀ j, j < k -> ∀ h' : j < ls.length, ls[j].name ≠ ls[k].name) (h4 : ∀ j, j + 1 = k -> ∀ h' : j < ls.length, ls[k].pre <= ls[j].pre) : Ziy ls (k + 1) := by
 obtain ⟨a, b, c, d⟩ := h
 refine ⟨h1, fun i hi h => ?_, fun i hi h => ?_, fun i hi h => ?_⟩
 all_goals by_cases e : i = k
 ·subst e; exact h2
 ·exact b i (by omega) h
 ·subst e; exact h3
 ·exact c i (by omega) h
 ·subst e; exact h4
 ·exact d i (by omega) h
theorem Z3T {l : Lev} {b : Bool} (h : Z0M l b = true) : Z1V l.labs /\ (∀ x ∈ l.labs, (x.pre.size : Int) = l.pre) /\ 0 <= l.pre /\ l.pre <= 10 := by
 obtain ⟨hh, hr⟩ := Z13.1 h
 obtain ⟨_, h1, h2, _, _⟩ := Z1H hh
 cases b
 ·simp only [Bool.false_eq_true, if_false] at hr
  obtain ⟨_, hl⟩ := hr
  refine ⟨fun i hi => (hl (i + 1) hi hi).2 i rfl (by omega), fun x hx => ?_, h1, h2⟩
  obtain ⟨i, hi, rfl⟩ := List.mem_iff_getElem.1 hx
  have := (hl i hi hi).1
  unfold Z6B at this
  simp at this
  exact this.1.1
 ·simp only [if_true] at hr
  have : l.labs = [] := List.length_eq_zero_iff.1 hr.2.2
  rw [this]
  exact ⟨fun i hi => by simp at hi, by simp, h1, h2⟩
def Zbo (ls : List Lev) (k : Nat) (f : ByteArray -> Option Bool) : Prop := ∀ u, (f u = none /\ ∀ j, j < k -> ∀ h : j < ls.length, ls[j].name ≠ u) \/ (f u = some true /\ ∃ j, j < k /\ ∃ h : j < ls.length, ls[j].name = u)
theorem Zae {ls : List Lev} {k : Nat} {f : ByteArray -> Option Bool} (h : Zbo ls k f) (hk : k < ls.length) : Zbo ls (k + 1) (fun u => if u = ls[k].name then some true else f u) := by
 intro u
 dsimp only
 by_cases e : u = ls[k].name
 ·rw [if_pos e]; exact .inr ⟨rfl, k, by omega, hk, e.symm⟩
 ·rw [if_neg e]
  rcases h u with ⟨h1, h2⟩ | ⟨h1, j, hj, hj', h2⟩
  ·refine .inl ⟨h1, fun j hj h' => ?_⟩
   by_cases e' : j = k
   ·subst e'; exact fun h => e h.symm
   ·exact h2 j (by omega) h'
  ·exact .inr ⟨h1, j, by omega, hj', h2⟩
abbrev OwnsSB := OwnsF 4 Lit.bool
theorem OwnsF.drewN {α : Type} {E : TypeId} {enc : α -> Lit} {w : World} {B n : Nat} {f : ByteArray -> Option α} (h : OwnsF E enc w B n f) (q : Nat) : OwnsF E enc (w.drewN q) B n f :=
 h.kept (Z0a (below_drewN (Z9 _ _) q)) (by simp)
theorem Z27 {α : Type} {E : TypeId} {enc : α -> Lit} {val : α -> Value} {ok : α -> Prop} {z0 : α} (L : ElemLaw E α enc val ok z0) (w : World) {ops : Array Oper} {rest : List Oper} {o : Oper} {a : Act} {Q : Exit -> Act -> World -> Prop}
 (hg : o.guard = none) (m x v : Operand) (t : TypeId) (hop : o.op = Op.mapUpdate t m x v) (ht : Tryz.prog.underlying t = some (.map 9 E)) (B n : Nat) (f : ByteArray -> Option α)
 (hm : a.eval m = .map (some B)) (hown : OwnsF E enc w B n f) (hn : n < maxLen) (s : ByteArray) (hs : s.size <= maxLen) (hx : a.eval x = .string s) (y : α) (hy : ok y) (hv : a.eval v = val y)
 (hK : ∀ w', OwnsF E enc w' B (n + 1) (fun u => if u = s then some y else f u) -> w.grownBy w' (some B) -> wpList Tryz.prog ops Q rest (a.put o.dst undef) w') : wpList Tryz.prog ops Q (o :: rest) a w := by
 refine wpList_plain hg fun K' hK' => ?_
 obtain ⟨w', hrun, r1, r2⟩ := hown.update L ht hn hs hy
 unfold Oper.wp
 simp [execOp, hop, hm, hx, hv, hrun, Result.andThen]
 exact hK' _ _ (hK w' r1 r2)
end Go.Proofs.YtlgajongmkhcnaaGreatDoor
namespace Go.Proofs.YtlgajongmkhcnaaGreatDoor
open Go.RowKit Go.Maps
set_option linter.unusedVariables false
set_option maxRecDepth 100000
theorem Z8t {ls : List Lev} {k : Nat} (hk : k < ls.length) (h : 200 < sumTo ls (k + 1)) : Z0i ls = false :=
 Z1r (fun h' => by have := h'.2.2.1.1; have := Z7u ls (show k + 1 <= ls.length from hk); omega)
theorem Z7j {ls : List Lev} {k j : Nat} (hk : k < ls.length) (hj : j < k) (h : (ls[j]'(by omega)).name = ls[k].name) : Z0i ls = false :=
 Z1r (fun h' => h'.2.2.1.2.2.1 k hk hk j hj (by omega) h)
theorem Z6o {ls : List Lev} {k : Nat} (hk : k < ls.length) (h : Z0M ls[k] (decide (k + 1 = ls.length)) = false) : Z0i ls = false :=
 Z1r (fun h' => by have := h'.2.2.1.2.1 k hk hk; rw [h] at this; cases this)
theorem Z8u {ls : List Lev} {j : Nat} (hk : j + 1 < ls.length) (h : ls[j].pre < ls[j + 1].pre) : Z0i ls = false :=
 Z1r (fun h' => by have := h'.2.2.1.2.2.2 (j + 1) hk hk j rfl (by omega); omega)
theorem Z7i {ls : List Lev} {j : Nat} (hk : j + 1 < ls.length) (h : Z0R ls[j] ls[j + 1] = false) : Z0i ls = false :=
 Z1r (fun h' => by have := h'.2.2.2 j hk; rw [h] at this; cases this)
def Zhi (ls : List Lev) (k : Nat) : Prop := ∀ i, i < k -> ∀ h : i + 1 < ls.length, Z0R ls[i] ls[i + 1] = true
theorem ZcH (ls : List Lev) (v : Value) (w : World) (hr : RdLevs w v ls) (hf : ∀ l ∈ ls, Z0G l) (h1 : 1 <= ls.length) (h6 : ls.length <= 6) :
 Calls Tryz.prog 39 #[v] w fun e w' => e = .returned (.bool (Z0i ls)) /\ Below w.1.size w w' := by
 have hmm := @run_makeMap Tryz.prog
 have HRD := Z0 hr
 obtain ⟨a, cap, rfl, hc⟩ := hr
 obtain ⟨g, off, rfl, hg, hcc⟩ := hc (by omega)
 have HC := Z0 hcc
 have HF := Z0 hf
 have HRB : Hid (Z0i ls = true -> Z0i ls = true) := fun h => h
 clear hcc hf hc
 go_enter Tryz.func39, Tryz.ntmps39
 go_wp2_with fail
 go_loopw [3, 19] (fun s i wr => ∃ k : Nat, k <= ls.length /\ i = .int .i64 k /\ s = .int .i64 (sumTo ls k : Nat) /\ Hid (Ziy ls k) /\ Below w.1.size w wr /\ ∃ n f, OwnsSB wr w.1.size n f /\ n <= k /\ Hid (Zbo ls k f)) (fun _ i _ => ls.length - (intOf i).toNat)
 case atStart =>
  exact ⟨0, ZE _, rfl, rfl, ⟨ZE _, fun i h => by omega, fun i h => by omega, fun i h => by omega⟩, (Z9 _ w).alloc (Z1 _) _, 0, fun _ => none, OwnsF.made w, Z1 _, fun u => .inl ⟨rfl, fun j h => by omega⟩⟩
 case round =>
  clear hmm
  obtain ⟨k, hk, rfl, rfl, hok, hB, n, f, hown, hnk, hnm⟩ := hrel
  by_cases hlt : k < ls.length
  ·obtain ⟨sv, hlab, hat⟩ := HC.out k hlt
   have hgr : g < wr.1.size := ZH hg hB.size
   have hwz : w.1.size < wr.1.size := hown.lt
   have hat' := hat.below hB hg
   obtain ⟨t0, t1, t2, t3, t4⟩ := hat'
   have hlf := HF.out _ (Z4 hlt)
   have hS := Z4P ls k hlt
   have N1 := Z0 (Z8t hlt)
   have N2 : Hid (∀ j (hj : j < k), (ls[j]'(by omega)).name = ls[k].name -> Z0i ls = false) := fun j hj h => Z7j hlt hj h
   have N3 := Z0 (Z6o hlt)
   have hnames : (f ls[k].name = none /\ Hid (∀ j, j < k -> ∀ h' : j < ls.length, ls[j].name ≠ ls[k].name)) \/ (f ls[k].name = some true /\ Hid (Z0i ls = false)) := by
    rcases hnm.out ls[k].name with ⟨e1, e2⟩ | ⟨e1, j, hj, hj', e2⟩
    ·exact .inl ⟨e1, e2⟩
    ·exact .inr ⟨e1, N2.out j hj e2⟩
   have NN := Z0 (Zae hnm.out hlt)
   have OK := Z0 (Zep hok.out hlt)
   have hprev : Hid (∀ j, j + 1 = k -> ∃ q : Int, w.cell? ⟨g, off + j * 5 + 1, none⟩ = some (.int .i64 q) /\ (q < ls[k].pre -> Z0i ls = false) /\ (ls[k].pre <= q -> ∀ j, j + 1 = k -> ∀ h' : j < ls.length, ls[k].pre <= ls[j].pre)) := fun j hj => by
    subst hj
    obtain ⟨sv', _, hat2⟩ := HC.out j (by omega)
    exact ⟨ls[j].pre, hat2.2.1, fun h => Z8u hlt h, fun h i hi _ => by
     obtain rfl : i = j := by omega
     exact h⟩
   have hsl : sumTo ls k <= 200 := hok.out.1
   clear hok hnm hat HC HF HRD
   have hw1 : w.1.size <= wr.1.size := Nat.le_of_lt hwz
   have hlt2 : ((k : Int) == (ls.length : Int) - 1) = decide (k + 1 = ls.length) := by rw [Bool.eq_iff_iff]; simp; omega
   generalize decide (k + 1 = ls.length) = lastB at hlt2 N3 OK
   obtain ⟨sk, hsk⟩ : ∃ x, sumTo ls k = x := ⟨_, rfl⟩
   rw [hsk] at hS hsl ⊢
   clear hsk
   generalize ls[k] = l at t0 t1 t2 t3 t4 hlab hlf hS N3 hnames NN OK hprev
   have hll := hlf.2.1
   have hln := hlf.1
   by_cases hsum : 200 < sk + l.labs.length
   ·have HE := Z0 (N1.out (by omega))
    clear N1 N2 N3 NN OK hprev hnames hS
    obtain ⟨la, lc, rfl, _⟩ := hlab
    go_wp2_with fail
    go_ret
    exact ⟨Z0d HE.out.symm, hB.alloc hw1 _⟩
   ·have hsum' : sk + l.labs.length <= 200 := by omega
    have HS := Z0 hS
    have hlk := (hown.alloc (.cells #[.string l.name, .int .i64 l.pre, sv, .int .i64 l.min, .int .i64 l.cents] 63)).look Z3s Tryz.underlying174 hln
    have HLAB := Z0 hlab
    obtain ⟨la, lc, rfl, _⟩ := hlab
    clear hsum hS N1 N2
    rcases hnames with ⟨hn0, HNN⟩ | ⟨hn0, HE⟩
    ·rw [hn0] at hlk
     clear hn0
     have HIL := Z0 (ZaY l (.slice la l.labs.length lc) lastB (wr.alloc (.cells #[.string l.name, .int .i64 l.pre, .slice la l.labs.length lc, .int .i64 l.min, .int .i64 l.cents] 63)) hlf (HLAB.out.below (hB.alloc hw1 _)))
     unfold lvA at HIL
     cases hlev : Z0M l lastB
     ·have HE := Z0 (N3.out hlev)
      rw [hlev] at HIL
      clear N3 NN OK hprev hlev
      go_wp2_with (go_at_call 80; refine HIL.out.mono ?_; rintro e w2 ⟨rfl, hb2⟩)
      go_ret
      exact ⟨Z0d HE.out.symm, Z0k hB hw1 hb2⟩
     ·rw [hlev] at HIL
      have OK2 := Z0 (fun a c => OK.out a hlev HNN.out c)
      clear N3 OK hlev
      go_wp2_with (go_at_call 80; refine HIL.out.mono ?_; rintro e w2 ⟨rfl, hb2⟩)
      have B2 : Below w.1.size w w2 := Z0k hB hw1 hb2
      have b0 : w2.cell? ⟨wr.1.size, 0, none⟩ = some (.string l.name) := (hb2.cell (p := ⟨wr.1.size, 0, none⟩) (by simp)).trans (by simp [go_sem])
      have b1 : w2.cell? ⟨wr.1.size, 1, none⟩ = some (.int .i64 l.pre) := (hb2.cell (p := ⟨wr.1.size, 1, none⟩) (by simp)).trans (by simp [go_sem])
      have z2 : wr.1.size < w2.1.size := ZH (by simp) hb2.size
      have own2 := (hown.alloc (.cells #[.string l.name, .int .i64 l.pre, .slice la l.labs.length lc, .int .i64 l.min, .int .i64 l.cents] 63)).below hb2
      have SK : Hid (sumTo ls (k + 1) <= 200) := by rw [HS.out]; exact hsum'
      have se : Value.int .i64 ((sk : Int) + (l.labs.length : Int)) = .int .i64 (sumTo ls (k + 1) : Nat) := by rw [HS.out]; simp
      have SE := Z0 se
      clear se
      clear hb2 hown HIL HLAB hlk hlf t0 t1 t2 t3 t4 HS hlt2
      by_cases k0 : 0 < k
      ·obtain ⟨q, hq, hq1, hq2⟩ := hprev.out (k - 1) (by omega)
       have d1 : w2.cell? ⟨g, off + (k - 1) * 5 + 1, none⟩ = some (.int .i64 q) := (B2.cell (p := ⟨g, off + (k - 1) * 5 + 1, none⟩) hg).trans hq
       have HQ1 := Z0 hq1
       have HQ2 := Z0 hq2
       clear hq1 hq2 hprev hq
       have hd1 : decide (0 < k) = true := by simpa using k0
       have hd2 : decide ((0 : Int) < (k : Int)) = true := by simp; omega
       have hv2 : 0 <= (k : Int) - 1 := by omega
       have hv3 : ((k : Int) - 1).toNat = k - 1 := by omega
       have hv4 : (k : Int) - 1 < (ls.length : Int) := by omega
       have hv5 : 1 <= k := by omega
       have hv6 : k - 1 < ls.length := by omega
       have hv1 : IntKind.i64.wrap ((k : Int) - 1) = (k : Int) - 1 := IntWalk.i64_in _ (by omega)
       by_cases hlp : q < l.pre
       ·have HE := Z0 (HQ1.out hlp)
        go_quiet (fail)
        clear hv1
        go_wp2_with fail
        go_ret
        exact ⟨Z0d HE.out.symm, below_drewN B2 _⟩
       ·have HE := Z0 (OK2.out SK.out (HQ2.out (by omega)))
        go_quiet (fail)
        clear hv1
        go_wp2_with (at_mapUpdate; refine Z27 Z3s _ rfl _ _ _ 174 rfl Tryz.underlying174 w.1.size n f rfl (own2.drewN _) (by unfold maxLen; omega) l.name hln rfl true trivial rfl ?_; intro w3 ho3 hg3)
        go_roundw
        case rel => exact ⟨k + 1, by omega, by go_num, SE.out, HE, Z1b (below_drewN B2 _) hg3 B2.size (Z1 _), n + 1, _, ho3, by omega, NN⟩
        case measure => simp [intOf]; omega
      ·have hd1 : decide (0 < k) = false := by simp; omega
       have hd2 : decide ((0 : Int) < (k : Int)) = false := by simp; omega
       have HE := Z0 (OK2.out SK.out (fun j hj => by omega))
       clear OK2 hprev
       go_quiet (fail)
       go_wp2_with (at_mapUpdate; refine Z27 Z3s _ rfl _ _ _ 174 rfl Tryz.underlying174 w.1.size n f rfl (own2.drewN _) (by unfold maxLen; omega) l.name hln rfl true trivial rfl ?_; intro w3 ho3 hg3)
       go_roundw
       case rel => exact ⟨k + 1, by omega, by go_num, SE.out, HE, Z1b (below_drewN B2 _) hg3 B2.size (Z1 _), n + 1, _, ho3, by omega, NN⟩
       case measure => simp [intOf]; omega
    ·rw [hn0] at hlk
     clear hn0 N3 NN OK hprev
     go_wp2_with fail
     go_ret
     exact ⟨Z0d HE.out.symm, hB.alloc hw1 _⟩
  ·have hke : k = ls.length := by omega
   have hok' : Ziy ls ls.length := hke ▸ hok.out
   have HOK := Z0 hok'
   clear hok hok' hke hnm hown hnk
   obtain ⟨wo, hwo⟩ : ∃ wo : World, wo = wr := ⟨_, rfl⟩
   have BO : Below w.1.size w wo := by rw [hwo]; exact hB
   clear hB
   subst hwo
   go_wp2_with fail
   go_loopw [67] (fun i wr => ∃ j : Nat, j + 1 <= ls.length /\ i = .int .i64 j /\ Hid (Zhi ls j) /\ Below w.1.size w wr) (fun i _ => ls.length - (intOf i).toNat)
   case atStart => exact ⟨0, h1, rfl, fun i h => by omega, BO⟩
   case round =>
    obtain ⟨j, hj, rfl, hnt, hB⟩ := hrel
    by_cases hlt2 : j + 1 < ls.length
    ·obtain ⟨sv, hlab, hat⟩ := HC.out j (by omega)
     obtain ⟨su, hlab2, hat2⟩ := HC.out (j + 1) hlt2
     obtain ⟨f1, f2, f3, f4⟩ := Z3T (HOK.out.2.1 j (by omega) (by omega))
     obtain ⟨k1, k2, k3, k4⟩ := Z3T (HOK.out.2.1 (j + 1) hlt2 hlt2)
     have hpm := HOK.out.2.2.2 (j + 1) hlt2 hlt2 j rfl (by omega)
     have HIN : Hid (∀ W, Below w.1.size w W -> Calls Tryz.prog 81 #[lvA ls[j] sv, lvA ls[j + 1] su] W fun e w' => e = .returned (.bool (Z0R ls[j] ls[j + 1])) /\ Below w.1.size w w') := fun W hW => by
      refine (Z9Q ls[j] ls[j + 1] sv su W (HF.out _ (Z4 _)) (HF.out _ (Z4 _)) (hlab.below hW) (hlab2.below hW) f1 k1 k3 hpm f2).mono ?_
      rintro e w' ⟨rfl, hb⟩
      exact ⟨rfl, Z00 hW hW.size hb⟩
     obtain ⟨t0, t1, t2, t3, t4⟩ := hat.below hB hg
     obtain ⟨s0, s1, s2, s3, s4⟩ := hat2.below hB hg
     have NF := Z0 (Z7i hlt2)
     have NT : Hid (Z0R ls[j] ls[j + 1] = true -> Zhi ls (j + 1)) := fun h i hi h' => by
      by_cases e : i = j
      ·subst e; exact h
      ·exact hnt.out i (by omega) h'
     clear hlab hlab2 hat hat2 f1 f2 f3 f4 k1 k2 k3 k4 hpm HC HF HRD hnt HOK
     unfold lvA at HIN
     generalize ls[j] = l at t0 t1 t2 t3 t4 HIN NF NT
     generalize ls[j + 1] = m at s0 s1 s2 s3 s4 HIN NF NT
     cases hne : Z0R l m
     ·rw [hne] at HIN
      have HE := Z0 (NF.out hne)
      clear NF NT hne
      go_wp2_with fail
      have hv2 : 0 <= (j : Int) + 1 := by omega
      have hv3 : ((j : Int) + 1).toNat = j + 1 := by omega
      have hv4 : (j : Int) + 1 < (ls.length : Int) := by omega
      have hv1 : IntKind.i64.wrap ((j : Int) + 1) = (j : Int) + 1 := IntWalk.i64_in _ (by omega)
      go_region_with (go_at_call 81; refine (HIN.out _ hB.drew).mono ?_; rintro e w2 ⟨rfl, hb2⟩)
      all_goals
       clear hv1
       go_wp2_with fail
       go_ret
       exact ⟨Z0d HE.out.symm, hb2⟩
     ·rw [hne] at HIN
      have HE := Z0 (NT.out hne)
      clear NF NT hne
      go_wp2_with fail
      have hv2 : 0 <= (j : Int) + 1 := by omega
      have hv3 : ((j : Int) + 1).toNat = j + 1 := by omega
      have hv4 : (j : Int) + 1 < (ls.length : Int) := by omega
      have hv1 : IntKind.i64.wrap ((j : Int) + 1) = (j : Int) + 1 := IntWalk.i64_in _ (by omega)
      go_region_with (go_at_call 81; refine (HIN.out _ hB.drew).mono ?_; rintro e w2 ⟨rfl, hb2⟩)
      all_goals
       clear hv1
       go_wp2_with fail
       go_roundw
       case rel => exact ⟨j + 1, by omega, by go_num, HE, hb2⟩
       case measure => simp [intOf]; omega
    ·have HE : Hid (Z0i ls = true) := Z0E.2 ⟨h1, h6, HOK.out, fun i h => hnt.out i (by omega) h⟩
     go_wp2_with fail
     go_ret
     exact ⟨Z0d HE.out.symm, hB⟩
theorem Z29 (ls : List Lev) (v : Value) (w : World) (hr : RdLevs w v ls) (hf : ∀ l ∈ ls, Z0G l) (hl : ls.length <= maxLen) :
 Calls Tryz.prog 39 #[v] w fun e w' => e = .returned (.bool (Z0i ls)) /\ Below w.1.size w w' := by
 unfold maxLen at hl
 by_cases h : 1 <= ls.length /\ ls.length <= 6
 ·exact ZcH ls v w hr hf h.1 h.2
 ·have HE : Hid (Z0i ls = false) := Z1r (fun h' => h ⟨h'.1, h'.2.1⟩)
  have h' : ls.length < 1 \/ 6 < ls.length := by omega
  obtain ⟨a, cap, rfl, hc⟩ := hr
  clear h hc hf
  rcases h' with h | h
  all_goals
   go_enter Tryz.func39, Tryz.ntmps39
   go_wp2_with fail
   go_ret
   exact ⟨Z0d HE.out.symm, Z9 _ _⟩
end Go.Proofs.YtlgajongmkhcnaaGreatDoor
namespace Go.Proofs.YtlgajongmkhcnaaGreatDoor
open Go.RowKit
set_option maxRecDepth 100000
structure Stp where
 grams : Int
 cents : List Int
structure Rat where
 cls : Int
 steps : List Stp
 bar : Int
structure Zn where
 fr : ByteArray
 till : ByteArray
 zone : Int
structure Tar where
 rates : List Rat
 zones : List Zn
def Z5D (p s : ByteArray) : Bool := Lib.hasPrefix s.data.toList p.data.toList
def ZjF : Zn := ⟨⟨#[]⟩, ⟨#[]⟩, 0⟩
def Z1y (fr till : ByteArray) (best row : Zn) : Zn :=
 if Z5D row.fr fr && Z5D row.till till then (if best.zone = 0 \/ best.fr.size < row.fr.size \/ (row.fr.size = best.fr.size /\ best.till.size < row.till.size) then row else best) else best
def Z2x (rows : List Zn) (fr till : ByteArray) (k : Nat) : Zn := (rows.take k).foldl (Z1y fr till) ZjF
def Z4L (rows : List Zn) (fr till : ByteArray) : Int := (Z2x rows fr till rows.length).zone
theorem Z5X (rows : List Zn) (fr till : ByteArray) (k : Nat) (h : k < rows.length) : Z2x rows fr till (k + 1) = Z1y fr till (Z2x rows fr till k) rows[k] := by
 unfold Z2x; rw [Z8 h, List.foldl_append]; rfl
def ixF {α : Type} (f : α -> Bool) (l : List α) : Int := if l.any f = true then (l.findIdx f : Nat) else -1
theorem Zhk {α : Type} {f : α -> Bool} {l : List α} {q : Nat} (h : q < l.length) (hq : f l[q] = true) (hn : ∀ i (hi : i < l.length), i < q -> f l[i] = false) : ixF f l = (q : Int) := by
 unfold ixF
 rw [if_pos (List.any_eq_true.2 ⟨_, Z4 h, hq⟩), (List.findIdx_eq h).2 ⟨hq, fun j hj => by rw [hn j (by omega) hj]⟩]
theorem Zc3 {α : Type} {f : α -> Bool} {l : List α} (hn : ∀ i (hi : i < l.length), f l[i] = false) : ixF f l = -1 := by
 unfold ixF
 rw [if_neg]
 rw [List.any_eq_true]
 rintro ⟨x, hx, hf⟩
 obtain ⟨i, hi, rfl⟩ := List.getElem_of_mem hx
 rw [hn i hi] at hf
 cases hf
theorem Z9N {α : Type} (f : α -> Bool) (l : List α) : (ixF f l = -1 /\ ∀ i (hi : i < l.length), f l[i] = false) \/ ∃ q : Nat, ∃ h : q < l.length, ixF f l = q /\ f l[q] = true := by
 by_cases h : l.any f = true
 ·right
  obtain ⟨x, hx, hf⟩ := List.any_eq_true.1 h
  have hlt : l.findIdx f < l.length := List.findIdx_lt_length_of_exists ⟨x, hx, hf⟩
  exact ⟨l.findIdx f, hlt, by unfold ixF; rw [if_pos h], List.findIdx_getElem (w := hlt)⟩
 ·left
  have hn : ∀ i (hi : i < l.length), f l[i] = false := fun i hi => by
   cases hc : f l[i]
   ·rfl
   ·exact absurd (List.any_eq_true.2 ⟨_, Z4 hi, hc⟩) h
  exact ⟨Zc3 hn, hn⟩
def stepOf (steps : List Stp) (g : Int) : Int := ixF (fun s : Stp => decide (g <= s.grams)) steps
def Z5w (s : Stp) (z : Int) : Int := s.cents.getD (z - 1).toNat 0
def Z4f (r : Rat) (z g : Int) : Int × Int := if stepOf r.steps g < 0 then (0, 3) else (Z5w (r.steps.getD (stepOf r.steps g).toNat ⟨0, []⟩) z, 0)
structure RatOk (z : Nat) (r : Rat) : Prop where
 some_ : 1 <= r.steps.length /\ r.steps.length <= 20
 bar : 0 <= r.bar /\ r.bar <= 1000000
 up : ∀ i, i < r.steps.length -> (if i = 0 then 0 else (r.steps.getD (i - 1) ⟨0, []⟩).grams) < (r.steps.getD i ⟨0, []⟩).grams /\ (r.steps.getD i ⟨0, []⟩).grams <= 50000
 cents : ∀ s ∈ r.steps, s.cents.length = z /\ ∀ c ∈ s.cents, 0 <= c /\ c <= 1000000
structure TarOk (z : Nat) (T : Tar) : Prop where
 zn : 1 <= z /\ z <= 20
 rates : 1 <= T.rates.length /\ T.rates.length <= 20
 zones : 1 <= T.zones.length /\ T.zones.length <= 500
 first : ∀ r, T.rates[0]? = some r -> ∀ s, r.steps[0]? = some s -> s.cents.length = z
 rate : ∀ r ∈ T.rates, 1 <= r.cls /\ r.cls <= 255 /\ RatOk z r
 apart : T.rates.Pairwise (fun a b => a.cls ≠ b.cls)
 row : ∀ r ∈ T.zones, (r.fr.size = 0 \/ Z0C r.fr = true) /\ (r.till.size = 0 \/ Z0C r.till = true) /\ 1 <= r.zone /\ r.zone <= z
 rows : T.zones.Pairwise (fun a b => ¬ (a.fr = b.fr /\ a.till = b.till))
 all : ∃ r ∈ T.zones, r.fr.size = 0 /\ r.till.size = 0
theorem Z9l {p : ByteArray} (h : p.size = 0) (s : ByteArray) : Z5D p s = true := by
 have e : p = ⟨#[]⟩ := by
  cases p with
  | mk d =>
   have : d.size = 0 := h
   rw [Array.size_eq_zero_iff] at this
   rw [this]
 subst e
 rfl
structure FitT (lo hb hc : Int) (T : Tar) (ls : List Lev) : Prop where
 num : 0 <= lo /\ lo <= 1000000 /\ 0 <= hc /\ hb + hc <= lo
 cents : ∀ r ∈ T.rates, ∀ s ∈ r.steps, ∀ c ∈ s.cents, lo <= c
 bar : ∀ r ∈ T.rates, r.bar <= hb
 lev : ∀ l ∈ ls, 0 <= l.cents /\ l.cents <= hc
end Go.Proofs.YtlgajongmkhcnaaGreatDoor
namespace Go.Proofs.YtlgajongmkhcnaaGreatDoor
open Go.RowKit Go.Maps Go.WideMaps
set_option maxRecDepth 100000
structure KeyEnc (kt : TypeId) (κ : Type) (kv : κ -> Value) (okk : κ -> Prop) (kl : κ -> Lit) : Prop where
 keyed : Keyed Tryz.prog kt
 key : ∀ x, okk x -> keyOf Tryz.prog kt (kv x) = some (kl x)
 inj : ∀ x y, okk x -> okk y -> kl x = kl y -> x = y
def OwnsK {κ α : Type} (kt E : TypeId) (okk : κ -> Prop) (kl : κ -> Lit) (enc : α -> Lit) (w : World) (B n : Nat) (f : κ -> Option α) : Prop :=
 ∃ D : DataW Unit, w.ownsMap Tryz.prog kt (plainElem Tryz.prog E) B n D /\ ∀ s, okk s -> (f s = none -> Maps.has D (kl s) = false) /\ ∀ x, f s = some x -> Maps.has D (kl s) = true /\ ∀ zd, D.atKey (kl s) zd = .lit (enc x)
section
variable {κ α : Type} {kt E : TypeId} {kv : κ -> Value} {okk : κ -> Prop} {kl : κ -> Lit} {enc : α -> Lit} {val : α -> Value} {ok : α -> Prop} {z0 : α} {w w' : World} {B n : Nat} {f : κ -> Option α}
theorem OwnsK.made (w : World) : OwnsK kt E okk kl enc (w.alloc (.map #[] 0)) w.1.size 0 (fun _ => none) :=
 ⟨.map [], World.ownsMap_made _ _ _ _, fun s _ => ⟨fun _ => rfl, fun x h => by cases h⟩⟩
theorem OwnsK.kept {row : Option Nat} (h : OwnsK kt E okk kl enc w B n f) (hg : w.grownBy w' row) (hne : some B ≠ row) : OwnsK kt E okk kl enc w' B n f := by
 obtain ⟨D, hD, hf⟩ := h
 exact ⟨D, hD.kept hg hne, hf⟩
theorem OwnsK.below (h : OwnsK kt E okk kl enc w B n f) (hb : Below w.1.size w w') : OwnsK kt E okk kl enc w' B n f := h.kept (Z0a hb) (by simp)
theorem OwnsK.lt (h : OwnsK kt E okk kl enc w B n f) : B < w.1.size := by obtain ⟨D, hD, _⟩ := h; exact hD.lt
theorem OwnsK.look (K : KeyEnc kt κ kv okk kl) (L : ElemLaw E α enc val ok z0) (h : OwnsK kt E okk kl enc w B n f) {t : TypeId} (ht : Tryz.prog.underlying t = some (.map kt E)) {s : κ} (hs : okk s) :
 (Instr.lookup t (.map (some B)) (kv s) false).run Tryz.prog w = .ok (val ((f s).getD z0)) w := by
 obtain ⟨D, hD, hf⟩ := h
 obtain ⟨v, ps, hrun, hv⟩ := hD.lookup K.keyed ht (L.zero w) (L.lay z0 L.okz) (K.key s hs)
 rw [hrun]
 obtain ⟨h1, h2⟩ := hf s hs
 cases hfs : f s with
 | none =>
  have := h1 hfs
  rw [atKey_of_not_has this] at hv
  rw [L.inv _ _ _ hv]
  rfl
 | some x =>
  rw [(h2 x hfs).2] at hv
  rw [L.inv _ _ _ hv]
  rfl
theorem OwnsK.update (K : KeyEnc kt κ kv okk kl) (L : ElemLaw E α enc val ok z0) (h : OwnsK kt E okk kl enc w B n f) {t : TypeId} (ht : Tryz.prog.underlying t = some (.map kt E)) (hn : n < maxLen) {s : κ} (hs : okk s) {x : α} (hx : ok x) {g : κ -> Option α} (hg1 : g s = some x) (hg2 : ∀ u, u ≠ s -> g u = f u) :
 ∃ w', (Instr.mapUpdate t (.map (some B)) (kv s) (val x)).run Tryz.prog w = .ok () w' /\ OwnsK kt E okk kl enc w' B (n + 1) g /\ w.grownBy w' (some B) := by
 obtain ⟨D, hD, hf⟩ := h
 obtain ⟨w', hrun, h1, h2⟩ := hD.update K.keyed ht hn (K.key s hs) (L.lay x hx)
 refine ⟨w', hrun, ⟨_, h1, fun u hu => ?_⟩, h2⟩
 have hm := hD.isMap
 have hk : WideAt.IsKeyLit (kl s) := K.keyed.key (K.key s hs)
 by_cases e : u = s
 ·subst e
  rw [hg1]
  exact ⟨fun h => (by cases h), fun y hy => by
   injection hy with hy
   subst hy
   exact ⟨has_put_same hm hk _, fun zd => atKey_put_same hm hk _ zd⟩⟩
 ·rw [hg2 u e]
  have hne : kl u ≠ kl s := fun h => e (K.inj u s hu hs h)
  exact ⟨fun h => by rw [<- (hf u hu).1 h]; exact has_put_other hne _, fun y hy => ⟨by rw [<- ((hf u hu).2 y hy).1]; exact has_put_other hne _, fun zd => by rw [<- ((hf u hu).2 y hy).2 zd]; exact atKey_put_other hne _ _⟩⟩
theorem Z3a (K : KeyEnc kt κ kv okk kl) (L : ElemLaw E α enc val ok z0) (w : World) {ops : Array Oper} {rest : List Oper} {o : Oper} {a : Act} {Q : Exit -> Act -> World -> Prop}
 (hg : o.guard = none) (m x v : Operand) (t : TypeId) (hop : o.op = Op.mapUpdate t m x v) (ht : Tryz.prog.underlying t = some (.map kt E)) (B n : Nat) (f g : κ -> Option α)
 (hm : a.eval m = .map (some B)) (hown : OwnsK kt E okk kl enc w B n f) (hn : n < maxLen) (s : κ) (hs : okk s) (hx : a.eval x = kv s) (y : α) (hy : ok y) (hv : a.eval v = val y) (hg1 : g s = some y) (hg2 : ∀ u, u ≠ s -> g u = f u)
 (hK : ∀ w', OwnsK kt E okk kl enc w' B (n + 1) g -> w.grownBy w' (some B) -> wpList Tryz.prog ops Q rest (a.put o.dst undef) w') : wpList Tryz.prog ops Q (o :: rest) a w := by
 refine wpList_plain hg fun K' hK' => ?_
 obtain ⟨w', hrun, r1, r2⟩ := hown.update K L ht hn hs hy hg1 hg2
 unfold Oper.wp
 simp [execOp, hop, hm, hx, hv, hrun, Result.andThen]
 exact hK' _ _ (hK w' r1 r2)
end
theorem ZiW : KeyEnc 5 Int (Value.int .u8) (fun n => (Lit.int .u8 n).wf = true) (Lit.int .u8) where
 keyed := int_keyed Tryz.underlying5
 key := fun x h => keyOf_int_mk Tryz.underlying5 h
 inj := fun x y _ _ h => by injection h
abbrev TSS : TypeId := 96
theorem ZjD : ArrKey Tryz.prog TSS 9 2 := ⟨by kernel_rfl, by kernel_rfl, by kernel_rfl, by kernel_rfl⟩
theorem Z94 : ∃ m, Tryz.prog.types.size = m + 1 := ⟨Tryz.prog.types.size - 1, by kernel_rfl⟩
theorem Z8C {a b : ByteArray} (ha : a.size <= maxLen) (hb : b.size <= maxLen) : (keyOf Tryz.prog TSS (.agg #[.string a, .string b])).isSome = true := by
 have A := ZjD
 have he := Tryz.underlying9
 have hkt := A.keyType Z94
 obtain ⟨m, hm⟩ := Z94
 unfold keyOf
 simp only [A.hu]
 rw [if_pos (by simp [hkt, Value.formed, A.hu, A.size]), hm]
 unfold Program.keyLits
 simp only [A.hu, Value.cells]
 rw [if_pos (by rw [A.size]; rfl), show List.range 2 = [0, 1] from rfl, List.mapM_cons, List.mapM_cons, List.mapM_nil]
 simp [A.one, Program.keyLits, he, ha, hb]
theorem Zg7 : laidOutB Tryz.prog = true := by kernel_rfl
theorem lawSS : KeyLaw Tryz.prog TSS := deep_law_laid Zg7 (m := 2) (by omega) (of_decide_eq_true (by kernel_rfl)) (by kernel_rfl) (by kernel_rfl)
theorem Zh3 {x y : ByteArray × ByteArray} (h : Value.agg #[.string x.1, .string x.2] = Value.agg #[.string y.1, .string y.2]) : x = y := by
 have h0 : (#[Value.string x.1, Value.string x.2] : Array Value).toList = (#[Value.string y.1, Value.string y.2] : Array Value).toList := congrArg Array.toList (Value.agg.inj h)
 have h1 := (List.cons.inj h0).1
 have h2 := (List.cons.inj (List.cons.inj h0).2).1
 exact Prod.ext (Value.string.inj h1) (Value.string.inj h2)
noncomputable def Zjg (x : ByteArray × ByteArray) : Lit := (keyOf Tryz.prog TSS (.agg #[.string x.1, .string x.2])).getD (.bool false)
theorem Zi2 : KeyEnc TSS (ByteArray × ByteArray) (fun x => .agg #[.string x.1, .string x.2]) (fun x => x.1.size <= maxLen /\ x.2.size <= maxLen) Zjg where
 keyed := Keyed.of_law lawSS
 key := fun x h => by
  have := Z8C h.1 h.2
  unfold Zjg
  rw [Option.isSome_iff_exists] at this
  obtain ⟨l, hl⟩ := this
  rw [hl]; rfl
 inj := fun x y hx hy h => by
  obtain ⟨l, hl⟩ := Option.isSome_iff_exists.1 (Z8C hx.1 hx.2)
  obtain ⟨l', hl'⟩ := Option.isSome_iff_exists.1 (Z8C hy.1 hy.2)
  unfold Zjg at h
  rw [hl, hl'] at h
  have h' : l = l' := h
  subst h'
  have hv : Value.agg #[.string x.1, .string x.2] = Value.agg #[.string y.1, .string y.2] := lawSS.inj hl hl'
  exact Zh3 hv
end Go.Proofs.YtlgajongmkhcnaaGreatDoor
namespace Go.Proofs.YtlgajongmkhcnaaGreatDoor
open Go.RowKit
set_option maxRecDepth 100000
def Z1p (n : Nat) : Nat := 1 + n / 16 % 4 % 3
def Z49 (n : Nat) : Nat := n / 4 % 4 % 3 + 1
def Z32 (n : Nat) : Nat := n % 4 % 3 + 1
def Z90 (n : Nat) : Nat := n / 64 % 32
def Z1N (ps : List UInt8) (i : Nat) : Nat := if ps.length = 0 then 300 else 300 + (ps.getD (i % ps.length) 0).toNat
def Z3e (ps : List UInt8) (zones c s : Nat) : Stp := ⟨((20 + 30 * s : Nat) : Int), (List.range zones).map (fun z => ((Z1N ps (17 * c + 5 * s + z) : Nat) : Int))⟩
def Z1c (ps : List UInt8) (n c : Nat) : Rat := ⟨((c + 1 : Nat) : Int), (List.range (Z49 n)).map (Z3e ps (Z1p n) c), ((Z90 n : Nat) : Int)⟩
def pairsN : List (ByteArray × ByteArray) := [(⟨#[49]⟩, ⟨#[]⟩), (⟨#[]⟩, ⟨#[50]⟩), (⟨#[49]⟩, ⟨#[50]⟩), (⟨#[49, 48]⟩, ⟨#[]⟩), (⟨#[49]⟩, ⟨#[50, 49]⟩), (⟨#[49, 48]⟩, ⟨#[50]⟩), (⟨#[49, 48, 48]⟩, ⟨#[49, 48]⟩), (⟨#[]⟩, ⟨#[49, 48, 48, 48]⟩), (⟨#[50]⟩, ⟨#[49]⟩)]
def Zh0 (n i : Nat) : Bool := decide (n / 2 ^ (11 + i) % 2 = 1)
def Zjd (zones i : Nat) : Zn := ⟨(pairsN.getD i (⟨#[]⟩, ⟨#[]⟩)).1, (pairsN.getD i (⟨#[]⟩, ⟨#[]⟩)).2, ((1 + i % zones : Nat) : Int)⟩
def Z0u (n k : Nat) : List Zn := ⟨⟨#[]⟩, ⟨#[]⟩, 1⟩ :: ((List.range k).filter (Zh0 n)).map (Zjd (Z1p n))
def Z1D (n : Nat) (ps : List UInt8) : Tar := ⟨(List.range (Z32 n)).map (Z1c ps n), Z0u n 9⟩
theorem Z91 (n : Nat) : 1 <= Z1p n /\ Z1p n <= 3 := by unfold Z1p; omega
theorem Z63 (n : Nat) : 1 <= Z49 n /\ Z49 n <= 3 := by unfold Z49; omega
theorem Z6e (n : Nat) : 1 <= Z32 n /\ Z32 n <= 3 := by unfold Z32; omega
theorem Z6g (ps : List UInt8) (i : Nat) : 300 <= Z1N ps i /\ Z1N ps i <= 555 := by
 unfold Z1N
 split
 ·omega
 ·have := (ps.getD (i % ps.length) 0).toNat_lt; omega
theorem ZbV : ∀ p ∈ pairsN, (p.1.size = 0 \/ Z0C p.1 = true) /\ (p.2.size = 0 \/ Z0C p.2 = true) /\ ¬ (p.1 = ⟨#[]⟩ /\ p.2 = ⟨#[]⟩) := by
 decide
theorem Z8i (n : Nat) (ps : List UInt8) : TarOk (Z1p n) (Z1D n ps) := by
 have hz := Z91 n
 have hs := Z63 n
 have hr := Z6e n
 refine ⟨by omega, ?_, ?_, ?_, ?_, ?_, ?_, ?_, ?_⟩
 ·show 1 <= ((List.range (Z32 n)).map _).length /\ _
  simp only [Z1D, Z7, List.length_range]; omega
 ·show 1 <= (Z0u n 9).length /\ (Z0u n 9).length <= 500
  unfold Z0u
  have := List.length_filter_le (Zh0 n) (List.range 9)
  rw [List.length_range] at this
  rw [List.length_cons, Z7]
  omega
 ·intro r hr0 s hs0
  have hm : r ∈ (Z1D n ps).rates := List.mem_of_getElem? hr0
  obtain ⟨c, _, rfl⟩ := List.mem_map.1 hm
  obtain ⟨t, _, rfl⟩ := List.mem_map.1 (List.mem_of_getElem? hs0)
  simp [Z3e]
 ·intro r hm
  obtain ⟨c, hc, rfl⟩ := List.mem_map.1 hm
  have hc' := List.mem_range.1 hc
  refine ⟨?_, ?_, ?_⟩
  ·show (1 : Int) <= ((c + 1 : Nat) : Int); omega
  ·show ((c + 1 : Nat) : Int) <= 255; omega
  ·refine ⟨?_, ?_, ?_, ?_⟩
   ·simp only [Z1c, Z7, List.length_range]; omega
   ·show (0 : Int) <= ((Z90 n : Nat) : Int) /\ ((Z90 n : Nat) : Int) <= 1000000
    unfold Z90; omega
   ·intro i hi
    simp only [Z1c, Z7, List.length_range] at hi
    have e : ∀ j, j < Z49 n -> ((Z1c ps n c).steps.getD j ⟨0, []⟩).grams = ((20 + 30 * j : Nat) : Int) := fun j hj => by
     unfold Z1c
     rw [Z2, List.getElem?_map, List.getElem?_range hj]; rfl
    rw [e i hi]
    split
    ·omega
    ·rw [e (i - 1) (by omega)]
     omega
   ·intro s hsm
    obtain ⟨t, _, rfl⟩ := List.mem_map.1 hsm
    refine ⟨by simp [Z3e], fun x hx => ?_⟩
    obtain ⟨z, _, rfl⟩ := List.mem_map.1 hx
    have := Z6g ps (17 * c + 5 * t + z)
    omega
 ·show ((List.range (Z32 n)).map (Z1c ps n)).Pairwise _
  rw [List.pairwise_map]
  refine List.Pairwise.imp ?_ List.nodup_range
  intro a b hab h
  apply hab
  have h' : ((a + 1 : Nat) : Int) = ((b + 1 : Nat) : Int) := h
  omega
 ·intro r hm
  have hm' : r ∈ Z0u n 9 := hm
  unfold Z0u at hm'
  rcases List.mem_cons.1 hm' with rfl | hm'
  ·exact ⟨.inl rfl, .inl rfl, Int.le_refl _, by show (1 : Int) <= _; omega⟩
  ·obtain ⟨i, hi, rfl⟩ := List.mem_map.1 hm'
   have hi9 := List.mem_range.1 (List.mem_filter.1 hi).1
   have hp : pairsN.getD i (⟨#[]⟩, ⟨#[]⟩) ∈ pairsN := by
    rw [Z2, Z3 (show i < pairsN.length from hi9)]
    exact Z4 _
   obtain ⟨h1, h2, _⟩ := ZbV _ hp
   refine ⟨h1, h2, ?_, ?_⟩
   ·show (1 : Int) <= ((1 + i % Z1p n : Nat) : Int); omega
   ·show ((1 + i % Z1p n : Nat) : Int) <= ((Z1p n : Nat) : Int)
    have := Nat.mod_lt i (show 0 < Z1p n by omega)
    omega
 ·show (Z0u n 9).Pairwise _
  unfold Z0u
  rw [List.pairwise_cons]
  have hget : ∀ i, i < 9 -> pairsN.getD i (⟨#[]⟩, ⟨#[]⟩) ∈ pairsN := fun i hi => by
   rw [Z2, Z3 (show i < pairsN.length from hi)]
   exact Z4 _
  refine ⟨fun r hm h => ?_, ?_⟩
  ·obtain ⟨i, hi, rfl⟩ := List.mem_map.1 hm
   obtain ⟨_, _, h3⟩ := ZbV _ (hget i (List.mem_range.1 (List.mem_filter.1 hi).1))
   exact h3 ⟨h.1.symm, h.2.symm⟩
  ·rw [List.pairwise_map]
   refine (List.Pairwise.filter _ ?_ : ((List.range 9).filter (Zh0 n)).Pairwise _)
   have h9 : (List.range 9).Pairwise (fun a b => ¬ ((pairsN.getD a (⟨#[]⟩, ⟨#[]⟩)).1 = (pairsN.getD b (⟨#[]⟩, ⟨#[]⟩)).1 /\ (pairsN.getD a (⟨#[]⟩, ⟨#[]⟩)).2 = (pairsN.getD b (⟨#[]⟩, ⟨#[]⟩)).2)) := by decide
   exact h9
 ·exact ⟨⟨⟨#[]⟩, ⟨#[]⟩, 1⟩, List.mem_cons_self, rfl, rfl⟩
theorem ZfM (n : Nat) (ps : List UInt8) {ls : List Lev} (h : ∀ l ∈ ls, 0 <= l.cents /\ l.cents <= 255) : FitT 300 31 255 (Z1D n ps) ls := by
 refine ⟨by omega, ?_, ?_, h⟩
 ·intro r hr s hs c hc
  obtain ⟨a, _, rfl⟩ := List.mem_map.1 hr
  obtain ⟨t, _, rfl⟩ := List.mem_map.1 hs
  obtain ⟨z, _, rfl⟩ := List.mem_map.1 hc
  have := Z6g ps (17 * a + 5 * t + z)
  omega
 ·intro r hr
  obtain ⟨a, _, rfl⟩ := List.mem_map.1 hr
  show ((Z90 n : Nat) : Int) <= 31
  unfold Z90; omega
end Go.Proofs.YtlgajongmkhcnaaGreatDoor
