import Derived.Test.YtlgajongmkhcnaaGreatDoorQUZ
import Derived.Test.YtlgajongmkhcnaaGreatDoorProg
import Derived.WalkKit
import Derived.WalkSpells
import Derived.WalkLawsBesides
import Derived.Outline
import Derived.Below
import Derived.OneCell
import Derived.OwnWalk
import Derived.Deep.QuietTactic
import Derived.BigQuiet
import Derived.Lib.Hide
import Derived.RegionTactic
import Derived.ChangeAlike
import Derived.Deep.RegionWith
import Derived.Deep.DeepCutAuto
import Derived.Deep.RegionHeld3
import Derived.Maps.OwnOps
import Derived.Maps.OwnSet
import Derived.Maps.StringElems
import Derived.WideShapes
import Derived.Carry
import Derived.StringKeys
import Derived.Lib.Strings
import Derived.DeepKeys4
import Derived.WideKeyPair
set_option maxRecDepth 100000
set_option linter.unusedVariables false
set_option maxHeartbeats 32000000
namespace Go.Proofs.YtlgajongmkhcnaaGreatDoor
section
open Go.RowKit
theorem Z0d {a b : Bool} (h : a = b) : Ending.returned (.bool a) = .returned (.bool b) := by rw [h]
theorem Z6N {k : IntKind} {a b : Int} (h : a = b) : Ending.returned (.int k a) = .returned (.int k b) := by rw [h]
theorem ZeZ {a b : ByteArray} (h : a = b) : Ending.returned (.string a) = .returned (.string b) := by rw [h]
theorem Z0a {A B : World} (h : Below A.1.size A B) : A.grownBy B none := ⟨h.os, h.tape, h.output, h.size, fun k hk _ => h.block k hk⟩
theorem Z02 (w : World) (o : Obj) : (w.alloc o).1[w.1.size]? = some o := by
 show (w.1.push o)[w.1.size]? = some o
 simp
theorem Z7B {a b : ByteArray} (h : a.data.toList = b.data.toList) : a = b := WideShapes.bytes_inj h
theorem ba_eq (a b : ByteArray) : (a.toList == b.toList) = decide (a = b) := by
 rw [ByteArray.toList_eq, ByteArray.toList_eq, Kcz]
 simp only [beq_iff_eq, Kab]
 exact ⟨fun h => Z7B h, fun h => by rw [h]⟩
theorem Z5J {W : World} {b o : Nat} {v : Value} (h : W.cell? ⟨b, o, none⟩ = some v) : b < W.1.size := by
 rcases Nat.lt_or_ge b W.1.size with h' | h'
 ·exact h'
 ·have : W.1[b]? = none := Kdi h'
  simp [World.cell?, this] at h
theorem Z2K {W w1 : World} (hb : Below W.1.size W w1) : (∀ b o, b < W.1.size -> w1.cell? ⟨b, o, none⟩ = W.cell? ⟨b, o, none⟩) /\ (∀ b o, b < W.1.size -> w1.frozen? ⟨b, o, none⟩ = W.frozen? ⟨b, o, none⟩) :=
 ⟨fun b o h => hb.cell (p := ⟨b, o, none⟩) h, fun b o h => hb.frozen (p := ⟨b, o, none⟩) h⟩
theorem Z8H (W : World) (t : ByteArray) : ∃ (cap : Nat) (C : Array Value), t.size <= cap /\
 Sem.run Tryz.prog (convert 9 23 (.string t)) W = .ok (.slice (some ⟨W.1.size, 0, none⟩) t.size cap) (W.drew.alloc (.cells C 5 (C.size, C.size + 1))) /\
 ∀ j (h : j < t.size), (W.alloc (.cells C 5 (C.size, C.size + 1))).cell? ⟨W.1.size, j, none⟩ = some (.int .u8 (t[j].toNat : Int)) := by
 have rG := grownCap_ge W t.size 0 5
 have qT := run_bytes_of_string (P := Tryz.prog) W 9 23 5 t Tryz.underlying9 Tryz.underlying23 Tryz.underlying5
 generalize grownCap W t.size 0 5 = cap at rG qT
 have hC : ∀ j (h : j < t.size), (bytesRow t cap)[j]? = some (.int .u8 (t[j].toNat : Int)) := fun j h => by
  unfold bytesRow
  rw [Array.getElem?_append_left (by simpa using h), Array.getElem?_map, Kc8 h]
  rfl
 generalize bytesRow t cap = C at qT hC
 have tE : (W.alloc (.cells C 5 (C.size, C.size + 1))).1[W.1.size]? = some (.cells C 5 (C.size, C.size + 1)) := Z02 W _
 exact ⟨cap, C, rG, qT, fun j h => by simp only [World.cell?, tE]; exact hC j h⟩
def Zek (p : Int -> Bool) (s : ByteArray) : Bool := s.data.toList.all (fun c => p c.toNat)
theorem ZaX {p : Int -> Bool} {s : ByteArray} (h : ∀ j, j < s.size -> ∀ h : j < s.size, p s[j].toNat = true) : Zek p s = true := by
 unfold Zek
 rw [Kbk]
 intro c hc
 obtain ⟨j, hj, rfl⟩ := Kau.1 hc
 have hj' : j < s.size := by simpa using hj
 exact h j hj' hj'
theorem Z8O {p : Int -> Bool} {s : ByteArray} {k : Nat} (hk : k < s.size) (h : p s[k].toNat = false) : Zek p s = false := by
 unfold Zek
 rw [List.all_eq_false]
 exact ⟨s[k], Array.mem_toList_iff.2 (Array.getElem_mem (xs := s.data) hk), by rw [h]; simp⟩
def Z4F (n : Int) : Bool := decide (65 <= n /\ n <= 90) || decide (48 <= n /\ n <= 57)
def Z1D (s : ByteArray) : Bool := Zek Z4F s
def Z5u (n : Int) : Bool := decide (33 <= n /\ n <= 126)
def Z0G (s : ByteArray) : Bool := decide (1 <= s.size) && decide (s.size <= 10) && Z1D s
def Z2k (s : ByteArray) : Bool := decide (1 <= s.size) && decide (s.size <= 20) && Zek Z5u s
structure Lab where
 pre : ByteArray
 grp : ByteArray
structure Lev where
 name : ByteArray
 pre : Int
 labs : List Lab
 min : Int
 cents : Int
def ltB (a b : ByteArray) : Bool := decide (a.data.toList < b.data.toList)
theorem Z64 : ∀ (x y : List UInt8), Op.bytesLess x y = decide (x < y)
 | [], [] => by simp [Op.bytesLess]
 | _ :: _, [] => by simp [Op.bytesLess]
 | [], _ :: _ => by simp [Op.bytesLess]
 | a :: x, b :: y => by
  rw [Op.bytesLess, Z64 x y]
  simp only [List.cons_lt_cons_iff]
  by_cases h1 : a < b <;> by_cases h2 : a = b <;> by_cases h3 : x < y <;> simp [h1, h2, h3]
theorem ZfM (a b : ByteArray) : Op.bytesLess a.toList b.toList = ltB a b := by
 rw [ByteArray.toList_eq, ByteArray.toList_eq, Z64]; rfl
theorem Z1F (a : ByteArray) : ltB a a = false := by unfold ltB; simp [List.lt_irrefl]
theorem Z2Y {a b c : ByteArray} (h : ltB a b = true) (h' : ltB b c = true) : ltB a c = true := by
 unfold ltB at *
 simp only [Kab] at *
 exact List.lt_trans h h'
theorem Z3D {a b : ByteArray} (h : ltB a b = true) : ltB b a = false := by
 cases h' : ltB b a
 ·rfl
 ·have := Z2Y h h'; rw [Z1F] at this; cases this
theorem Z7b (a b : ByteArray) : ltB a b = true \/ a = b \/ ltB b a = true := by
 unfold ltB
 simp only [Kab]
 rcases Kbm (a.data.toList < b.data.toList) with h | h
 ·exact .inl h
 ·rcases Kbm (b.data.toList < a.data.toList) with h' | h'
  ·exact .inr (.inr h')
  ·exact .inr (.inl (Z7B (List.le_antisymm (List.not_lt.1 h') (List.not_lt.1 h))))
theorem Zkf (a b : ByteArray) : (Op.bytesLess a.toList b.toList || a.toList == b.toList) = !ltB b a := by
 rw [ZfM, ba_eq]
 rcases Z7b a b with h | h | h
 ·rw [h, Z3D h]; rfl
 ·subst h; rw [Z1F]; simp
 ·rw [h, Z3D h]
  simp
  rintro rfl
  rw [Z1F] at h; cases h
theorem Z3C {a b : ByteArray} (h : ltB a b = true) : a ≠ b := by rintro rfl; rw [Z1F] at h; cases h
end
section
open Go.RowKit
theorem Zbm {n : Int} (h : 65 <= n /\ n <= 90 \/ 48 <= n /\ n <= 57) : Z4F n = true := by unfold Z4F; simp; omega
theorem Za6 {n : Int} (h : ¬ (65 <= n /\ n <= 90 \/ 48 <= n /\ n <= 57)) : Z4F n = false := by unfold Z4F; simp; omega
theorem Z1R (s : ByteArray) (w : World) (hs : s.size <= maxLen) :
 Calls Tryz.prog 110 #[.string s] w fun e w' => e = .returned (.bool (Z1D s)) /\ Below w.1.size w w' := by
 unfold maxLen at hs
 obtain ⟨cap, C, rG, qT, qU⟩ := Z8H w s
 have HC := Z0 qU
 clear qU
 go_enter Tryz.func110, Tryz.ntmps110
 go_wp2_with fail
 go_loop [8] (fun i => ∃ k : Nat, k <= s.size /\ i = .int .i64 k /\ Hid (∀ j, j < k -> ∀ h : j < s.size, Z4F s[j].toNat = true)) (fun i => s.size - (intOf i).toNat)
 case atStart => exact ⟨0, ZE _, rfl, fun j h => by omega⟩
 case round =>
  obtain ⟨k, hk, rfl, ha⟩ := hrel
  by_cases pB : k < s.size
  ·have c := HC.out k pB
   have hn : Hid (Z4F s[k].toNat = true -> ∀ j, j < k + 1 -> ∀ h : j < s.size, Z4F s[j].toNat = true) := fun h1 j hj h => by
    by_cases e : j = k
    ·subst e; exact h1
    ·exact ha j (by omega) h
   have hf : Hid (Z4F s[k].toNat = false -> Z1D s = false) := fun h1 => Z8O pB h1
   generalize (s[k].toNat : Int) = n at c hn hf
   go_wp2_with fail
   all_goals first
    | (go_ret; exact ⟨Z0d (hf.out (Za6 (by omega))).symm, ((Z9 _ w).drew).alloc (Z1 _) _⟩)
    | (go_round
       case rel => exact ⟨k + 1, by omega, by go_num, hn.out (Zbm (by omega))⟩
       case measure => simp [intOf]; omega)
  ·go_wp2_with fail
   go_ret
   exact ⟨Z0d (ZaX fun j hj h => ha j (by omega) h).symm, ((Z9 _ w).drew).alloc (Z1 _) _⟩
theorem Z6u (s : ByteArray) (w : World) (hs : s.size <= maxLen) :
 Calls Tryz.prog 74 #[.string s] w fun e w' => e = .returned (.bool (Z0G s)) /\ Below w.1.size w w' := by
 have hm := hs
 unfold maxLen at hs
 by_cases h : 1 <= s.size /\ s.size <= 10
 ·obtain ⟨h1, h2⟩ := h
  have hf : Z0G s = Z1D s := by unfold Z0G; simp [h1, h2]
  have HF := Z0 hf
  clear hf
  go_enter Tryz.func74, Tryz.ntmps74
  go_wp2_with (go_at_call 110; refine (Z1R _ _ hm).mono ?_; rintro e w' ⟨rfl, hb⟩)
  go_ret
  exact ⟨Z0d HF.out.symm, hb⟩
 ·have hf : Z0G s = false := by unfold Z0G; simp; intro a b; exact absurd ⟨a, b⟩ h
  have HF := Z0 hf
  clear hf
  have h' : s.size < 1 \/ 10 < s.size := by omega
  clear h
  rcases h' with h | h
  all_goals
   go_enter Tryz.func74, Tryz.ntmps74
   go_wp2_with fail
   go_ret
   exact ⟨Z0d HF.out.symm, Z9 _ _⟩
theorem ZbI (n : Int) (w : World) :
 Calls Tryz.prog 139 #[.int .u8 n] w fun e w' => e = .returned (.bool (!Z5u n)) /\ w = w' := by
 go_enter Tryz.func139, Tryz.ntmps139
 go_wp2
 all_goals (go_ret; refine ⟨Z0d ?_, rfl⟩; unfold Z5u; rw [Kcz]; simp; try omega)
theorem Z7V (s : ByteArray) (B cap : Nat) (w : World) (hs : s.size <= maxLen) (hc : ∀ j (h : j < s.size), w.cell? ⟨B, j, none⟩ = some (.int .u8 (s[j].toNat : Int))) :
 Calls Tryz.prog 168 #[.slice (some ⟨B, 0, none⟩) s.size cap, .func (.func 139) #[] #[]] w fun e w' => ∃ i : Int, e = .returned (.int .i64 i) /\ decide (0 <= i) = !Zek Z5u s /\ w = w' := by
 unfold maxLen at hs
 have HC := Z0 hc
 clear hc
 go_enter Tryz.func168, Tryz.ntmps168
 go_wp2_with fail
 go_loop [8] (fun i => ∃ k : Nat, k <= s.size /\ i = .int .i64 k /\ Hid (∀ j, j < k -> ∀ h : j < s.size, Z5u s[j].toNat = true)) (fun i => s.size - (intOf i).toNat)
 case atStart => exact ⟨0, ZE _, rfl, fun j h => by omega⟩
 case round =>
  obtain ⟨k, hk, rfl, ha⟩ := hrel
  by_cases pB : k < s.size
  ·have c := HC.out k pB
   have hn : Hid (Z5u s[k].toNat = true -> ∀ j, j < k + 1 -> ∀ h : j < s.size, Z5u s[j].toNat = true) := fun h1 j hj h => by
    by_cases e : j = k
    ·subst e; exact h1
    ·exact ha j (by omega) h
   have hf : Hid (Z5u s[k].toNat = false -> Zek Z5u s = false) := fun h1 => Z8O pB h1
   generalize (s[k].toNat : Int) = n at c hn hf
   cases hd : Z5u n
   all_goals go_wp2_with (go_at_call 139; refine (ZbI _ _).mono ?_; rintro e w' ⟨rfl, rfl⟩)
   ·go_ret
    exact ⟨_, rfl, by rw [hf.out hd]; simp, rfl⟩
   ·go_round
    case rel => exact ⟨k + 1, by omega, by go_num, hn.out hd⟩
    case measure => simp [intOf]; omega
  ·go_wp2_with fail
   go_ret
   exact ⟨_, rfl, by rw [ZaX fun j hj h => ha j (by omega) h]; rfl, rfl⟩
theorem Z5H (s : ByteArray) (B cap : Nat) (w : World) (hs : s.size <= maxLen) (hc : ∀ j (h : j < s.size), w.cell? ⟨B, j, none⟩ = some (.int .u8 (s[j].toNat : Int))) :
 Calls Tryz.prog 138 #[.slice (some ⟨B, 0, none⟩) s.size cap, .func (.func 139) #[] #[]] w fun e w' => e = .returned (.bool (!Zek Z5u s)) /\ w = w' := by
 have HC := Z0 hc
 clear hc
 go_enter Tryz.func138, Tryz.ntmps138
 go_wp2_with (go_at_call 168; refine (Z7V _ _ _ _ hs HC.out).mono ?_; rintro e w' ⟨i, rfl, hi, rfl⟩; have HI := Z0 hi; clear hi)
 go_ret
 exact ⟨Z0d HI.out, rfl⟩
theorem Z1b (s : ByteArray) (w : World) (hs : s.size <= maxLen) :
 Calls Tryz.prog 115 #[.string s] w fun e w' => e = .returned (.bool (Z2k s)) /\ Below w.1.size w w' := by
 have hm := hs
 unfold maxLen at hs
 by_cases h : 1 <= s.size /\ s.size <= 20
 ·obtain ⟨h1, h2⟩ := h
  have hf : Z2k s = Zek Z5u s := by unfold Z2k; simp [h1, h2]
  have HF := Z0 hf
  clear hf
  obtain ⟨cap, C, rG, qT, qU⟩ := Z8H w s
  have HC := Z0 qU
  clear qU
  go_enter Tryz.func115, Tryz.ntmps115
  go_wp2_with (go_at_call 138; refine (Z5H s _ _ (w.alloc (.cells C 5 (C.size, C.size + 1))).drew hm (fun j h => HC.out j h)).mono ?_; rintro e w1 ⟨rfl, rfl⟩)
  go_ret
  exact ⟨Z0d (by rw [HF.out]), ((Z9 _ w).drew).alloc (Z1 _) _⟩
 ·have hf : Z2k s = false := by unfold Z2k; simp; intro a b; exact absurd ⟨a, b⟩ h
  have HF := Z0 hf
  clear hf
  have h' : s.size < 1 \/ 20 < s.size := by omega
  clear h
  rcases h' with h | h
  all_goals
   go_enter Tryz.func115, Tryz.ntmps115
   go_wp2_with fail
   go_ret
   exact ⟨Z0d HF.out.symm, Z9 _ _⟩
end
section
open Go.RowKit
def RdLabs (w : World) (v : Value) (labs : List Lab) : Prop :=
 ∃ a cap, v = .slice a labs.length cap /\ (0 < labs.length -> ∃ g off, a = some ⟨g, off, none⟩ /\ g < w.1.size /\ ∀ i (h : i < labs.length), w.cell? ⟨g, off + i * 2, none⟩ = some (.string labs[i].pre) /\ w.cell? ⟨g, off + i * 2 + 1, none⟩ = some (.string labs[i].grp))
theorem RdLabs.below {w w' : World} {v : Value} {ls : List Lab} (h : RdLabs w v ls) (hb : Below w.1.size w w') : RdLabs w' v ls := by
 obtain ⟨a, cap, hv, hc⟩ := h
 exact ⟨a, cap, hv, fun h0 => by
  obtain ⟨g, off, ha, hg, pC⟩ := hc h0
  exact ⟨g, off, ha, ZH hg hb.size, fun i h => ⟨(hb.cell (p := ⟨g, off + i * 2, none⟩) hg).trans (pC i h).1, (hb.cell (p := ⟨g, off + i * 2 + 1, none⟩) hg).trans (pC i h).2⟩⟩⟩
def lvA (l : Lev) (v : Value) : Value := .agg #[.string l.name, .int .i64 l.pre, v, .int .i64 l.min, .int .i64 l.cents]
def Z0K (l : Lev) : Prop := l.name.size <= maxLen /\ l.labs.length <= 100000 /\ ∀ x ∈ l.labs, x.pre.size <= maxLen /\ x.grp.size <= maxLen
def Z7e (l : Lev) (x : Lab) : Bool := decide ((x.pre.size : Int) = l.pre) && Z1D x.pre && Z2k x.grp
def Z26 (labs : List Lab) : Prop := ∀ i, (h : i + 1 < labs.length) -> ltB labs[i].pre labs[i + 1].pre = true
def Z8v (l : Lev) (k : Nat) : Prop := ∀ i, i < k -> ∀ h : i < l.labs.length, Z7e l l.labs[i] = true /\ ∀ j, j + 1 = i -> ∀ h' : j < l.labs.length, ltB l.labs[j].pre l.labs[i].pre = true
def Z4h (l : Lev) : Bool := Z2k l.name && decide (0 <= l.pre /\ l.pre <= 10 /\ 0 <= l.cents /\ l.cents <= 1000000)
def Zao (l : Lev) (last : Bool) : Prop := Z4h l = true /\ if last then (l.min = 0 /\ l.pre = 0 /\ l.labs.length = 0) else ((1 <= l.min /\ l.min <= 2000) /\ Z8v l l.labs.length)
open Classical in
noncomputable def Z0S (l : Lev) (last : Bool) : Bool := decide (Zao l last)
theorem Z1a {l : Lev} {last : Bool} : Z0S l last = true ↔ Zao l last := by unfold Z0S; simp
theorem Z20 {l : Lev} {last : Bool} (h : ¬ Zao l last) : Z0S l last = false := by unfold Z0S; simp [h]
theorem ZbN {l : Lev} {last : Bool} (h : Z4h l = false) : Z0S l last = false := Z20 (fun h' => by rw [h'.1] at h; cases h)
theorem ZaB (l : Lev) (v : Value) (last : Bool) (w : World) (hf : Z0K l) (hh : Z4h l = false) :
 Calls Tryz.prog 80 #[lvA l v, .bool last] w fun e w' => e = .returned (.bool (Z0S l last)) /\ Below w.1.size w w' := by
 obtain ⟨hn, hl, hx⟩ := hf
 have HF := Z0 (ZbN (last := last) hh)
 have hh' : Z2k l.name = false \/ (Z2k l.name = true /\ (l.pre < 0 \/ (0 <= l.pre /\ 10 < l.pre) \/ ((0 <= l.pre /\ l.pre <= 10) /\ l.cents < 0) \/ ((0 <= l.pre /\ l.pre <= 10) /\ 0 <= l.cents /\ 1000000 < l.cents))) := by
  unfold Z4h at hh
  cases h : Z2k l.name
  ·exact .inl rfl
  ·rw [h] at hh
   simp at hh
   exact .inr ⟨rfl, by omega⟩
 clear hh hl hx
 obtain ⟨name, pre, labs, min, cents⟩ := l
 dsimp only at hn hh'
 unfold lvA
 dsimp only
 generalize Z0S _ _ = r at HF
 clear labs
 rcases hh' with h | ⟨h, h1 | ⟨h0, h1⟩ | ⟨⟨h0, h1⟩, h2⟩ | ⟨⟨h0, h1⟩, h2, h3⟩⟩
 all_goals
  go_enter Tryz.func80, Tryz.ntmps80
  go_wp2_with (go_at_call 115; refine (Z1b _ _ hn).mono ?_; rintro e w1 ⟨rfl, hb⟩; obtain ⟨qE, qF⟩ := Z2K hb)
  go_ret
  exact ⟨Z0d HF.out.symm, ((Z9 _ w).alloc (Z1 _) _).trans (hb.mono (by simp))⟩
end
section
open Go.RowKit
theorem Z43 {W : World} {b i : Nat} (o : Obj) (h : b < W.1.size) : (W.alloc o).cell? ⟨b, i, none⟩ = W.cell? ⟨b, i, none⟩ :=
 ((Z9 _ W).alloc (Z1 _) o).cell (p := ⟨b, i, none⟩) h
theorem Z0l {B : Nat} {w wr w2 : World} {o : Obj} (h : Below B w wr) (hB : B <= wr.1.size) (h2 : Below (wr.alloc o).1.size (wr.alloc o) w2) : Below B w w2 :=
 (h.alloc hB o).trans (h2.mono (by simp; omega))
theorem Z01 {B : Nat} {w wr w2 : World} (h : Below B w wr) (hB : B <= wr.1.size) (h2 : Below wr.1.size wr w2) : Below B w w2 := h.trans (h2.mono hB)
theorem Z1S {l : Lev} (h : Z4h l = true) : Z2k l.name = true /\ 0 <= l.pre /\ l.pre <= 10 /\ 0 <= l.cents /\ l.cents <= 1000000 := by
 unfold Z4h at h
 simpa using h
theorem Zaz (l : Lev) (v : Value) (w : World) (hf : Z0K l) (hh : Z4h l = true) (hv : ∃ a cap, v = .slice a l.labs.length cap) :
 Calls Tryz.prog 80 #[lvA l v, .bool true] w fun e w' => e = .returned (.bool (Z0S l true)) /\ Below w.1.size w w' := by
 obtain ⟨hn, hl, hx⟩ := hf
 obtain ⟨a, cap, rfl⟩ := hv
 have HT : Hid (l.min = 0 -> l.pre = 0 -> l.labs.length = 0 -> Z0S l true = true) := fun h1 h2 h3 => Z1a.2 ⟨hh, by simp [h1, h2, h3]⟩
 have HF : Hid (¬ (l.min = 0 /\ l.pre = 0 /\ l.labs.length = 0) -> Z0S l true = false) := fun h => Z20 (fun h' => h (by simpa using h'.2))
 obtain ⟨h, h1, h2, h3, h4⟩ := Z1S hh
 clear hh hx
 obtain ⟨name, pre, labs, min, cents⟩ := l
 dsimp only at *
 unfold lvA
 dsimp only
 generalize Z0S _ _ = r at HT HF
 generalize labs.length = n at HT HF hl
 by_cases m0 : min = 0
 ·subst m0
  by_cases p0 : pre = 0
  ·subst p0
   by_cases n0 : n = 0
   ·subst n0
    have HR := Z0 (HT.out rfl rfl rfl)
    clear HT HF
    go_enter Tryz.func80, Tryz.ntmps80
    go_wp2_with (go_at_call 115; refine (Z1b _ _ hn).mono ?_; rintro e w1 ⟨rfl, hb⟩; obtain ⟨qE, qF⟩ := Z2K hb)
    go_ret
    exact ⟨Z0d HR.out.symm, ((Z9 _ w).alloc (Z1 _) _).trans (hb.mono (by simp))⟩
   ·have pD : ((n : Int) == 0) = false := by simp; omega
    have HR := Z0 (HF.out (fun h => n0 h.2.2))
    clear n0
    go_enter Tryz.func80, Tryz.ntmps80
    go_wp2_with (go_at_call 115; refine (Z1b _ _ hn).mono ?_; rintro e w1 ⟨rfl, hb⟩; obtain ⟨qE, qF⟩ := Z2K hb)
    go_ret
    exact ⟨Z0d HR.out.symm, ((Z9 _ w).alloc (Z1 _) _).trans (hb.mono (by simp))⟩
  ·have pD : (pre == 0) = false := by simpa using p0
   have HR := Z0 (HF.out (fun h => p0 h.2.1))
   clear p0
   go_enter Tryz.func80, Tryz.ntmps80
   go_wp2_with (go_at_call 115; refine (Z1b _ _ hn).mono ?_; rintro e w1 ⟨rfl, hb⟩; obtain ⟨qE, qF⟩ := Z2K hb)
   go_ret
   exact ⟨Z0d HR.out.symm, ((Z9 _ w).alloc (Z1 _) _).trans (hb.mono (by simp))⟩
 ·have pD : (min == 0) = false := by simpa using m0
  have HR := Z0 (HF.out (fun h => m0 h.1))
  clear m0
  go_enter Tryz.func80, Tryz.ntmps80
  go_wp2_with (go_at_call 115; refine (Z1b _ _ hn).mono ?_; rintro e w1 ⟨rfl, hb⟩; obtain ⟨qE, qF⟩ := Z2K hb)
  go_ret
  exact ⟨Z0d HR.out.symm, ((Z9 _ w).alloc (Z1 _) _).trans (hb.mono (by simp))⟩
theorem ZbJ (l : Lev) (v : Value) (w : World) (hf : Z0K l) (hh : Z4h l = true) (hm : l.min < 1 \/ 2000 < l.min) :
 Calls Tryz.prog 80 #[lvA l v, .bool false] w fun e w' => e = .returned (.bool (Z0S l false)) /\ Below w.1.size w w' := by
 obtain ⟨hn, hl, hx⟩ := hf
 have HR : Hid (Z0S l false = false) := Z20 (fun h => by have := h.2; simp at this; omega)
 obtain ⟨h, h1, h2, h3, h4⟩ := Z1S hh
 clear hh hx
 obtain ⟨name, pre, labs, min, cents⟩ := l
 dsimp only at *
 unfold lvA
 dsimp only
 generalize Z0S _ _ = r at HR
 rcases hm with hm | hm
 all_goals
  go_enter Tryz.func80, Tryz.ntmps80
  go_wp2_with (go_at_call 115; refine (Z1b _ _ hn).mono ?_; rintro e w1 ⟨rfl, hb⟩; obtain ⟨qE, qF⟩ := Z2K hb)
  go_ret
  exact ⟨Z0d HR.out.symm, ((Z9 _ w).alloc (Z1 _) _).trans (hb.mono (by simp))⟩
theorem ZbG {l : Lev} {x : Lab} : (Z7e l x = false /\ (((x.pre.size : Int) != l.pre) = true \/ (((x.pre.size : Int) != l.pre) = false /\ Z1D x.pre = false) \/ (((x.pre.size : Int) != l.pre) = false /\ Z1D x.pre = true /\ Z2k x.grp = false))) \/
 (Z7e l x = true /\ ((x.pre.size : Int) != l.pre) = false /\ Z1D x.pre = true /\ Z2k x.grp = true) := by
 unfold Z7e
 by_cases h : (x.pre.size : Int) = l.pre
 ·cases h1 : Z1D x.pre <;> cases h2 : Z2k x.grp <;> simp [h]
 ·simp [h]
theorem ZbF {l : Lev} {k : Nat} (h : Z8v l k) (hk : k < l.labs.length) (h1 : Z7e l l.labs[k] = true) (h2 : ∀ j, j + 1 = k -> ∀ h' : j < l.labs.length, ltB l.labs[j].pre l.labs[k].pre = true) : Z8v l (k + 1) := by
 intro i hi pB
 by_cases e : i = k
 ·subst e; exact ⟨h1, h2⟩
 ·exact h i (by omega) pB
theorem Z7U {l : Lev} {k : Nat} (hk : k < l.labs.length) (h : Z7e l l.labs[k] = false) : Z0S l false = false :=
 Z20 (fun h' => by
  have := h'.2
  simp only [Kcc, if_false] at this
  have := (this.2 k hk hk).1
  rw [h] at this; cases this)
theorem Z5D {l : Lev} {j : Nat} (hk : j + 1 < l.labs.length) (h : ltB l.labs[j].pre l.labs[j + 1].pre = false) : Z0S l false = false :=
 Z20 (fun h' => by
  have := h'.2
  simp only [Kcc, if_false] at this
  have := (this.2 (j + 1) hk hk).2 j rfl (by omega)
  rw [h] at this; cases this)
theorem ZaA (l : Lev) (v : Value) (w : World) (hf : Z0K l) (hh : Z4h l = true) (tF : 1 <= l.min) (tG : l.min <= 2000) (hr : RdLabs w v l.labs) :
 Calls Tryz.prog 80 #[lvA l v, .bool false] w fun e w' => e = .returned (.bool (Z0S l false)) /\ Below w.1.size w w' := by
 obtain ⟨hn, hl, hx⟩ := hf
 obtain ⟨a, cap, rfl, hc⟩ := hr
 have HC := Z0 hc
 have HX := Z0 hx
 have HT : Hid (Z8v l l.labs.length -> Z0S l false = true) := fun h => Z1a.2 ⟨hh, by simp; exact ⟨⟨tF, tG⟩, h⟩⟩
 have qJ : Hid (∀ k (hk : k < l.labs.length), Z7e l l.labs[k] = false -> Z0S l false = false) := fun k hk => Z7U hk
 have pM : Hid (∀ j (hk : j + 1 < l.labs.length), ltB l.labs[j].pre l.labs[j + 1].pre = false -> Z0S l false = false) := fun j hk => Z5D hk
 obtain ⟨h, h1, h2, h3, h4⟩ := Z1S hh
 clear hh hx hc
 generalize Z0S l false = r at HT qJ pM
 unfold lvA
 go_enter Tryz.func80, Tryz.ntmps80
 go_wp2_with (go_at_call 115; refine (Z1b _ _ hn).mono ?_; rintro e w1 ⟨rfl, hb⟩; obtain ⟨qE, qF⟩ := Z2K hb)
 go_loopw [57] (fun i wr => ∃ k : Nat, k <= l.labs.length /\ i = .int .i64 k /\ Hid (Z8v l k) /\ Below (w.1.size + 1) (w.alloc (.cells #[.string l.name, .int .i64 l.pre, .slice a l.labs.length cap, .int .i64 l.min, .int .i64 l.cents] 63)) wr) (fun i _ => l.labs.length - (intOf i).toNat)
 case atStart => exact ⟨0, ZE _, rfl, fun j h => by omega, by simpa using hb⟩
 case round =>
  clear qE qF hb
  obtain ⟨k, hk, rfl, ha, hB⟩ := hrel
  have tH : w.1.size < (w.alloc (.cells #[.string l.name, .int .i64 l.pre, .slice a l.labs.length cap, .int .i64 l.min, .int .i64 l.cents] 63)).1.size := by simp
  have b1 : wr.cell? ⟨w.1.size, 1, none⟩ = some (.int .i64 l.pre) := (hB.cell (p := ⟨w.1.size, 1, none⟩) (Ka4 _)).trans (by simp [go_sem])
  have b2 : wr.cell? ⟨w.1.size, 2, none⟩ = some (.slice a l.labs.length cap) := (hB.cell (p := ⟨w.1.size, 2, none⟩) (Ka4 _)).trans (by simp [go_sem])
  have pL : w.1.size < wr.1.size := ZH tH hB.size
  have pJ : Below w.1.size w wr := ((Z9 _ w).alloc (Z1 _) _).trans (hB.mono (Kbd _))
  by_cases pB : k < l.labs.length
  ·obtain ⟨g, off, rfl, hg, pC⟩ := HC.out (by omega)
   have rH : g < wr.1.size := by omega
   have cl : ∀ o, wr.cell? ⟨g, o, none⟩ = w.cell? ⟨g, o, none⟩ := fun o => (pJ.cell (p := ⟨g, o, none⟩) hg)
   have c1 : wr.cell? ⟨g, off + k * 2, none⟩ = some (.string l.labs[k].pre) := (cl _).trans (pC k pB).1
   have c2 : wr.cell? ⟨g, off + k * 2 + 1, none⟩ = some (.string l.labs[k].grp) := (cl _).trans (pC k pB).2
   have x1 := (HX.out _ (Z4 pB)).1
   have x2 := (HX.out _ (Z4 pB)).2
   have HN := Z0 (fun a b => ZbF ha.out pB a b)
   have rN := Z0 (qJ.out k pB)
   have pN : Hid (∀ j, j + 1 = k -> ∃ q : ByteArray, wr.cell? ⟨g, off + j * 2, none⟩ = some (.string q) /\ (ltB q l.labs[k].pre = false -> r = false) /\ (ltB q l.labs[k].pre = true -> ∀ j, j + 1 = k -> ∀ h' : j < l.labs.length, ltB l.labs[j].pre l.labs[k].pre = true)) := fun j hj => by
    subst hj
    exact ⟨l.labs[j].pre, (cl _).trans (pC j (by omega)).1, fun h => pM.out j pB h, fun h i hi _ => by
     obtain rfl : i = j := by omega
     exact h⟩
   clear cl pC HC HX qJ pM HT ha
   rcases ZbG (l := l) (x := l.labs[k]) with ⟨qV, qW⟩ | ⟨qV, t1, t2, t3⟩
   ·have HR := Z0 (rN.out qV)
    clear qV rN HN pN
    generalize l.labs[k].pre = xp at c1 qW x1
    generalize l.labs[k].grp = xg at c2 qW x2
    rcases qW with t1 | ⟨t1, t2⟩ | ⟨t1, t2, t3⟩
    ·go_wp2_with fail
     go_ret
     exact ⟨Z0d HR.out.symm, pJ.alloc (Kc0 pL) _⟩
    ·go_wp2_with (go_at_call 110; refine (Z1R _ _ x1).mono ?_; rintro e w2 ⟨rfl, pA⟩; obtain ⟨pK, pW⟩ := Z2K pA)
     go_ret
     exact ⟨Z0d HR.out.symm, Z0l pJ (Kc0 pL) pA⟩
    ·go_wp2_with (first | (go_at_call 110; refine (Z1R _ _ x1).mono ?_; rintro e w2 ⟨rfl, pA⟩; obtain ⟨pK, pW⟩ := Z2K pA; have qK := pA.size) | (go_at_call 115; refine (Z1b _ _ x2).mono ?_; rintro e w3 ⟨rfl, pF⟩; obtain ⟨pS, qL⟩ := Z2K pF))
     go_ret
     exact ⟨Z0d HR.out.symm, Z01 (Z0l pJ (Kc0 pL) pA) (by have := pA.size; simp at this; omega) pF⟩
   ·clear rN
    have HN' := Z0 (HN.out qV)
    clear HN qV
    generalize l.labs[k].pre = xp at c1 t1 t2 x1 HN' pN
    generalize l.labs[k].grp = xg at c2 t3 x2
    by_cases k0 : 0 < k
    ·obtain ⟨q, hq, pX, pY⟩ := pN.out (k - 1) (by omega)
     have rO := Z0 pX
     have rP := Z0 pY
     clear pX pY pN
     have sH := Zkf xp q
     go_wp2_with (first | (go_at_call 110; refine (Z1R _ _ x1).mono ?_; rintro e w2 ⟨rfl, pA⟩; obtain ⟨pK, pW⟩ := Z2K pA; have qK := pA.size) | (go_at_call 115; refine (Z1b _ _ x2).mono ?_; rintro e w3 ⟨rfl, pF⟩; obtain ⟨pS, qL⟩ := Z2K pF))
     have d1 : w3.cell? ⟨w.1.size, 2, none⟩ = some (.slice (some ⟨g, off, none⟩) l.labs.length cap) := by
      rw [pS _ _ (by simp at qK; omega), pK _ _ (by simp; omega)]
      exact (Z43 _ pL).trans b2
     have d2 : w3.cell? ⟨g, off + (k - 1) * 2, none⟩ = some (.string q) := by
      rw [pS _ _ (by simp at qK; omega), pK _ _ (by simp; omega)]
      exact (Z43 _ rH).trans hq
     have d3 : w3.cell? ⟨wr.1.size, 0, none⟩ = some (.string xp) := by
      rw [pS _ _ (by simp at qK; omega), pK _ _ (by simp)]
      simp [go_sem]
     have HB : Hid (Below (w.1.size + 1) (w.alloc (.cells #[.string l.name, .int .i64 l.pre, .slice (some ⟨g, off, none⟩) l.labs.length cap, .int .i64 l.min, .int .i64 l.cents] 63)) w3) := Z01 (Z0l hB pL pA) (by have := pA.size; simp at this; omega) pF
     have HE : Hid (Below w.1.size w w3) := Z01 (Z0l pJ (by omega) pA) (by have := pA.size; simp at this; omega) pF
     clear pK pS pW qL pA pF hB pJ b1 b2 c1 c2 hq qK
     have rQ : decide (0 < k) = true := by simpa using k0
     have rR : decide ((0 : Int) < (k : Int)) = true := by simp; omega
     have tI : 0 <= (k : Int) - 1 := by omega
     have uG : ((k : Int) - 1).toNat = k - 1 := by omega
     have uH : (k : Int) - 1 < (l.labs.length : Int) := by omega
     have uI : 1 <= k := by omega
     have uJ : k - 1 < l.labs.length := by omega
     have pZ : IntKind.i64.wrap ((k : Int) - 1) = (k : Int) - 1 := IntWalk.i64_in _ (by omega)
     cases hq : ltB q xp
     ·rw [hq] at sH
      have HR := Z0 (rO.out hq)
      go_quiet (fail)
      clear pZ
      go_wp2_with fail
      go_ret
      exact ⟨Z0d HR.out.symm, below_drewN HE.out _⟩
     ·rw [hq] at sH
      have HR := Z0 (rP.out hq)
      go_quiet (fail)
      clear pZ
      go_wp2_with fail
      go_roundw
      case rel => exact ⟨k + 1, by omega, by go_num, HN'.out HR.out, below_drewN HB.out _⟩
      case measure => simp [intOf]; omega
    ·have rQ : decide (0 < k) = false := by simp; omega
     have rR : decide ((0 : Int) < (k : Int)) = false := by simp; omega
     go_wp2_with (first | (go_at_call 110; refine (Z1R _ _ x1).mono ?_; rintro e w2 ⟨rfl, pA⟩; obtain ⟨pK, pW⟩ := Z2K pA; have qK := pA.size) | (go_at_call 115; refine (Z1b _ _ x2).mono ?_; rintro e w3 ⟨rfl, pF⟩; obtain ⟨pS, qL⟩ := Z2K pF))
     go_quiet (fail)
     go_wp2_with fail
     go_roundw
     case rel => exact ⟨k + 1, by omega, by go_num, HN'.out (fun j hj => by omega), below_drewN (Z01 (Z0l hB pL pA) (by have := pA.size; simp at this; omega) pF) _⟩
     case measure => simp [intOf]; omega
  ·have HR := Z0 (HT.out (by obtain rfl : k = l.labs.length := (by omega); exact ha.out))
   go_wp2_with fail
   go_ret
   exact ⟨Z0d HR.out.symm, pJ⟩
theorem ZbK (l : Lev) (v : Value) (last : Bool) (w : World) (hf : Z0K l) (hr : RdLabs w v l.labs) :
 Calls Tryz.prog 80 #[lvA l v, .bool last] w fun e w' => e = .returned (.bool (Z0S l last)) /\ Below w.1.size w w' := by
 cases hh : Z4h l
 ·exact ZaB l v last w hf hh
 ·cases last
  ·by_cases hm : l.min < 1 \/ 2000 < l.min
   ·exact ZbJ l v w hf hh hm
   ·exact ZaA l v w hf hh (by omega) (by omega) hr
  ·exact Zaz l v w hf hh (by obtain ⟨a, cap, h, _⟩ := hr; exact ⟨a, cap, h⟩)
end
section
open Go.RowKit
def ZaO (a b : ByteArray) : Int := if ltB a b then -1 else if ltB b a then 1 else 0
theorem Z7h (s : ByteArray) (w : World) : Calls Tryz.prog 169 #[.string s] w fun e w' => e = .returned (.bool false) /\ w = w' := by
 go_enter Tryz.func169, Tryz.ntmps169
 go_wp2
 go_ret
 exact ⟨by simp, rfl⟩
theorem ZbZ (a b : ByteArray) (w : World) : Calls Tryz.prog 142 #[.string a, .string b] w fun e w' => e = .returned (.int .i64 (ZaO a b)) /\ w = w' := by
 have h1 := ZfM a b
 have h3 := ba_eq a b
 have HC : Hid (ZaO a b = if ltB a b then -1 else if ltB b a then 1 else 0) := rfl
 rcases Z7b a b with h | h | h
 ·rw [h] at h1 HC
  rw [Kad (Z3C h)] at h3
  generalize ZaO a b = c at HC
  clear h
  go_enter Tryz.func142, Tryz.ntmps142
  go_wp2_with (go_at_call 169; refine (Z7h _ _).mono ?_; rintro e w' ⟨rfl, rfl⟩)
  go_ret
  exact ⟨Z6N (by rw [HC.out]; rfl), rfl⟩
 ·have pK : ZaO a b = 0 := by unfold ZaO; rw [h]; simp [Z1F]
  have sI := Z0 pK
  clear pK
  rw [h, Z1F] at h1
  rw [Kac h] at h3
  have h1' : Op.bytesLess a.toList b.toList = false := by rw [h]; exact h1
  generalize ZaO a b = c at sI
  clear h h1 HC
  go_enter Tryz.func142, Tryz.ntmps142
  go_wp2_with (go_at_call 169; refine (Z7h _ _).mono ?_; rintro e w' ⟨rfl, rfl⟩)
  go_ret
  exact ⟨Z6N (by rw [sI.out]), rfl⟩
 ·rw [Z3D h] at h1 HC
  rw [h] at HC
  rw [Kad (fun e => Z3C h e.symm)] at h3
  generalize ZaO a b = c at HC
  clear h
  go_enter Tryz.func142, Tryz.ntmps142
  go_wp2_with (go_at_call 169; refine (Z7h _ _).mono ?_; rintro e w' ⟨rfl, rfl⟩)
  go_ret
  exact ⟨Z6N (by rw [HC.out]; rfl), rfl⟩
theorem Z3d (x : Lab) (p : ByteArray) (w : World) : Calls Tryz.prog 141 #[.agg #[.string x.pre, .string x.grp], .string p] w fun e w' => e = .returned (.int .i64 (ZaO x.pre p)) /\ Below w.1.size w w' := by
 go_enter Tryz.func141, Tryz.ntmps141
 go_wp2_with (go_at_call 142; refine (ZbZ _ _ _).mono ?_; rintro e w' ⟨rfl, rfl⟩)
 go_ret
 exact ⟨rfl, (Z9 _ w).alloc (Z1 _) _⟩
theorem Zi6 {a b : ByteArray} (h : ltB a b = true) : ZaO a b < 0 := by unfold ZaO; simp [h]
theorem Zi5 {a b : ByteArray} (h : ltB a b = false) : 0 <= ZaO a b := by unfold ZaO; simp [h]; split <;> omega
theorem Zgm {a b : ByteArray} : (ZaO a b == 0) = decide (a = b) := by
 unfold ZaO
 rcases Z7b a b with h | h | h
 ·rw [h, Kad (Z3C h)]; rfl
 ·rw [h, Z1F]; simp
 ·rw [h, Z3D h, Kad (fun e => Z3C h e.symm)]; rfl
def Z1I (labs : List Lab) (p : ByteArray) : Option ByteArray := (labs.find? (fun x => decide (x.pre = p))).map (·.grp)
theorem Z4x {labs : List Lab} (h : Z26 labs) {s t : Nat} (uK : s < t) (ht : t < labs.length) : ltB (labs[s]'(by omega)).pre labs[t].pre = true := by
 induction t with
 | zero => omega
 | succ t ih =>
  by_cases e : s = t
  ·subst e; exact h s ht
  ·exact Z2Y (ih (by omega) (by omega)) (h t ht)
theorem ZhQ {labs : List Lab} (h : Z26 labs) {i : Nat} (hi : i < labs.length) : Z1I labs labs[i].pre = some labs[i].grp := by
 unfold Z1I
 have tJ : labs.find? (fun x => decide (x.pre = labs[i].pre)) = some labs[i] := Kdl.2 ⟨by simp, i, hi, rfl, fun j hj => by
  simp only [Bool.not_eq_true', decide_eq_false_iff_not]
  exact Z3C (Z4x h hj hi)⟩
 rw [tJ]
 rfl
theorem ZdX {labs : List Lab} {p : ByteArray} (h : ∀ i (hi : i < labs.length), labs[i].pre ≠ p) : Z1I labs p = none := by
 unfold Z1I
 rw [List.find?_eq_none.2 (fun x hx => by
  obtain ⟨i, hi, rfl⟩ := Kau.1 hx
  simpa using h i hi)]
 rfl
theorem search_end {labs : List Lab} {p : ByteArray} (h : Z26 labs) {i : Nat} (h1 : ∀ t, t < i -> ∀ ht : t < labs.length, ltB labs[t].pre p = true) (h2 : ∀ t, i <= t -> ∀ ht : t < labs.length, ltB labs[t].pre p = false) :
 (∀ hi : i < labs.length, labs[i].pre = p -> Z1I labs p = some labs[i].grp) /\ ((∀ hi : i < labs.length, labs[i].pre ≠ p) -> Z1I labs p = none) := by
 constructor
 ·rintro hi rfl; exact ZhQ h hi
 ·intro hn
  refine ZdX (fun t ht => ?_)
  rcases Nat.lt_trichotomy t i with pB | rfl | tK
  ·exact Z3C (h1 t pB ht)
  ·exact hn ht
  ·have hi : i < labs.length := by omega
   have ha := Z4x h tK ht
   have hb := h2 i (Z1 _) hi
   rcases Z7b labs[i].pre p with hc | hc | hc
   ·rw [hc] at hb; cases hb
   ·exact absurd hc (hn hi)
   ·exact fun e => Z3C (Z2Y hc ha) e.symm
theorem Zds (labs : List Lab) (p : ByteArray) (v : Value) (w : World) (hl : labs.length <= 100000) (hr : RdLabs w v labs) (hs : Z26 labs) :
 Calls Tryz.prog 140 #[v, .string p, .func (.func 141) #[] #[]] w fun e w' => ∃ (i : Nat) (b : Bool), e = .returned (.tuple #[.int .i64 i, .bool b]) /\ Below w.1.size w w' /\
  ((b = true /\ ∃ hi : i < labs.length, Z1I labs p = some labs[i].grp) \/ (b = false /\ Z1I labs p = none)) := by
 obtain ⟨a, cap, rfl, hc⟩ := hr
 have HC := Z0 hc
 have HS := Z0 hs
 clear hc hs
 go_enter Tryz.func140, Tryz.ntmps140
 go_wp2_with fail
 go_loopw [9, 10] (fun vi vj wr => ∃ i j : Nat, i <= j /\ j <= labs.length /\ vi = .int .i64 i /\ vj = .int .i64 j /\ Below w.1.size w wr /\ Hid (∀ t, t < i -> ∀ ht : t < labs.length, ltB labs[t].pre p = true) /\ Hid (∀ t, j <= t -> ∀ ht : t < labs.length, ltB labs[t].pre p = false)) (fun vi vj _ => (intOf vj).toNat - (intOf vi).toNat)
 case atStart => exact ⟨0, labs.length, ZE _, Z1 _, rfl, rfl, Z9 _ _, fun t h => by omega, fun t h ht => by omega⟩
 case round =>
  obtain ⟨i, j, uL, uM, rfl, rfl, hB, H1, H2⟩ := hrel
  by_cases pB : i < j
  ·obtain ⟨g, off, rfl, hg, pC⟩ := HC.out (by omega)
   have hm : (i + j) / 2 < labs.length := by omega
   have cl : ∀ o, wr.cell? ⟨g, o, none⟩ = w.cell? ⟨g, o, none⟩ := fun o => (hB.cell (p := ⟨g, o, none⟩) hg)
   have c1 : wr.cell? ⟨g, off + (i + j) / 2 * 2, none⟩ = some (.string labs[(i + j) / 2].pre) := (cl _).trans (pC _ hm).1
   have c2 : wr.cell? ⟨g, off + (i + j) / 2 * 2 + 1, none⟩ = some (.string labs[(i + j) / 2].grp) := (cl _).trans (pC _ hm).2
   have N1 : Hid (ltB labs[(i + j) / 2].pre p = true -> ∀ t, t < (i + j) / 2 + 1 -> ∀ ht : t < labs.length, ltB labs[t].pre p = true) := fun h t h1 ht => by
    by_cases e : t = (i + j) / 2
    ·subst e; exact h
    ·exact Z2Y (Z4x HS.out (show t < (i + j) / 2 by omega) hm) h
   have N2 : Hid (ltB labs[(i + j) / 2].pre p = false -> ∀ t, (i + j) / 2 <= t -> ∀ ht : t < labs.length, ltB labs[t].pre p = false) := fun h t h1 ht => by
    by_cases e : t = (i + j) / 2
    ·subst e; exact h
    ·cases e' : ltB labs[t].pre p
     ·rfl
     ·rw [Z2Y (Z4x HS.out (show (i + j) / 2 < t by omega) ht) e'] at h; cases h
   clear cl pC HC HS
   generalize labs[(i + j) / 2] = x at c1 c2 N1 N2
   cases hx : ltB x.pre p
   ·have rS := Zi5 hx
    have N := Z0 (N2.out hx)
    clear N1 N2 hx
    have pT := Z3d x p
    have pE := Z0 pT
    clear pT
    generalize ZaO x.pre p = cc at rS pE
    go_wp2_with (go_at_call 141; refine (pE.out _).mono ?_; rintro e w2 ⟨rfl, pA⟩)
    go_roundw
    case rel => exact ⟨i, (i + j) / 2, by omega, by omega, rfl, by go_num, Z01 hB hB.size pA, H1, N⟩
    case measure => simp [intOf]; omega
   ·have rS := Zi6 hx
    have N := Z0 (N1.out hx)
    clear N1 N2 hx
    have pT := Z3d x p
    have pE := Z0 pT
    clear pT
    generalize ZaO x.pre p = cc at rS pE
    go_wp2_with (go_at_call 141; refine (pE.out _).mono ?_; rintro e w2 ⟨rfl, pA⟩)
    go_roundw
    case rel => exact ⟨(i + j) / 2 + 1, j, by omega, by omega, by go_num, rfl, Z01 hB hB.size pA, N, H2⟩
    case measure => simp [intOf]; omega
  ·obtain rfl : i = j := by omega
   obtain ⟨F1, F2⟩ := search_end HS.out H1.out H2.out
   have qJ := Z0 F1
   have pM := Z0 F2
   clear F1 F2 H1 H2 HS
   by_cases qM : i < labs.length
   ·obtain ⟨g, off, rfl, hg, pC⟩ := HC.out (by omega)
    have cl : ∀ o, wr.cell? ⟨g, o, none⟩ = w.cell? ⟨g, o, none⟩ := fun o => (hB.cell (p := ⟨g, o, none⟩) hg)
    have c1 : wr.cell? ⟨g, off + i * 2, none⟩ = some (.string labs[i].pre) := (cl _).trans (pC _ qM).1
    have c2 : wr.cell? ⟨g, off + i * 2 + 1, none⟩ = some (.string labs[i].grp) := (cl _).trans (pC _ qM).2
    have sJ : Hid ((decide (labs[i].pre = p) = true /\ ∃ hi : i < labs.length, Z1I labs p = some labs[i].grp) \/ (decide (labs[i].pre = p) = false /\ Z1I labs p = none)) := by
     by_cases e : labs[i].pre = p
     ·exact .inl ⟨Kac e, qM, qJ.out qM e⟩
     ·exact .inr ⟨Kad e, pM.out (fun _ => e)⟩
    have hz := Zgm (a := labs[i].pre) (b := p)
    clear cl pC HC qJ pM
    have pT := Z3d labs[i] p
    generalize ZaO labs[i].pre p = cc at hz pT
    generalize decide (labs[i].pre = p) = bb at hz sJ
    have pE := Z0 pT
    clear pT
    generalize labs[i].pre = x1 at c1 pE
    generalize labs[i].grp = x2 at c2 pE
    go_wp2_with (go_at_call 141; refine (pE.out _).mono ?_; rintro e w2 ⟨rfl, pA⟩)
    go_ret2
    exact ⟨i, bb, rfl, Z01 hB hB.size pA, sJ.out⟩
   ·have hd : decide (i < labs.length) = false := by simpa using qM
    have HR := Z0 (pM.out (fun h => absurd h qM))
    go_wp2_with fail
    go_ret2
    exact ⟨i, false, rfl, hB, .inr ⟨rfl, HR.out⟩⟩
def Z0e (l : Lev) (code : ByteArray) : ByteArray := (Z1I l.labs (code.extract 0 l.pre.toNat)).getD (code.extract 0 l.pre.toNat)
theorem Z60 (l : Lev) (p : ByteArray) (v : Value) (w : World) (hf : Z0K l) (hr : RdLabs w v l.labs) (hs : Z26 l.labs) :
 Calls Tryz.prog 117 #[lvA l v, .string p] w fun e w' => e = .returned (.tuple #[.string ((Z1I l.labs p).getD ⟨#[]⟩), .bool (Z1I l.labs p).isSome]) /\ Below w.1.size w w' := by
 obtain ⟨hn, hl, hx⟩ := hf
 have hr' := hr.below ((Z9 _ w).alloc (Z1 _) (.cells #[.string l.name, .int .i64 l.pre, v, .int .i64 l.min, .int .i64 l.cents] 63))
 have pE := Z0 (Zds l.labs p v _ hl hr' hs)
 clear hx hn hs hr'
 obtain ⟨a, cap, rfl, hc⟩ := hr
 have HC := Z0 hc
 clear hc
 unfold lvA
 go_enter Tryz.func117, Tryz.ntmps117
 go_wp2_with fail
 refine pE.out.mono ?_
 rintro e w2 ⟨i, b, rfl, pA, qN⟩
 have pJ : Below w.1.size w w2 := Z0l (Z9 _ w) (Z1 _) pA
 have b2 : w2.cell? ⟨w.1.size, 2, none⟩ = some (.slice a l.labs.length cap) := (pA.cell (p := ⟨w.1.size, 2, none⟩) (by simp)).trans (by simp [go_sem])
 clear pA pE
 rcases qN with ⟨rfl, hi, pH⟩ | ⟨rfl, pH⟩
 ·obtain ⟨g, off, rfl, hg, pC⟩ := HC.out (by omega)
  have c2 : w2.cell? ⟨g, off + i * 2 + 1, none⟩ = some (.string l.labs[i].grp) := (pJ.cell (p := ⟨g, off + i * 2 + 1, none⟩) hg).trans (pC _ hi).2
  have HL := Z0 pH
  clear pH pC HC
  generalize l.labs[i].grp = x at c2 HL
  go_wp2_with fail
  go_ret2
  exact ⟨by rw [HL.out]; rfl, pJ⟩
 ·have HL := Z0 pH
  clear pH HC
  go_wp2_with fail
  go_ret2
  exact ⟨by rw [HL.out]; rfl, pJ⟩
theorem ZhV {l : Lev} {c p : ByteArray} (hp : p = c.extract 0 l.pre.toNat) {x : ByteArray} (h : Z1I l.labs p = some x) : Z0e l c = x := by unfold Z0e; rw [<- hp, h]; rfl
theorem ZhW {l : Lev} {c p : ByteArray} (hp : p = c.extract 0 l.pre.toNat) (h : Z1I l.labs p = none) : Z0e l c = p := by unfold Z0e; rw [<- hp, h]; rfl
theorem ZaC (l : Lev) (c : ByteArray) (v : Value) (w : World) (hf : Z0K l) (hr : RdLabs w v l.labs) (hs : Z26 l.labs) (h0 : 0 <= l.pre) (h1 : l.pre <= c.size) (qW : c.size <= maxLen) :
 Calls Tryz.prog 85 #[lvA l v, .string c] w fun e w' => e = .returned (.string (Z0e l c)) /\ Below w.1.size w w' := by
 have hr' := hr.below ((Z9 _ w).alloc (Z1 _) (.cells #[.string l.name, .int .i64 l.pre, v, .int .i64 l.min, .int .i64 l.cents] 63))
 have pE := Z0 (fun p => Z60 l p v _ hf hr' hs)
 clear hr' hf hr hs
 unfold maxLen at qW
 obtain ⟨n, hn⟩ : ∃ n : Nat, l.pre = n := ⟨l.pre.toNat, by omega⟩
 have HN := Z0 hn
 have e0 : Hid (∀ p, p = c.extract 0 n -> p = c.extract 0 l.pre.toNat) := fun p h => by rw [h, HN.out]; rfl
 unfold lvA at pE ⊢
 rw [hn] at pE ⊢ h1
 clear hn HN h0
 go_enter Tryz.func85, Tryz.ntmps85
 go_wp2_with fail
 refine (pE.out _).mono ?_
 rintro e w2 ⟨rfl, pA⟩
 have pJ : Below w.1.size w w2 := Z0l (Z9 _ w) (Z1 _) pA
 clear pA
 cases pH : Z1I l.labs (c.extract 0 n) with
 | none =>
  have HG := Z0 (ZhW (e0.out _ rfl) pH)
  clear pH pE
  go_wp2_with fail
  go_ret
  exact ⟨ZeZ HG.out.symm, pJ⟩
 | some x =>
  have HG := Z0 (ZhV (e0.out _ rfl) pH)
  clear pH pE
  go_wp2_with fail
  go_ret
  exact ⟨ZeZ HG.out.symm, pJ⟩
end
section
open Go.RowKit Go.Maps Go.WideMaps
structure ElemLaw (E : TypeId) (α : Type) (enc : α -> Lit) (val : α -> Value) (ok : α -> Prop) (z0 : α) : Prop where
 lay : ∀ x, ok x -> plainElem (H := Unit) Tryz.prog E (val x) = some (.lit (enc x), [])
 inv : ∀ v x ps, plainElem (H := Unit) Tryz.prog E v = some (.lit (enc x), ps) -> v = val x
 zero : ∀ w, (zeroValue E).run Tryz.prog w = .ok (val z0) w
 okz : ok z0
theorem ZeN : ElemLaw 9 ByteArray (fun s => .string s.data.toList) Value.string (fun s => s.size <= maxLen) ⟨#[]⟩ where
 lay := fun x h => plainElem_string Tryz.underlying9 h
 inv := fun v x ps h => by
  obtain ⟨s, rfl, hz, _⟩ := plainElem_string_inv Tryz.underlying9 h
  simp only [Prod.mk.injEq, DataW.lit.injEq, Lit.string.injEq] at hz
  rw [Z7B hz.1]
 zero := fun w => by kernel_rfl
 okz := by decide
theorem Z4E {e : TypeId} (he : Tryz.prog.underlying e = some .bool) {v : Value} {z : DataW Unit × List MemPlace} (h : plainElem Tryz.prog e v = some z) : ∃ s : Bool, v = .bool s /\ z = (.lit (.bool s), []) := by
 unfold plainElem at h
 rw [he] at h
 cases v <;> simp at h
 exact ⟨_, rfl, h.symm⟩
theorem Z3K : ElemLaw 4 Bool Lit.bool Value.bool (fun _ => True) false where
 lay := fun x h => plainElem_bool Tryz.underlying4 x
 inv := fun v x ps h => by
  obtain ⟨s, rfl, hz⟩ := Z4E Tryz.underlying4 h
  simp only [Prod.mk.injEq, DataW.lit.injEq, Lit.bool.injEq] at hz
  rw [hz.1]
 zero := fun w => by kernel_rfl
 okz := trivial
theorem intLaw : ElemLaw 3 Int (Lit.int .i64) (Value.int .i64) (fun n => (Lit.int .i64 n).wf = true) 0 where
 lay := fun x h => plainElem_int Tryz.underlying3 h
 inv := fun v x ps h => by
  obtain ⟨s, rfl, hz, _⟩ := plainElem_int_inv Tryz.underlying3 h
  simp only [Prod.mk.injEq, DataW.lit.injEq, Lit.int.injEq, true_and] at hz
  rw [hz.1]
 zero := fun w => by kernel_rfl
 okz := by decide
def Z7L (s : ByteArray) : Lit := .string s.data.toList
def OwnsF {α : Type} (E : TypeId) (enc : α -> Lit) (w : World) (B n : Nat) (f : ByteArray -> Option α) : Prop :=
 ∃ D : DataW Unit, w.ownsMap Tryz.prog 9 (plainElem Tryz.prog E) B n D /\ ∀ s, (f s = none -> Maps.has D (Z7L s) = false) /\ ∀ x, f s = some x -> Maps.has D (Z7L s) = true /\ ∀ zd, D.atKey (Z7L s) zd = .lit (enc x)
section
variable {α : Type} {E : TypeId} {enc : α -> Lit} {val : α -> Value} {ok : α -> Prop} {z0 : α} {w w' : World} {B n : Nat} {f : ByteArray -> Option α}
theorem OwnsF.made (w : World) : OwnsF E enc (w.alloc (.map #[] 0)) w.1.size 0 (fun _ => none) :=
 ⟨.map [], World.ownsMap_made _ _ _ _, fun s => ⟨fun _ => rfl, fun x h => by cases h⟩⟩
theorem OwnsF.kept {row : Option Nat} (h : OwnsF E enc w B n f) (hg : w.grownBy w' row) (pD : some B ≠ row) : OwnsF E enc w' B n f := by
 obtain ⟨D, hD, hf⟩ := h
 exact ⟨D, hD.kept hg pD, hf⟩
theorem OwnsF.below (h : OwnsF E enc w B n f) (hb : Below w.1.size w w') : OwnsF E enc w' B n f := h.kept (Z0a hb) (by simp)
theorem OwnsF.alloc (h : OwnsF E enc w B n f) (o : Obj) : OwnsF E enc (w.alloc o) B n f := h.below ((Z9 _ w).alloc (Z1 _) o)
theorem OwnsF.lt (h : OwnsF E enc w B n f) : B < w.1.size := by obtain ⟨D, hD, _⟩ := h; exact hD.lt
theorem Z2n : Keyed Tryz.prog 9 := string_keyed Tryz.underlying9
theorem OwnsF.look (L : ElemLaw E α enc val ok z0) (h : OwnsF E enc w B n f) {t : TypeId} (ht : Tryz.prog.underlying t = some (.map 9 E)) {s : ByteArray} (hs : s.size <= maxLen) :
 (Instr.lookup t (.map (some B)) (.string s) false).run Tryz.prog w = .ok (val ((f s).getD z0)) w := by
 obtain ⟨D, hD, hf⟩ := h
 obtain ⟨v, ps, pG, hv⟩ := hD.lookup Z2n ht (L.zero w) (L.lay z0 L.okz) (keyOf_string_mk Tryz.underlying9 hs)
 rw [pG]
 obtain ⟨h1, h2⟩ := hf s
 cases pU : f s with
 | none =>
  have := h1 pU
  rw [show (Lit.string s.data.toList) = Z7L s from rfl, atKey_of_not_has this] at hv
  rw [L.inv _ _ _ hv]
  rfl
 | some x =>
  rw [show (Lit.string s.data.toList) = Z7L s from rfl, (h2 x pU).2] at hv
  rw [L.inv _ _ _ hv]
  rfl
theorem OwnsF.lookOk (L : ElemLaw E α enc val ok z0) (h : OwnsF E enc w B n f) {t : TypeId} (ht : Tryz.prog.underlying t = some (.map 9 E)) {s : ByteArray} (hs : s.size <= maxLen) :
 (Instr.lookup t (.map (some B)) (.string s) true).run Tryz.prog w = .ok (.tuple #[val ((f s).getD z0), .bool (f s).isSome]) w := by
 obtain ⟨D, hD, hf⟩ := h
 obtain ⟨v, ps, pG, hv⟩ := hD.look_ok Z2n ht (L.zero w) (L.lay z0 L.okz) (keyOf_string_mk Tryz.underlying9 hs)
 rw [pG]
 obtain ⟨h1, h2⟩ := hf s
 cases pU : f s with
 | none =>
  have := h1 pU
  rw [show (Lit.string s.data.toList) = Z7L s from rfl] at hv ⊢
  rw [atKey_of_not_has this] at hv
  rw [L.inv _ _ _ hv, this]
  rfl
 | some x =>
  rw [show (Lit.string s.data.toList) = Z7L s from rfl] at hv ⊢
  rw [(h2 x pU).2] at hv
  rw [L.inv _ _ _ hv, (h2 x pU).1]
  rfl
theorem ZcN {a b : ByteArray} (h : Z7L a = Z7L b) : a = b := by unfold Z7L at h; injection h with h; exact Z7B h
theorem OwnsF.update (L : ElemLaw E α enc val ok z0) (h : OwnsF E enc w B n f) {t : TypeId} (ht : Tryz.prog.underlying t = some (.map 9 E)) (hn : n < maxLen) {s : ByteArray} (hs : s.size <= maxLen) {x : α} (hx : ok x) :
 ∃ w', (Instr.mapUpdate t (.map (some B)) (.string s) (val x)).run Tryz.prog w = .ok () w' /\ OwnsF E enc w' B (n + 1) (fun u => if u = s then some x else f u) /\ w.grownBy w' (some B) := by
 obtain ⟨D, hD, hf⟩ := h
 obtain ⟨w', pG, h1, h2⟩ := hD.update Z2n ht hn (keyOf_string_mk Tryz.underlying9 hs) (L.lay x hx)
 refine ⟨w', pG, ⟨_, h1, fun u => ?_⟩, h2⟩
 have hm := hD.isMap
 have hk : WideAt.IsKeyLit (Z7L s) := trivial
 dsimp only
 by_cases e : u = s
 ·subst e
  rw [if_pos rfl]
  exact ⟨fun h => (by cases h), fun y hy => by
   injection hy with hy
   subst hy
   exact ⟨has_put_same hm hk _, fun zd => atKey_put_same hm hk _ zd⟩⟩
 ·rw [if_neg e]
  have pD : Z7L u ≠ Z7L s := fun h => e (ZcN h)
  exact ⟨fun h => by rw [<- (hf u).1 h]; exact has_put_other pD _, fun y hy => ⟨by rw [<- ((hf u).2 y hy).1]; exact has_put_other pD _, fun zd => by rw [<- ((hf u).2 y hy).2 zd]; exact atKey_put_other pD _ _⟩⟩
end
end
section
open Go.RowKit Go.Maps
def BoxLev (w : World) (X : Nat) (l : Lev) (v : Value) : Prop :=
 w.cell? ⟨X, 0, none⟩ = some (.string l.name) /\ w.cell? ⟨X, 1, none⟩ = some (.int .i64 l.pre) /\ w.cell? ⟨X, 2, none⟩ = some v /\ w.cell? ⟨X, 3, none⟩ = some (.int .i64 l.min) /\ w.cell? ⟨X, 4, none⟩ = some (.int .i64 l.cents)
theorem BoxLev.below {w w' : World} {X : Nat} {l : Lev} {v : Value} {B : Nat} (h : BoxLev w X l v) (hb : Below B w w') (hX : X < B) : BoxLev w' X l v :=
 ⟨(hb.cell (p := ⟨X, 0, none⟩) hX).trans h.1, (hb.cell (p := ⟨X, 1, none⟩) hX).trans h.2.1, (hb.cell (p := ⟨X, 2, none⟩) hX).trans h.2.2.1, (hb.cell (p := ⟨X, 3, none⟩) hX).trans h.2.2.2.1, (hb.cell (p := ⟨X, 4, none⟩) hX).trans h.2.2.2.2⟩
theorem cell_grown {w w' : World} {row : Option Nat} {b o : Nat} {x : Value} (hg : w.grownBy w' row) (h : w.cell? ⟨b, o, none⟩ = some x) (pD : some b ≠ row) : w'.cell? ⟨b, o, none⟩ = some x := by
 have pB := Z5J h
 have := hg.block b pB pD
 rw [<- h]
 simp only [World.cell?, this]
theorem BoxLev.grown {w w' : World} {row : Option Nat} {X : Nat} {l : Lev} {v : Value} (h : BoxLev w X l v) (hg : w.grownBy w' row) (hX : some X ≠ row) : BoxLev w' X l v :=
 ⟨cell_grown hg h.1 hX, cell_grown hg h.2.1 hX, cell_grown hg h.2.2.1 hX, cell_grown hg h.2.2.2.1 hX, cell_grown hg h.2.2.2.2 hX⟩
theorem RdLabs.grown {w w' : World} {row : Option Nat} {v : Value} {ls : List Lab} (h : RdLabs w v ls) (hg : w.grownBy w' row) (pD : ∀ a l c, v = .slice (some a) l c -> some a.block ≠ row) : RdLabs w' v ls := by
 obtain ⟨a, cap, rfl, hc⟩ := h
 exact ⟨a, cap, rfl, fun h0 => by
  obtain ⟨g, off, rfl, hg', pC⟩ := hc h0
  have hn := pD _ _ _ rfl
  exact ⟨g, off, rfl, ZH hg' hg.size, fun i h => ⟨cell_grown hg (pC i h).1 hn, cell_grown hg (pC i h).2 hn⟩⟩⟩
def Z7W (f : ByteArray -> Option ByteArray) (name g : ByteArray) : Bool := match f name with | none => true | some o => decide (o = g)
abbrev OwnsSS := OwnsF 9 (fun s : ByteArray => Lit.string s.data.toList)
theorem ZcS {l : Lev} {c : ByteArray} (hf : Z0K l) (hc : c.size <= maxLen) : (Z0e l c).size <= maxLen := by
 unfold Z0e Z1I
 cases h : l.labs.find? (fun x => decide (x.pre = c.extract 0 l.pre.toNat)) with
 | none => simp; omega
 | some x => exact (hf.2.2 x (Kc6 h)).2
theorem ZcY (next : Lev) (v : Value) (name p : ByteArray) (A X B n : Nat) (f : ByteArray -> Option ByteArray) (w : World) (hA : w.cell? ⟨A, 0, none⟩ = some (.map (some B))) (hX : BoxLev w X next v) (pI : OwnsSS w B n f) (hn : n < 1000000)
 (hf : Z0K next) (hr : RdLabs w v next.labs) (hs : Z26 next.labs) (h0 : 0 <= next.pre) (h1 : next.pre <= p.size) (qX : p.size <= maxLen) (rT : name.size <= maxLen) :
 Calls Tryz.prog 116 #[.string name, .string p, .pointer (some ⟨A, 0, none⟩), .pointer (some ⟨X, 0, none⟩)] w fun e w' => e = .returned (.bool (Z7W f name (Z0e next p))) /\ OwnsSS w' B (n + 1) (fun u => if u = name then some (Z0e next p) else f u) /\ w.grownBy w' (some B) := by
 have qA := pI.lookOk ZeN Tryz.underlying213 rT
 have uN := Z5J hA
 have uO := Z5J hX.1
 have tL : A ≠ B := fun e => by
  obtain ⟨D, ⟨es, cl, hb, _⟩, _⟩ := pI
  subst e
  simp [World.cell?, hb] at hA
 have pE : Hid (∀ W, Below w.1.size w W -> Calls Tryz.prog 85 #[lvA next v, .string p] W fun e w' => e = .returned (.string (Z0e next p)) /\ ∃ w3, Below w.1.size w w' /\ (Instr.mapUpdate 213 (.map (some B)) (.string name) (.string (Z0e next p))).run Tryz.prog w' = .ok () w3 /\ OwnsSS w3 B (n + 1) (fun u => if u = name then some (Z0e next p) else f u) /\ w.grownBy w3 (some B) /\
  (Instr.lookup 213 (.map (some B)) (.string name) false).run Tryz.prog w3 = .ok (.string (Z0e next p)) w3 /\ w3.cell? ⟨A, 0, none⟩ = some (.map (some B))) := fun W hW => by
  refine (ZaC next p v W hf (hr.below hW) hs h0 h1 qX).mono ?_
  rintro e w2 ⟨rfl, pA⟩
  have hb : Below w.1.size w w2 := Z01 hW hW.size pA
  obtain ⟨w3, pG, pP, pQ⟩ := (pI.below hb).update ZeN Tryz.underlying213 (by unfold maxLen; omega) rT (ZcS hf qX)
  refine ⟨rfl, w3, hb, pG, pP, ((Z0a hb).but _).trans pQ, ?_, cell_grown (((Z0a hb).but (some B)).trans pQ) hA (fun e => tL (by injection e))⟩
  have := pP.look ZeN Tryz.underlying213 rT
  simpa using this
 obtain ⟨x0, x1, x2, x3, x4⟩ := hX
 have qB : Hid (Z7W f name (Z0e next p) = match f name with | none => true | some o => decide (o = Z0e next p)) := rfl
 clear pI hf hr hs
 unfold lvA at pE
 generalize Z0e next p = gp at pE qB
 generalize Z7W f name gp = res at qB
 cases pO : f name with
 | none =>
  rw [pO] at qA qB
  have HR : Hid (res = true) := qB.out
  clear qB pO
  go_enter Tryz.func116, Tryz.ntmps116
  go_wp2_with fail
  go_region_with (go_at_call 85; refine (pE.out _ (Z9 _ w).drew).mono ?_; rintro e w2 ⟨rfl, w3, pA, pG, pP, pQ, tM, tN⟩; obtain ⟨pK, pW⟩ := Z2K pA)
  all_goals
   clear pK pW qA hA x0 x1 x2 x3 x4 pG pA
   go_wp2_with fail
   go_ret
   exact ⟨Z0d HR.out.symm, pP, pQ⟩
 | some o =>
  rw [pO] at qA qB
  have hb := ba_eq o gp
  have HR : Hid (res = decide (o = gp)) := qB.out
  clear qB pO
  go_enter Tryz.func116, Tryz.ntmps116
  go_wp2_with fail
  go_region_with (go_at_call 85; refine (pE.out _ (Z9 _ w).drew).mono ?_; rintro e w2 ⟨rfl, w3, pA, pG, pP, pQ, tM, tN⟩; obtain ⟨pK, pW⟩ := Z2K pA)
  all_goals
   clear pK pW qA hA x0 x1 x2 x3 x4 pG pA
   go_wp2_with fail
   go_ret
   exact ⟨Z0d HR.out.symm, pP, pQ⟩
end
section
open Go.RowKit Go.Maps
def ownB (l : Lev) (x : Lab) : Bool := decide ((x.grp.size : Int) = l.pre) && Z1D x.grp && (Z1I l.labs x.grp).isNone
def Z0Q (l : Lev) (x : Lab) : List (ByteArray × ByteArray) := (x.grp, x.pre) :: if ownB l x then [(x.grp, x.grp)] else []
def Z0Y (l : Lev) (k : Nat) : List (ByteArray × ByteArray) := (l.labs.take k).flatMap (Z0Q l)
def Z5t (l next : Lev) : Prop := ∀ x ∈ l.labs.flatMap (Z0Q l), ∀ y ∈ l.labs.flatMap (Z0Q l), x.1 = y.1 -> Z0e next x.2 = Z0e next y.2
open Classical in
noncomputable def Z0Z (l next : Lev) : Bool := decide (Z5t l next)
theorem Z4c {l next : Lev} : Z0Z l next = true ↔ Z5t l next := by unfold Z0Z; simp
theorem Z9a {l next : Lev} (h : ¬ Z5t l next) : Z0Z l next = false := by unfold Z0Z; simp [h]
theorem Z5W (l : Lev) (k : Nat) (h : k < l.labs.length) : Z0Y l (k + 1) = Z0Y l k ++ Z0Q l l.labs[k] := by
 unfold Z0Y; rw [Z8 h, Kai, Kao, Kct, Ka1]
theorem Zbp (l : Lev) (k : Nat) : ∀ q ∈ Z0Y l k, q ∈ l.labs.flatMap (Z0Q l) := by
 unfold Z0Y
 intro q hq
 rw [Ka5] at hq ⊢
 obtain ⟨x, hx, hq⟩ := hq
 exact ⟨x, Kcg hx, hq⟩
theorem Z8k (l : Lev) (k : Nat) (h : k < l.labs.length) : ∀ q ∈ Z0Q l l.labs[k], q ∈ l.labs.flatMap (Z0Q l) := fun q hq =>
 Ka5.2 ⟨_, Z4 h, hq⟩
def Zc9 (next : Lev) (ps : List (ByteArray × ByteArray)) (f : ByteArray -> Option ByteArray) : Prop :=
 ∀ u, (f u = none -> ∀ q ∈ ps, q.1 ≠ u) /\ ∀ g, f u = some g -> (∃ q ∈ ps, q.1 = u) /\ ∀ q ∈ ps, q.1 = u -> Z0e next q.2 = g
theorem ZgM (next : Lev) : Zc9 next [] (fun _ => none) := fun u => ⟨fun _ q hq => (by cases hq), fun g h => (by cases h)⟩
theorem Z8Q {next : Lev} {ps : List (ByteArray × ByteArray)} {f : ByteArray -> Option ByteArray} (h : Zc9 next ps f) {name p : ByteArray} (hf : Z7W f name (Z0e next p) = true) :
 Zc9 next (ps ++ [(name, p)]) (fun u => if u = name then some (Z0e next p) else f u) := by
 intro u
 dsimp only
 by_cases e : u = name
 ·subst e
  rw [if_pos rfl]
  refine ⟨fun h => (by cases h), fun g hg => ?_⟩
  injection hg with hg
  subst hg
  refine ⟨⟨_, Kck _ (ZI.2 rfl), rfl⟩, fun q hq qG => ?_⟩
  rcases ZG.1 hq with hq | hq
  ·unfold Z7W at hf
   cases rU : f u with
   | none => exact absurd qG ((h u).1 rU q hq)
   | some o =>
    rw [rU] at hf
    rw [((h u).2 o rU).2 q hq qG]
    exact of_decide_eq_true hf
  ·obtain rfl := ZI.1 hq
   rfl
 ·rw [if_neg e]
  refine ⟨fun hn q hq => ?_, fun g hg => ?_⟩
  ·rcases ZG.1 hq with hq | hq
   ·exact (h u).1 hn q hq
   ·obtain rfl := ZI.1 hq
    exact fun h => e h.symm
  ·obtain ⟨⟨q, hq, qG⟩, h2⟩ := (h u).2 g hg
   refine ⟨⟨q, Kcn _ hq, qG⟩, fun q hq qG => ?_⟩
   rcases ZG.1 hq with hq | hq
   ·exact h2 q hq qG
   ·obtain rfl := ZI.1 hq
    exact absurd qG.symm e
theorem Zde {l next : Lev} {ps : List (ByteArray × ByteArray)} {f : ByteArray -> Option ByteArray} (h : Zc9 next ps f) {name p : ByteArray} (hf : Z7W f name (Z0e next p) = false) (hs : ∀ q ∈ ps, q ∈ l.labs.flatMap (Z0Q l)) (hq : (name, p) ∈ l.labs.flatMap (Z0Q l)) : Z0Z l next = false := by
 refine Z9a (fun hn => ?_)
 unfold Z7W at hf
 cases pO : f name with
 | none => rw [pO] at hf; cases hf
 | some o =>
  rw [pO] at hf
  obtain ⟨⟨q, pX, pY⟩, h2⟩ := (h name).2 o pO
  have := hn q (hs q pX) (name, p) hq pY
  rw [h2 q pX pY] at this
  exact of_decide_eq_false hf this
theorem ZjW {l next : Lev} {f : ByteArray -> Option ByteArray} (h : Zc9 next (Z0Y l l.labs.length) f) : Z0Z l next = true := by
 refine Z4c.2 ?_
 have e : Z0Y l l.labs.length = l.labs.flatMap (Z0Q l) := by unfold Z0Y; rw [Kas (Z1 _)]
 rw [e] at h
 intro x hx y hy sK
 cases hf : f y.1 with
 | none => exact absurd sK ((h y.1).1 hf x hx)
 | some g => rw [((h y.1).2 g hf).2 x hx sK, ((h y.1).2 g hf).2 y hy rfl]
def ZjT (l next : Lev) (v u : Value) (w : World) (k : Nat) (wr : World) : Prop :=
 ∃ n f, OwnsSS wr (w.1.size + 2) n f /\ n <= 2 * k /\ Zc9 next (Z0Y l k) f /\ Below w.1.size w wr /\ w.1.size + 4 <= wr.1.size /\
  BoxLev wr w.1.size l v /\ BoxLev wr (w.1.size + 1) next u /\ wr.cell? ⟨w.1.size + 3, 0, none⟩ = some (.map (some (w.1.size + 2)))
theorem World.grownBy_refl (w : World) (row : Option Nat) : w.grownBy w row := ⟨rfl, rfl, rfl, Z1 _, fun _ _ _ => rfl⟩
theorem Z1h {B C : Nat} {w wr w2 : World} (h : Below B w wr) (hg : wr.grownBy w2 (some C)) (hB : B <= wr.1.size) (hC : B <= C) : Below B w w2 :=
 h.grown hg hB (fun r e => by injection e with e; omega)
theorem Zgx (w : World) (l : Lev) (v : Value) (T : TypeId) : BoxLev (w.alloc (.cells #[.string l.name, .int .i64 l.pre, v, .int .i64 l.min, .int .i64 l.cents] T)) w.1.size l v := by
 unfold BoxLev; simp [go_sem]
theorem BoxLev.alloc {w : World} {X : Nat} {l : Lev} {v : Value} (h : BoxLev w X l v) (o : Obj) : BoxLev (w.alloc o) X l v :=
 h.below ((Z9 _ w).alloc (Z1 _) o) (Z5J h.1)
theorem ZdL (l next : Lev) (v u : Value) (w : World) (T T2 : TypeId) (B : Nat) (hB : B = w.1.size + 1 + 1) : ZjT l next v u w 0 ((((w.alloc (.cells #[.string l.name, .int .i64 l.pre, v, .int .i64 l.min, .int .i64 l.cents] T)).alloc (.cells #[.string next.name, .int .i64 next.pre, u, .int .i64 next.min, .int .i64 next.cents] T)).alloc (.map #[] 0)).alloc (.cells #[.map (some B)] T2)) := by
 subst hB
 refine ⟨0, fun _ => none, ?_, Z1 _, ZgM _, ?_, ?_, ?_, ?_, ?_⟩
 ·have := OwnsF.made (E := 9) (enc := fun s : ByteArray => Lit.string s.data.toList) ((w.alloc (.cells #[.string l.name, .int .i64 l.pre, v, .int .i64 l.min, .int .i64 l.cents] T)).alloc (.cells #[.string next.name, .int .i64 next.pre, u, .int .i64 next.min, .int .i64 next.cents] T))
  have e : ((w.alloc (.cells #[.string l.name, .int .i64 l.pre, v, .int .i64 l.min, .int .i64 l.cents] T)).alloc (.cells #[.string next.name, .int .i64 next.pre, u, .int .i64 next.min, .int .i64 next.cents] T)).1.size = w.1.size + 2 := by simp
  rw [e] at this
  exact this.alloc _
 ·exact ((((Z9 _ w).alloc (Z1 _) _).alloc (by simp) _).alloc (by simp; omega) _).alloc (by simp; omega) _
 ·simp
 ·exact (((Zgx w l v T).alloc _).alloc _).alloc _
 ·have := Zgx (w.alloc (.cells #[.string l.name, .int .i64 l.pre, v, .int .i64 l.min, .int .i64 l.cents] T)) next u T
  have e : (w.alloc (.cells #[.string l.name, .int .i64 l.pre, v, .int .i64 l.min, .int .i64 l.cents] T)).1.size = w.1.size + 1 := by simp
  rw [e] at this
  exact (this.alloc _).alloc _
 ·simp [go_sem]
theorem Z4P {l next : Lev} {v u : Value} {w wr w' : World} {k n' : Nat} {f' : ByteArray -> Option ByteArray} (hB : Below w.1.size w wr) (hz : w.1.size + 4 <= wr.1.size) (hL : BoxLev wr w.1.size l v) (hN : BoxLev wr (w.1.size + 1) next u) (hA : wr.cell? ⟨w.1.size + 3, 0, none⟩ = some (.map (some (w.1.size + 2))))
 (hg : wr.grownBy w' (some (w.1.size + 2))) (ho : OwnsSS w' (w.1.size + 2) n' f') (hn : n' <= 2 * k) (hf : Zc9 next (Z0Y l k) f') : ZjT l next v u w k w' :=
 ⟨n', f', ho, hn, hf, Z1h hB hg (by omega) (by omega), Kaw hz hg.size, hL.grown hg (by simp), hN.grown hg (by simp), cell_grown hg hA (by simp)⟩
theorem Zfj {l : Lev} {k : Nat} (h : k < l.labs.length) (ho : ownB l l.labs[k] = false) : Z0Y l (k + 1) = Z0Y l k ++ [(l.labs[k].grp, l.labs[k].pre)] := by
 rw [Z5W l k h]; unfold Z0Q; rw [ho]; rfl
theorem Zfi {l : Lev} {k : Nat} (h : k < l.labs.length) (ho : ownB l l.labs[k] = true) : Z0Y l (k + 1) = (Z0Y l k ++ [(l.labs[k].grp, l.labs[k].pre)]) ++ [(l.labs[k].grp, l.labs[k].grp)] := by
 rw [Z5W l k h]; unfold Z0Q; rw [ho]; simp
theorem Zfk {l : Lev} {k : Nat} (h : k < l.labs.length) : (l.labs[k].grp, l.labs[k].pre) ∈ l.labs.flatMap (Z0Q l) /\ (ownB l l.labs[k] = true -> (l.labs[k].grp, l.labs[k].grp) ∈ l.labs.flatMap (Z0Q l)) :=
 ⟨Z8k l k h _ (by unfold Z0Q; simp), fun ho => Z8k l k h _ (by unfold Z0Q; rw [ho]; simp)⟩
theorem Zh2 {l : Lev} {ps : List (ByteArray × ByteArray)} {q : ByteArray × ByteArray} (h : ∀ x ∈ ps, x ∈ l.labs.flatMap (Z0Q l)) (hq : q ∈ l.labs.flatMap (Z0Q l)) : ∀ x ∈ ps ++ [q], x ∈ l.labs.flatMap (Z0Q l) := fun x hx => by
 rcases ZG.1 hx with hx | hx
 ·exact h x hx
 ·rw [ZI.1 hx]; exact hq
theorem Zay (l next : Lev) (v u : Value) (w : World) (hf : Z0K l) (pO : Z0K next) (hr : RdLabs w v l.labs) (sL : RdLabs w u next.labs) (hs : Z26 l.labs) (sM : Z26 next.labs)
 (h0 : 0 <= next.pre) (h1 : next.pre <= l.pre) (hx : ∀ x ∈ l.labs, (x.pre.size : Int) = l.pre) :
 Calls Tryz.prog 81 #[lvA l v, lvA next u] w fun e w' => e = .returned (.bool (Z0Z l next)) /\ Below w.1.size w w' := by
 have rV := @run_makeMap Tryz.prog
 obtain ⟨hn, hl, rW⟩ := hf
 have HR := Z0 hr
 have tO := Z0 sL
 have rX := Z0 rW
 have HX := Z0 hx
 have HS := Z0 hs
 have sN := Z0 sM
 have sO := Z0 pO
 have HF : Hid (Z0K l) := ⟨hn, hl, rW⟩
 have uP : Hid (Z0Z l next = Z0Z l next) := rfl
 clear hr sL rW hx hs sM pO
 obtain ⟨a, cap, hv, hc⟩ := HR.out
 subst hv
 have HC := Z0 hc
 clear hc
 unfold lvA
 go_enter Tryz.func81, Tryz.ntmps81
 go_wp2_with fail
 go_loopw [16] (fun i wr => ∃ k : Nat, k <= l.labs.length /\ i = .int .i64 k /\ ZjT l next (.slice a l.labs.length cap) u w k wr) (fun i _ => l.labs.length - (intOf i).toNat)
 case atStart => exact ⟨0, ZE _, rfl, ZdL l next _ u w _ _ _ rfl⟩
 case round =>
  clear rV
  obtain ⟨k, hk, rfl, n, f, pI, sP, qY, hB, hz, hL, hN, hA⟩ := hrel
  by_cases pB : k < l.labs.length
  ·obtain ⟨g, off, rfl, hg, pC⟩ := HC.out (by omega)
   have rH : g < wr.1.size := by omega
   have c1 : wr.cell? ⟨g, off + k * 2, none⟩ = some (.string l.labs[k].pre) := (hB.cell (p := ⟨g, _, none⟩) hg).trans (pC k pB).1
   have c2 : wr.cell? ⟨g, off + k * 2 + 1, none⟩ = some (.string l.labs[k].grp) := (hB.cell (p := ⟨g, _, none⟩) hg).trans (pC k pB).2
   have x1 := (rX.out _ (Z4 pB)).1
   have x2 := (rX.out _ (Z4 pB)).2
   have x3 := HX.out _ (Z4 pB)
   have P1 := Z0 (Zfj pB)
   have P2 := Z0 (Zfi pB)
   have PM := Z0 (Zfk pB)
   have PS := Z0 (Zbp l k)
   have qX : next.pre <= (l.labs[k].pre.size : Int) := by omega
   have HO : Hid (ownB l l.labs[k] = (decide ((l.labs[k].grp.size : Int) = l.pre) && Z1D l.labs[k].grp && (Z1I l.labs l.labs[k].grp).isNone)) := rfl
   have X3 := Z0 x3
   clear x3 pC HC HX rX
   generalize ownB l l.labs[k] = ob at P1 P2 PM HO
   generalize l.labs[k].pre = xp at c1 x1 P1 P2 PM qX X3
   generalize l.labs[k].grp = xg at c2 x2 P1 P2 PM HO
   obtain ⟨wx, rI⟩ : ∃ wx : World, wx = wr.alloc (.cells #[.string xp, .string xg] 150) := ⟨_, rfl⟩
   have gx : wr.grownBy wx (some (w.1.size + 2)) := by rw [rI]; exact World.grownBy_alloc _ _ _
   have sQ : Hid (∀ W : World, Below w.1.size w W -> RdLabs W u next.labs) := fun W h => tO.out.below h
   have F1 := ZcY next u xg xp (w.1.size + 3) (w.1.size + 1) (w.1.size + 2) n f wx (cell_grown gx hA (by simp)) (hN.grown gx (by simp)) (by rw [rI]; exact pI.alloc _) (by omega) sO.out (sQ.out _ (Z1h hB gx (by omega) (by omega))) sN.out h0 qX x1 x2
   rw [rI] at F1 gx
   clear rI
   go_wp2_with fail
   refine F1.mono ?_
   rintro e w2 ⟨rfl, rY, qC⟩
   have g2 : wr.grownBy w2 (some (w.1.size + 2)) := gx.trans qC
   have L2 := hL.grown g2 (by simp)
   have N2 := hN.grown g2 (by simp)
   have A2 := cell_grown g2 hA (by simp)
   have B2 := Z1h hB g2 (by omega) (by omega)
   have z2 := Kaw hz g2.size
   have e2 : wr.1.size < w2.1.size := ZH (by simp) qC.size
   have d2 : w2.cell? ⟨wr.1.size, 1, none⟩ = some (.string xg) := cell_grown qC (by simp [go_sem]) (by simp; omega)
   clear F1 gx qC hL hN hA pI g2 hB hz c1 c2 rH
   obtain ⟨l20, l21, l22, l23, l24⟩ := L2
   cases qN : Z7W f xg (Z0e next xp)
   ·have HE : Hid (Z0Z l next = false) := Zde qY qN PS.out PM.out.1
    clear rY qY qN N2 A2
    go_wp2_with fail
    go_ret
    exact ⟨Z0d HE.out.symm, B2⟩
   ·have fit2 := Z8Q qY qN
    have L2 : Hid (BoxLev w2 w.1.size l (.slice (some ⟨g, off, none⟩) l.labs.length cap)) := ⟨l20, l21, l22, l23, l24⟩
    have PS2 := Z0 (Zh2 PS.out PM.out.1)
    have H2 := Z0 fit2
    have qZ := Z0 N2
    have rJ := Z0 rY
    clear qY qN PS fit2 N2 rY
    by_cases pL : (xg.size : Int) = l.pre
    ·have pD : ((xg.size : Int) != l.pre) = false := by simpa using pL
     have sR := Z0 pL
     clear pL
     have qO := Z0 (fun W => Z1R xg W x2)
     cases qD : Z1D xg
     ·have HB : Hid (Z0Y l (k + 1) = Z0Y l k ++ [(xg, xp)]) := P1.out (by rw [HO.out, qD]; simp)
      rw [qD] at qO
      clear P1 P2 PM HO qD
      go_wp2_with (go_at_call 110; refine (qO.out _).mono ?_; rintro e w3 ⟨rfl, pF⟩)
      have g3 := (Z0a pF).but (some (w.1.size + 2))
      go_roundw
      case rel => exact ⟨k + 1, by omega, by go_num, Z4P B2 z2 L2 qZ.out A2 g3 (rJ.out.below pF) (by omega) (by rw [HB.out]; exact H2.out)⟩
      case measure => simp [intOf]; omega
     ·rw [qD] at qO
      have tI : w.1.size < w2.1.size := by omega
      have rA : Hid (∀ W, Below w2.1.size w2 W -> Calls Tryz.prog 117 #[.agg #[.string l.name, .int .i64 l.pre, .slice (some ⟨g, off, none⟩) l.labs.length cap, .int .i64 l.min, .int .i64 l.cents], .string xg] W fun e w' => e = .returned (.tuple #[.string ((Z1I l.labs xg).getD ⟨#[]⟩), .bool (Z1I l.labs xg).isSome]) /\ Below w2.1.size w2 w') := fun W hW => by
       have rZ : Below w.1.size w W := Z01 B2 (by omega) hW
       refine (Z60 l xg _ W HF.out (HR.out.below rZ) HS.out).mono ?_
       rintro e w4 ⟨rfl, pR⟩
       exact ⟨rfl, Z01 hW hW.size pR⟩
      cases qH : Z1I l.labs xg with
      | some y =>
       have HB : Hid (Z0Y l (k + 1) = Z0Y l k ++ [(xg, xp)]) := P1.out (by rw [HO.out, qH]; simp)
       rw [qH] at rA
       clear P1 P2 PM HO qD qH
       go_wp2_with (first | (go_at_call 110; refine (qO.out _).mono ?_; rintro e w3 ⟨rfl, pF⟩; obtain ⟨pS, qL⟩ := Z2K pF) | (go_at_call 117; refine (rA.out _ pF).mono ?_; rintro e w4 ⟨rfl, pR⟩))
       have g4 := (Z0a pR).but (some (w.1.size + 2))
       go_roundw
       case rel => exact ⟨k + 1, by omega, by go_num, Z4P B2 z2 L2 qZ.out A2 g4 (rJ.out.below pR) (by omega) (by rw [HB.out]; exact H2.out)⟩
       case measure => simp [intOf]; omega
      | none =>
       have rK : ob = true := by rw [HO.out, qH, qD, Kac sR.out]; rfl
       have HB := Z0 (P2.out rK)
       have HM := Z0 (PM.out.2 rK)
       rw [qH] at rA
       have tP : next.pre <= (xg.size : Int) := by have := sR.out; omega
       have pM : Hid (∀ W, Below w2.1.size w2 W -> Calls Tryz.prog 116 #[.string xg, .string xg, .pointer (some ⟨w.1.size + 3, 0, none⟩), .pointer (some ⟨w.1.size + 1, 0, none⟩)] W fun e w' => e = .returned (.bool (Z7W (fun u => if u = xg then some (Z0e next xp) else f u) xg (Z0e next xg))) /\ OwnsSS w' (w.1.size + 2) (n + 1 + 1) (fun u => if u = xg then some (Z0e next xg) else (fun u => if u = xg then some (Z0e next xp) else f u) u) /\ w2.grownBy w' (some (w.1.size + 2))) := fun W hW => by
        have sA := (Z0a hW).but (some (w.1.size + 2))
        have rZ : Below w.1.size w W := Z01 B2 (by omega) hW
        refine (ZcY next u xg xg (w.1.size + 3) (w.1.size + 1) (w.1.size + 2) (n + 1) _ W (cell_grown sA A2 (by simp)) (qZ.out.grown sA (by simp)) (rJ.out.below hW) (by omega) sO.out (sQ.out _ rZ) sN.out h0 tP x2 x2).mono ?_
        rintro e w' ⟨rfl, h1, h2⟩
        exact ⟨rfl, h1, sA.trans h2⟩
       cases qP : Z7W (fun u => if u = xg then some (Z0e next xp) else f u) xg (Z0e next xg)
       ·have HE : Hid (Z0Z l next = false) := Zde H2.out qP PS2.out HM.out
        rw [qP] at pM
        clear P1 P2 PM HO qD qH qP rK
        go_wp2_with (first | (go_at_call 110; refine (qO.out _).mono ?_; rintro e w3 ⟨rfl, pF⟩; obtain ⟨pS, qL⟩ := Z2K pF) | (go_at_call 117; refine (rA.out _ pF).mono ?_; rintro e w4 ⟨rfl, pR⟩; obtain ⟨tQ, tR⟩ := Z2K pR) | (go_at_call 116; refine (pM.out _ pR).mono ?_; rintro e w5 ⟨rfl, sS, sB⟩))
        go_ret
        exact ⟨Z0d HE.out.symm, Z1h B2 sB (by omega) (by omega)⟩
       ·have H3 := Z0 (Z8Q H2.out qP)
        rw [qP] at pM
        clear P1 P2 PM HO qD qH qP rK
        go_wp2_with (first | (go_at_call 110; refine (qO.out _).mono ?_; rintro e w3 ⟨rfl, pF⟩; obtain ⟨pS, qL⟩ := Z2K pF) | (go_at_call 117; refine (rA.out _ pF).mono ?_; rintro e w4 ⟨rfl, pR⟩; obtain ⟨tQ, tR⟩ := Z2K pR) | (go_at_call 116; refine (pM.out _ pR).mono ?_; rintro e w5 ⟨rfl, sS, sB⟩))
        go_roundw
        case rel => exact ⟨k + 1, by omega, by go_num, Z4P B2 z2 L2 qZ.out A2 sB sS (by omega) (by rw [HB.out]; exact H3.out)⟩
        case measure => simp [intOf]; omega
    ·have pD : ((xg.size : Int) != l.pre) = true := by simpa using pL
     have HB : Hid (Z0Y l (k + 1) = Z0Y l k ++ [(xg, xp)]) := P1.out (by rw [HO.out, Kad pL]; rfl)
     clear P1 P2 PM HO pL
     go_wp2_with fail
     go_roundw
     case rel => exact ⟨k + 1, by omega, by go_num, Z4P B2 z2 L2 qZ.out A2 (World.grownBy_refl _ _) rJ.out (by omega) (by rw [HB.out]; exact H2.out)⟩
     case measure => simp [intOf]; omega
  ·have HE : Hid (Z0Z l next = true) := ZjW (f := f) (by
    obtain rfl : k = l.labs.length := by omega
    exact qY)
   go_wp2_with fail
   go_ret
   exact ⟨Z0d HE.out.symm, hB⟩
end
section
open Go.RowKit Go.Maps
def LevAt (w : World) (g o : Nat) (l : Lev) (v : Value) : Prop :=
 w.cell? ⟨g, o, none⟩ = some (.string l.name) /\ w.cell? ⟨g, o + 1, none⟩ = some (.int .i64 l.pre) /\ w.cell? ⟨g, o + 2, none⟩ = some v /\ w.cell? ⟨g, o + 3, none⟩ = some (.int .i64 l.min) /\ w.cell? ⟨g, o + 4, none⟩ = some (.int .i64 l.cents)
theorem LevAt.below {w w' : World} {X o : Nat} {l : Lev} {v : Value} {B : Nat} (h : LevAt w X o l v) (hb : Below B w w') (hX : X < B) : LevAt w' X o l v :=
 ⟨(hb.cell (p := ⟨X, o, none⟩) hX).trans h.1, (hb.cell (p := ⟨X, o + 1, none⟩) hX).trans h.2.1, (hb.cell (p := ⟨X, o + 2, none⟩) hX).trans h.2.2.1, (hb.cell (p := ⟨X, o + 3, none⟩) hX).trans h.2.2.2.1, (hb.cell (p := ⟨X, o + 4, none⟩) hX).trans h.2.2.2.2⟩
def RdLevs (w : World) (v : Value) (ls : List Lev) : Prop :=
 ∃ a cap, v = .slice a ls.length cap /\ (0 < ls.length -> ∃ g off, a = some ⟨g, off, none⟩ /\ g < w.1.size /\ ∀ i (h : i < ls.length), ∃ sv, RdLabs w sv ls[i].labs /\ LevAt w g (off + i * 5) ls[i] sv)
theorem RdLevs.below {w w' : World} {v : Value} {ls : List Lev} (h : RdLevs w v ls) (hb : Below w.1.size w w') : RdLevs w' v ls := by
 obtain ⟨a, cap, hv, hc⟩ := h
 exact ⟨a, cap, hv, fun h0 => by
  obtain ⟨g, off, ha, hg, pC⟩ := hc h0
  exact ⟨g, off, ha, ZH hg hb.size, fun i h => by
   obtain ⟨sv, h1, h2⟩ := pC i h
   exact ⟨sv, h1.below hb, h2.below hb hg⟩⟩⟩
def sumTo (ls : List Lev) (k : Nat) : Nat := ((ls.take k).map (fun l => l.labs.length)).sum
theorem Z5f (ls : List Lev) (k : Nat) (h : k < ls.length) : sumTo ls (k + 1) = sumTo ls k + ls[k].labs.length := by
 unfold sumTo; rw [Z8 h, ZD, Kbo]; simp
theorem Z83 (ls : List Lev) {k m : Nat} (h : k <= m) : sumTo ls k <= sumTo ls m := by
 induction m with
 | zero => obtain rfl : k = 0 := (by omega); exact Z1 _
 | succ m ih =>
  by_cases e : k = m + 1
  ·subst e; exact Z1 _
  ·by_cases hm : m < ls.length
   ·rw [Z5f ls m hm]; have := ih (by omega); omega
   ·have : sumTo ls (m + 1) = sumTo ls m := by unfold sumTo; rw [Kas (by omega), Kas (by omega)]
    rw [this]; exact ih (by omega)
def ZjY (ls : List Lev) (k : Nat) : Prop := sumTo ls k <= 200 /\ (∀ i, i < k -> ∀ h : i < ls.length, Z0S ls[i] (decide (i + 1 = ls.length)) = true) /\
 (∀ i, i < k -> ∀ h : i < ls.length, ∀ j, j < i -> ∀ h' : j < ls.length, ls[j].name ≠ ls[i].name) /\ (∀ i, i < k -> ∀ h : i < ls.length, ∀ j, j + 1 = i -> ∀ h' : j < ls.length, ls[i].pre <= ls[j].pre)
def Zco (ls : List Lev) : Prop := 1 <= ls.length /\ ls.length <= 6 /\ ZjY ls ls.length /\ ∀ i, (h : i + 1 < ls.length) -> Z0Z ls[i] ls[i + 1] = true
open Classical in
noncomputable def Z0g (ls : List Lev) : Bool := decide (Zco ls)
theorem Z0I {ls : List Lev} : Z0g ls = true ↔ Zco ls := by unfold Z0g; simp
theorem Z1B {ls : List Lev} (h : ¬ Zco ls) : Z0g ls = false := by unfold Z0g; simp [h]
theorem Zfq {ls : List Lev} {k : Nat} (h : ZjY ls k) (hk : k < ls.length) (h1 : sumTo ls (k + 1) <= 200) (h2 : Z0S ls[k] (decide (k + 1 = ls.length)) = true) (h3 : ∀ j, j < k -> ∀ h' : j < ls.length, ls[j].name ≠ ls[k].name) (h4 : ∀ j, j + 1 = k -> ∀ h' : j < ls.length, ls[k].pre <= ls[j].pre) : ZjY ls (k + 1) := by
 obtain ⟨a, b, c, d⟩ := h
 refine ⟨h1, fun i hi h => ?_, fun i hi h => ?_, fun i hi h => ?_⟩
 all_goals by_cases e : i = k
 ·subst e; exact h2
 ·exact b i (by omega) h
 ·subst e; exact h3
 ·exact c i (by omega) h
 ·subst e; exact h4
 ·exact d i (by omega) h
theorem Z4e {l : Lev} {b : Bool} (h : Z0S l b = true) : Z26 l.labs /\ (∀ x ∈ l.labs, (x.pre.size : Int) = l.pre) /\ 0 <= l.pre /\ l.pre <= 10 := by
 obtain ⟨hh, hr⟩ := Z1a.1 h
 obtain ⟨_, h1, h2, _, _⟩ := Z1S hh
 cases b
 ·simp only [Kcc, if_false] at hr
  obtain ⟨_, hl⟩ := hr
  refine ⟨fun i hi => (hl (i + 1) hi hi).2 i rfl (by omega), fun x hx => ?_, h1, h2⟩
  obtain ⟨i, hi, rfl⟩ := Kau.1 hx
  have := (hl i hi hi).1
  unfold Z7e at this
  simp at this
  exact this.1.1
 ·simp only [if_true] at hr
  have : l.labs = [] := Kag.1 hr.2.2
  rw [this]
  exact ⟨fun i hi => by simp at hi, by simp, h1, h2⟩
def Zc8 (ls : List Lev) (k : Nat) (f : ByteArray -> Option Bool) : Prop := ∀ u, (f u = none /\ ∀ j, j < k -> ∀ h : j < ls.length, ls[j].name ≠ u) \/ (f u = some true /\ ∃ j, j < k /\ ∃ h : j < ls.length, ls[j].name = u)
theorem Zb0 {ls : List Lev} {k : Nat} {f : ByteArray -> Option Bool} (h : Zc8 ls k f) (hk : k < ls.length) : Zc8 ls (k + 1) (fun u => if u = ls[k].name then some true else f u) := by
 intro u
 dsimp only
 by_cases e : u = ls[k].name
 ·rw [if_pos e]; exact .inr ⟨rfl, k, by omega, hk, e.symm⟩
 ·rw [if_neg e]
  rcases h u with ⟨h1, h2⟩ | ⟨h1, j, hj, hj', h2⟩
  ·refine .inl ⟨h1, fun j hj h' => ?_⟩
   by_cases e' : j = k
   ·subst e'; exact fun h => e h.symm
   ·exact h2 j (by omega) h'
  ·exact .inr ⟨h1, j, by omega, hj', h2⟩
abbrev OwnsSB := OwnsF 4 Lit.bool
theorem OwnsF.drewN {α : Type} {E : TypeId} {enc : α -> Lit} {w : World} {B n : Nat} {f : ByteArray -> Option α} (h : OwnsF E enc w B n f) (q : Nat) : OwnsF E enc (w.drewN q) B n f :=
 h.kept (Z0a (below_drewN (Z9 _ _) q)) (by simp)
theorem Z2h {α : Type} {E : TypeId} {enc : α -> Lit} {val : α -> Value} {ok : α -> Prop} {z0 : α} (L : ElemLaw E α enc val ok z0) (w : World) {ops : Array Oper} {rest : List Oper} {o : Oper} {a : Act} {Q : Exit -> Act -> World -> Prop}
 (hg : o.guard = none) (m x v : Operand) (t : TypeId) (sC : o.op = Op.mapUpdate t m x v) (ht : Tryz.prog.underlying t = some (.map 9 E)) (B n : Nat) (f : ByteArray -> Option α)
 (hm : a.eval m = .map (some B)) (pI : OwnsF E enc w B n f) (hn : n < maxLen) (s : ByteArray) (hs : s.size <= maxLen) (hx : a.eval x = .string s) (y : α) (hy : ok y) (hv : a.eval v = val y)
 (hK : ∀ w', OwnsF E enc w' B (n + 1) (fun u => if u = s then some y else f u) -> w.grownBy w' (some B) -> wpList Tryz.prog ops Q rest (a.put o.dst undef) w') : wpList Tryz.prog ops Q (o :: rest) a w := by
 refine wpList_plain hg fun K' hK' => ?_
 obtain ⟨w', pG, r1, r2⟩ := pI.update L ht hn hs hy
 unfold Oper.wp
 simp [execOp, sC, hm, hx, hv, pG, Result.andThen]
 exact hK' _ _ (hK w' r1 r2)
end
section
open Go.RowKit Go.Maps
theorem Z97 {ls : List Lev} {k : Nat} (hk : k < ls.length) (h : 200 < sumTo ls (k + 1)) : Z0g ls = false :=
 Z1B (fun h' => by have := h'.2.2.1.1; have := Z83 ls (show k + 1 <= ls.length from hk); omega)
theorem Z7S {ls : List Lev} {k j : Nat} (hk : k < ls.length) (hj : j < k) (h : (ls[j]'(by omega)).name = ls[k].name) : Z0g ls = false :=
 Z1B (fun h' => h'.2.2.1.2.2.1 k hk hk j hj (by omega) h)
theorem Z74 {ls : List Lev} {k : Nat} (hk : k < ls.length) (h : Z0S ls[k] (decide (k + 1 = ls.length)) = false) : Z0g ls = false :=
 Z1B (fun h' => by have := h'.2.2.1.2.1 k hk hk; rw [h] at this; cases this)
theorem Z98 {ls : List Lev} {j : Nat} (hk : j + 1 < ls.length) (h : ls[j].pre < ls[j + 1].pre) : Z0g ls = false :=
 Z1B (fun h' => by have := h'.2.2.1.2.2.2 (j + 1) hk hk j rfl (by omega); omega)
theorem Z7R {ls : List Lev} {j : Nat} (hk : j + 1 < ls.length) (h : Z0Z ls[j] ls[j + 1] = false) : Z0g ls = false :=
 Z1B (fun h' => by have := h'.2.2.2 j hk; rw [h] at this; cases this)
def Ziz (ls : List Lev) (k : Nat) : Prop := ∀ i, i < k -> ∀ h : i + 1 < ls.length, Z0Z ls[i] ls[i + 1] = true
theorem Zdw (ls : List Lev) (v : Value) (w : World) (hr : RdLevs w v ls) (hf : ∀ l ∈ ls, Z0K l) (h1 : 1 <= ls.length) (h6 : ls.length <= 6) :
 Calls Tryz.prog 39 #[v] w fun e w' => e = .returned (.bool (Z0g ls)) /\ Below w.1.size w w' := by
 have rV := @run_makeMap Tryz.prog
 have sT := Z0 hr
 obtain ⟨a, cap, rfl, hc⟩ := hr
 obtain ⟨g, off, rfl, hg, pC⟩ := hc (by omega)
 have HC := Z0 pC
 have HF := Z0 hf
 have uQ : Hid (Z0g ls = true -> Z0g ls = true) := fun h => h
 clear pC hf hc
 go_enter Tryz.func39, Tryz.ntmps39
 go_wp2_with fail
 go_loopw [3, 19] (fun s i wr => ∃ k : Nat, k <= ls.length /\ i = .int .i64 k /\ s = .int .i64 (sumTo ls k : Nat) /\ Hid (ZjY ls k) /\ Below w.1.size w wr /\ ∃ n f, OwnsSB wr w.1.size n f /\ n <= k /\ Hid (Zc8 ls k f)) (fun _ i _ => ls.length - (intOf i).toNat)
 case atStart =>
  exact ⟨0, ZE _, rfl, rfl, ⟨ZE _, fun i h => by omega, fun i h => by omega, fun i h => by omega⟩, (Z9 _ w).alloc (Z1 _) _, 0, fun _ => none, OwnsF.made w, Z1 _, fun u => .inl ⟨rfl, fun j h => by omega⟩⟩
 case round =>
  clear rV
  obtain ⟨k, hk, rfl, rfl, rB, hB, n, f, pI, sP, rL⟩ := hrel
  by_cases pB : k < ls.length
  ·obtain ⟨sv, pH, rC⟩ := HC.out k pB
   have rH : g < wr.1.size := ZH hg hB.size
   have tS : w.1.size < wr.1.size := pI.lt
   have tT := rC.below hB hg
   obtain ⟨t0, t1, t2, t3, t4⟩ := tT
   have rD := HF.out _ (Z4 pB)
   have hS := Z5f ls k pB
   have N1 := Z0 (Z97 pB)
   have N2 : Hid (∀ j (hj : j < k), (ls[j]'(by omega)).name = ls[k].name -> Z0g ls = false) := fun j hj h => Z7S pB hj h
   have N3 := Z0 (Z74 pB)
   have sD : (f ls[k].name = none /\ Hid (∀ j, j < k -> ∀ h' : j < ls.length, ls[j].name ≠ ls[k].name)) \/ (f ls[k].name = some true /\ Hid (Z0g ls = false)) := by
    rcases rL.out ls[k].name with ⟨e1, e2⟩ | ⟨e1, j, hj, hj', e2⟩
    ·exact .inl ⟨e1, e2⟩
    ·exact .inr ⟨e1, N2.out j hj e2⟩
   have NN := Z0 (Zb0 rL.out pB)
   have OK := Z0 (Zfq rB.out pB)
   have pN : Hid (∀ j, j + 1 = k -> ∃ q : Int, w.cell? ⟨g, off + j * 5 + 1, none⟩ = some (.int .i64 q) /\ (q < ls[k].pre -> Z0g ls = false) /\ (ls[k].pre <= q -> ∀ j, j + 1 = k -> ∀ h' : j < ls.length, ls[k].pre <= ls[j].pre)) := fun j hj => by
    subst hj
    obtain ⟨sv', _, rM⟩ := HC.out j (by omega)
    exact ⟨ls[j].pre, rM.2.1, fun h => Z98 pB h, fun h i hi _ => by
     obtain rfl : i = j := by omega
     exact h⟩
   have tU : sumTo ls k <= 200 := rB.out.1
   clear rB rL rC HC HF sT
   have pZ : w.1.size <= wr.1.size := Kc0 tS
   have pV : ((k : Int) == (ls.length : Int) - 1) = decide (k + 1 = ls.length) := by rw [Kcz]; simp; omega
   generalize decide (k + 1 = ls.length) = lastB at pV N3 OK
   obtain ⟨sk, sU⟩ : ∃ x, sumTo ls k = x := ⟨_, rfl⟩
   rw [sU] at hS tU ⊢
   clear sU
   generalize ls[k] = l at t0 t1 t2 t3 t4 pH rD hS N3 sD NN OK pN
   have uR := rD.2.1
   have sE := rD.1
   by_cases tV : 200 < sk + l.labs.length
   ·have HE := Z0 (N1.out (by omega))
    clear N1 N2 N3 NN OK pN sD hS
    obtain ⟨la, lc, rfl, _⟩ := pH
    go_wp2_with fail
    go_ret
    exact ⟨Z0d HE.out.symm, hB.alloc pZ _⟩
   ·have tW : sk + l.labs.length <= 200 := by omega
    have HS := Z0 hS
    have qA := (pI.alloc (.cells #[.string l.name, .int .i64 l.pre, sv, .int .i64 l.min, .int .i64 l.cents] 63)).look Z3K Tryz.underlying174 sE
    have sV := Z0 pH
    obtain ⟨la, lc, rfl, _⟩ := pH
    clear tV hS N1 N2
    rcases sD with ⟨rE, tX⟩ | ⟨rE, HE⟩
    ·rw [rE] at qA
     clear rE
     have qQ := Z0 (ZbK l (.slice la l.labs.length lc) lastB (wr.alloc (.cells #[.string l.name, .int .i64 l.pre, .slice la l.labs.length lc, .int .i64 l.min, .int .i64 l.cents] 63)) rD (sV.out.below (hB.alloc pZ _)))
     unfold lvA at qQ
     cases qR : Z0S l lastB
     ·have HE := Z0 (N3.out qR)
      rw [qR] at qQ
      clear N3 NN OK pN qR
      go_wp2_with (go_at_call 80; refine qQ.out.mono ?_; rintro e w2 ⟨rfl, pA⟩)
      go_ret
      exact ⟨Z0d HE.out.symm, Z0l hB pZ pA⟩
     ·rw [qR] at qQ
      have OK2 := Z0 (fun a c => OK.out a qR tX.out c)
      clear N3 OK qR
      go_wp2_with (go_at_call 80; refine qQ.out.mono ?_; rintro e w2 ⟨rfl, pA⟩)
      have B2 : Below w.1.size w w2 := Z0l hB pZ pA
      have b0 : w2.cell? ⟨wr.1.size, 0, none⟩ = some (.string l.name) := (pA.cell (p := ⟨wr.1.size, 0, none⟩) (by simp)).trans (by simp [go_sem])
      have b1 : w2.cell? ⟨wr.1.size, 1, none⟩ = some (.int .i64 l.pre) := (pA.cell (p := ⟨wr.1.size, 1, none⟩) (by simp)).trans (by simp [go_sem])
      have z2 : wr.1.size < w2.1.size := ZH (by simp) pA.size
      have own2 := (pI.alloc (.cells #[.string l.name, .int .i64 l.pre, .slice la l.labs.length lc, .int .i64 l.min, .int .i64 l.cents] 63)).below pA
      have SK : Hid (sumTo ls (k + 1) <= 200) := by rw [HS.out]; exact tW
      have se : Value.int .i64 ((sk : Int) + (l.labs.length : Int)) = .int .i64 (sumTo ls (k + 1) : Nat) := by rw [HS.out]; simp
      have SE := Z0 se
      clear se
      clear pA pI qQ sV qA rD t0 t1 t2 t3 t4 HS pV
      by_cases k0 : 0 < k
      ·obtain ⟨q, hq, pX, pY⟩ := pN.out (k - 1) (by omega)
       have d1 : w2.cell? ⟨g, off + (k - 1) * 5 + 1, none⟩ = some (.int .i64 q) := (B2.cell (p := ⟨g, off + (k - 1) * 5 + 1, none⟩) hg).trans hq
       have rO := Z0 pX
       have rP := Z0 pY
       clear pX pY pN hq
       have rQ : decide (0 < k) = true := by simpa using k0
       have rR : decide ((0 : Int) < (k : Int)) = true := by simp; omega
       have sW : 0 <= (k : Int) - 1 := by omega
       have sX : ((k : Int) - 1).toNat = k - 1 := by omega
       have sY : (k : Int) - 1 < (ls.length : Int) := by omega
       have uS : 1 <= k := by omega
       have uT : k - 1 < ls.length := by omega
       have qS : IntKind.i64.wrap ((k : Int) - 1) = (k : Int) - 1 := IntWalk.i64_in _ (by omega)
       by_cases tY : q < l.pre
       ·have HE := Z0 (rO.out tY)
        go_quiet (fail)
        clear qS
        go_wp2_with fail
        go_ret
        exact ⟨Z0d HE.out.symm, below_drewN B2 _⟩
       ·have HE := Z0 (OK2.out SK.out (rP.out (by omega)))
        go_quiet (fail)
        clear qS
        go_wp2_with (at_mapUpdate; refine Z2h Z3K _ rfl _ _ _ 174 rfl Tryz.underlying174 w.1.size n f rfl (own2.drewN _) (by unfold maxLen; omega) l.name sE rfl true trivial rfl ?_; intro w3 pP pQ)
        go_roundw
        case rel => exact ⟨k + 1, by omega, by go_num, SE.out, HE, Z1h (below_drewN B2 _) pQ B2.size (Z1 _), n + 1, _, pP, by omega, NN⟩
        case measure => simp [intOf]; omega
      ·have rQ : decide (0 < k) = false := by simp; omega
       have rR : decide ((0 : Int) < (k : Int)) = false := by simp; omega
       have HE := Z0 (OK2.out SK.out (fun j hj => by omega))
       clear OK2 pN
       go_quiet (fail)
       go_wp2_with (at_mapUpdate; refine Z2h Z3K _ rfl _ _ _ 174 rfl Tryz.underlying174 w.1.size n f rfl (own2.drewN _) (by unfold maxLen; omega) l.name sE rfl true trivial rfl ?_; intro w3 pP pQ)
       go_roundw
       case rel => exact ⟨k + 1, by omega, by go_num, SE.out, HE, Z1h (below_drewN B2 _) pQ B2.size (Z1 _), n + 1, _, pP, by omega, NN⟩
       case measure => simp [intOf]; omega
    ·rw [rE] at qA
     clear rE N3 NN OK pN
     go_wp2_with fail
     go_ret
     exact ⟨Z0d HE.out.symm, hB.alloc pZ _⟩
  ·have sZ : k = ls.length := by omega
   have tA : ZjY ls ls.length := sZ ▸ rB.out
   have rF := Z0 tA
   clear rB tA sZ rL pI sP
   obtain ⟨wo, tB⟩ : ∃ wo : World, wo = wr := ⟨_, rfl⟩
   have BO : Below w.1.size w wo := by rw [tB]; exact hB
   clear hB
   subst tB
   go_wp2_with fail
   go_loopw [67] (fun i wr => ∃ j : Nat, j + 1 <= ls.length /\ i = .int .i64 j /\ Hid (Ziz ls j) /\ Below w.1.size w wr) (fun i _ => ls.length - (intOf i).toNat)
   case atStart => exact ⟨0, h1, rfl, fun i h => by omega, BO⟩
   case round =>
    obtain ⟨j, hj, rfl, sF, hB⟩ := hrel
    by_cases pV : j + 1 < ls.length
    ·obtain ⟨sv, pH, rC⟩ := HC.out j (by omega)
     obtain ⟨su, tC, rM⟩ := HC.out (j + 1) pV
     obtain ⟨f1, f2, f3, f4⟩ := Z4e (rF.out.2.1 j (by omega) (by omega))
     obtain ⟨k1, k2, k3, k4⟩ := Z4e (rF.out.2.1 (j + 1) pV pV)
     have tD := rF.out.2.2.2 (j + 1) pV pV j rfl (by omega)
     have qI : Hid (∀ W, Below w.1.size w W -> Calls Tryz.prog 81 #[lvA ls[j] sv, lvA ls[j + 1] su] W fun e w' => e = .returned (.bool (Z0Z ls[j] ls[j + 1])) /\ Below w.1.size w w') := fun W hW => by
      refine (Zay ls[j] ls[j + 1] sv su W (HF.out _ (Z4 _)) (HF.out _ (Z4 _)) (pH.below hW) (tC.below hW) f1 k1 k3 tD f2).mono ?_
      rintro e w' ⟨rfl, hb⟩
      exact ⟨rfl, Z01 hW hW.size hb⟩
     obtain ⟨t0, t1, t2, t3, t4⟩ := rC.below hB hg
     obtain ⟨s0, s1, s2, s3, s4⟩ := rM.below hB hg
     have NF := Z0 (Z7R pV)
     have NT : Hid (Z0Z ls[j] ls[j + 1] = true -> Ziz ls (j + 1)) := fun h i hi h' => by
      by_cases e : i = j
      ·subst e; exact h
      ·exact sF.out i (by omega) h'
     clear pH tC rC rM f1 f2 f3 f4 k1 k2 k3 k4 tD HC HF sT sF rF
     unfold lvA at qI
     generalize ls[j] = l at t0 t1 t2 t3 t4 qI NF NT
     generalize ls[j + 1] = m at s0 s1 s2 s3 s4 qI NF NT
     cases pD : Z0Z l m
     ·rw [pD] at qI
      have HE := Z0 (NF.out pD)
      clear NF NT pD
      go_wp2_with fail
      have sW : 0 <= (j : Int) + 1 := by omega
      have sX : ((j : Int) + 1).toNat = j + 1 := by omega
      have sY : (j : Int) + 1 < (ls.length : Int) := by omega
      have qS : IntKind.i64.wrap ((j : Int) + 1) = (j : Int) + 1 := IntWalk.i64_in _ (by omega)
      go_region_with (go_at_call 81; refine (qI.out _ hB.drew).mono ?_; rintro e w2 ⟨rfl, pA⟩)
      all_goals
       clear qS
       go_wp2_with fail
       go_ret
       exact ⟨Z0d HE.out.symm, pA⟩
     ·rw [pD] at qI
      have HE := Z0 (NT.out pD)
      clear NF NT pD
      go_wp2_with fail
      have sW : 0 <= (j : Int) + 1 := by omega
      have sX : ((j : Int) + 1).toNat = j + 1 := by omega
      have sY : (j : Int) + 1 < (ls.length : Int) := by omega
      have qS : IntKind.i64.wrap ((j : Int) + 1) = (j : Int) + 1 := IntWalk.i64_in _ (by omega)
      go_region_with (go_at_call 81; refine (qI.out _ hB.drew).mono ?_; rintro e w2 ⟨rfl, pA⟩)
      all_goals
       clear qS
       go_wp2_with fail
       go_roundw
       case rel => exact ⟨j + 1, by omega, by go_num, HE, pA⟩
       case measure => simp [intOf]; omega
    ·have HE : Hid (Z0g ls = true) := Z0I.2 ⟨h1, h6, rF.out, fun i h => sF.out i (by omega) h⟩
     go_wp2_with fail
     go_ret
     exact ⟨Z0d HE.out.symm, hB⟩
theorem Z1X (ls : List Lev) (v : Value) (w : World) (hr : RdLevs w v ls) (hf : ∀ l ∈ ls, Z0K l) (hl : ls.length <= maxLen) :
 Calls Tryz.prog 39 #[v] w fun e w' => e = .returned (.bool (Z0g ls)) /\ Below w.1.size w w' := by
 unfold maxLen at hl
 by_cases h : 1 <= ls.length /\ ls.length <= 6
 ·exact Zdw ls v w hr hf h.1 h.2
 ·have HE : Hid (Z0g ls = false) := Z1B (fun h' => h ⟨h'.1, h'.2.1⟩)
  have h' : ls.length < 1 \/ 6 < ls.length := by omega
  obtain ⟨a, cap, rfl, hc⟩ := hr
  clear h hc hf
  rcases h' with h | h
  all_goals
   go_enter Tryz.func39, Tryz.ntmps39
   go_wp2_with fail
   go_ret
   exact ⟨Z0d HE.out.symm, Z9 _ _⟩
end
section
open Go.RowKit
structure Stp where
 grams : Int
 cents : List Int
structure Rat where
 cls : Int
 steps : List Stp
 bar : Int
structure Zn where
 fr : ByteArray
 till : ByteArray
 zone : Int
structure Tar where
 rates : List Rat
 zones : List Zn
def Z69 (p s : ByteArray) : Bool := Lib.hasPrefix s.data.toList p.data.toList
def ZkY : Zn := ⟨⟨#[]⟩, ⟨#[]⟩, 0⟩
def Z1J (fr till : ByteArray) (best row : Zn) : Zn :=
 if Z69 row.fr fr && Z69 row.till till then (if best.zone = 0 \/ best.fr.size < row.fr.size \/ (row.fr.size = best.fr.size /\ best.till.size < row.till.size) then row else best) else best
def Z2N (rows : List Zn) (fr till : ByteArray) (k : Nat) : Zn := (rows.take k).foldl (Z1J fr till) ZkY
def Z5c (rows : List Zn) (fr till : ByteArray) : Int := (Z2N rows fr till rows.length).zone
theorem Z6w (rows : List Zn) (fr till : ByteArray) (k : Nat) (h : k < rows.length) : Z2N rows fr till (k + 1) = Z1J fr till (Z2N rows fr till k) rows[k] := by
 unfold Z2N; rw [Z8 h, Kbs]; rfl
def ixF {α : Type} (f : α -> Bool) (l : List α) : Int := if l.any f = true then (l.findIdx f : Nat) else -1
theorem ZiE {α : Type} {f : α -> Bool} {l : List α} {q : Nat} (h : q < l.length) (hq : f l[q] = true) (hn : ∀ i (hi : i < l.length), i < q -> f l[i] = false) : ixF f l = (q : Int) := by
 unfold ixF
 rw [if_pos (Kbp.2 ⟨_, Z4 h, hq⟩), (List.findIdx_eq h).2 ⟨hq, fun j hj => by rw [hn j (by omega) hj]⟩]
theorem ZcP {α : Type} {f : α -> Bool} {l : List α} (hn : ∀ i (hi : i < l.length), f l[i] = false) : ixF f l = -1 := by
 unfold ixF
 rw [if_neg]
 rw [Kbp]
 rintro ⟨x, hx, hf⟩
 obtain ⟨i, hi, rfl⟩ := List.getElem_of_mem hx
 rw [hn i hi] at hf
 cases hf
theorem Zav {α : Type} (f : α -> Bool) (l : List α) : (ixF f l = -1 /\ ∀ i (hi : i < l.length), f l[i] = false) \/ ∃ q : Nat, ∃ h : q < l.length, ixF f l = q /\ f l[q] = true := by
 by_cases h : l.any f = true
 ·right
  obtain ⟨x, hx, hf⟩ := Kbp.1 h
  have pB : l.findIdx f < l.length := List.findIdx_lt_length_of_exists ⟨x, hx, hf⟩
  exact ⟨l.findIdx f, pB, by unfold ixF; rw [if_pos h], List.findIdx_getElem (w := pB)⟩
 ·left
  have hn : ∀ i (hi : i < l.length), f l[i] = false := fun i hi => by
   cases hc : f l[i]
   ·rfl
   ·exact absurd (Kbp.2 ⟨_, Z4 hi, hc⟩) h
  exact ⟨ZcP hn, hn⟩
def stepOf (steps : List Stp) (g : Int) : Int := ixF (fun s : Stp => decide (g <= s.grams)) steps
def Z63 (s : Stp) (z : Int) : Int := s.cents.getD (z - 1).toNat 0
def Z4B (r : Rat) (z g : Int) : Int × Int := if stepOf r.steps g < 0 then (0, 3) else (Z63 (r.steps.getD (stepOf r.steps g).toNat ⟨0, []⟩) z, 0)
structure RatOk (z : Nat) (r : Rat) : Prop where
 some_ : 1 <= r.steps.length /\ r.steps.length <= 20
 bar : 0 <= r.bar /\ r.bar <= 1000000
 up : ∀ i, i < r.steps.length -> (if i = 0 then 0 else (r.steps.getD (i - 1) ⟨0, []⟩).grams) < (r.steps.getD i ⟨0, []⟩).grams /\ (r.steps.getD i ⟨0, []⟩).grams <= 50000
 cents : ∀ s ∈ r.steps, s.cents.length = z /\ ∀ c ∈ s.cents, 0 <= c /\ c <= 1000000
structure TarOk (z : Nat) (T : Tar) : Prop where
 zn : 1 <= z /\ z <= 20
 rates : 1 <= T.rates.length /\ T.rates.length <= 20
 zones : 1 <= T.zones.length /\ T.zones.length <= 500
 first : ∀ r, T.rates[0]? = some r -> ∀ s, r.steps[0]? = some s -> s.cents.length = z
 rate : ∀ r ∈ T.rates, 1 <= r.cls /\ r.cls <= 255 /\ RatOk z r
 apart : T.rates.Pairwise (fun a b => a.cls ≠ b.cls)
 row : ∀ r ∈ T.zones, (r.fr.size = 0 \/ Z0G r.fr = true) /\ (r.till.size = 0 \/ Z0G r.till = true) /\ 1 <= r.zone /\ r.zone <= z
 rows : T.zones.Pairwise (fun a b => ¬ (a.fr = b.fr /\ a.till = b.till))
 all : ∃ r ∈ T.zones, r.fr.size = 0 /\ r.till.size = 0
theorem Za3 {p : ByteArray} (h : p.size = 0) (s : ByteArray) : Z69 p s = true := by
 have e : p = ⟨#[]⟩ := by
  cases p with
  | mk d =>
   have : d.size = 0 := h
   rw [Array.size_eq_zero_iff] at this
   rw [this]
 subst e
 rfl
structure FitT (lo hb hc : Int) (T : Tar) (ls : List Lev) : Prop where
 num : 0 <= lo /\ lo <= 1000000 /\ 0 <= hc /\ hb + hc <= lo
 cents : ∀ r ∈ T.rates, ∀ s ∈ r.steps, ∀ c ∈ s.cents, lo <= c
 bar : ∀ r ∈ T.rates, r.bar <= hb
 lev : ∀ l ∈ ls, 0 <= l.cents /\ l.cents <= hc
end
section
open Go.RowKit Go.Maps Go.WideMaps
structure KeyEnc (kt : TypeId) (κ : Type) (kv : κ -> Value) (okk : κ -> Prop) (kl : κ -> Lit) : Prop where
 keyed : Keyed Tryz.prog kt
 key : ∀ x, okk x -> keyOf Tryz.prog kt (kv x) = some (kl x)
 inj : ∀ x y, okk x -> okk y -> kl x = kl y -> x = y
def OwnsK {κ α : Type} (kt E : TypeId) (okk : κ -> Prop) (kl : κ -> Lit) (enc : α -> Lit) (w : World) (B n : Nat) (f : κ -> Option α) : Prop :=
 ∃ D : DataW Unit, w.ownsMap Tryz.prog kt (plainElem Tryz.prog E) B n D /\ ∀ s, okk s -> (f s = none -> Maps.has D (kl s) = false) /\ ∀ x, f s = some x -> Maps.has D (kl s) = true /\ ∀ zd, D.atKey (kl s) zd = .lit (enc x)
section
variable {κ α : Type} {kt E : TypeId} {kv : κ -> Value} {okk : κ -> Prop} {kl : κ -> Lit} {enc : α -> Lit} {val : α -> Value} {ok : α -> Prop} {z0 : α} {w w' : World} {B n : Nat} {f : κ -> Option α}
theorem OwnsK.made (w : World) : OwnsK kt E okk kl enc (w.alloc (.map #[] 0)) w.1.size 0 (fun _ => none) :=
 ⟨.map [], World.ownsMap_made _ _ _ _, fun s _ => ⟨fun _ => rfl, fun x h => by cases h⟩⟩
theorem OwnsK.kept {row : Option Nat} (h : OwnsK kt E okk kl enc w B n f) (hg : w.grownBy w' row) (pD : some B ≠ row) : OwnsK kt E okk kl enc w' B n f := by
 obtain ⟨D, hD, hf⟩ := h
 exact ⟨D, hD.kept hg pD, hf⟩
theorem OwnsK.below (h : OwnsK kt E okk kl enc w B n f) (hb : Below w.1.size w w') : OwnsK kt E okk kl enc w' B n f := h.kept (Z0a hb) (by simp)
theorem OwnsK.lt (h : OwnsK kt E okk kl enc w B n f) : B < w.1.size := by obtain ⟨D, hD, _⟩ := h; exact hD.lt
theorem OwnsK.look (K : KeyEnc kt κ kv okk kl) (L : ElemLaw E α enc val ok z0) (h : OwnsK kt E okk kl enc w B n f) {t : TypeId} (ht : Tryz.prog.underlying t = some (.map kt E)) {s : κ} (hs : okk s) :
 (Instr.lookup t (.map (some B)) (kv s) false).run Tryz.prog w = .ok (val ((f s).getD z0)) w := by
 obtain ⟨D, hD, hf⟩ := h
 obtain ⟨v, ps, pG, hv⟩ := hD.lookup K.keyed ht (L.zero w) (L.lay z0 L.okz) (K.key s hs)
 rw [pG]
 obtain ⟨h1, h2⟩ := hf s hs
 cases pU : f s with
 | none =>
  have := h1 pU
  rw [atKey_of_not_has this] at hv
  rw [L.inv _ _ _ hv]
  rfl
 | some x =>
  rw [(h2 x pU).2] at hv
  rw [L.inv _ _ _ hv]
  rfl
theorem OwnsK.update (K : KeyEnc kt κ kv okk kl) (L : ElemLaw E α enc val ok z0) (h : OwnsK kt E okk kl enc w B n f) {t : TypeId} (ht : Tryz.prog.underlying t = some (.map kt E)) (hn : n < maxLen) {s : κ} (hs : okk s) {x : α} (hx : ok x) {g : κ -> Option α} (sG : g s = some x) (qC : ∀ u, u ≠ s -> g u = f u) :
 ∃ w', (Instr.mapUpdate t (.map (some B)) (kv s) (val x)).run Tryz.prog w = .ok () w' /\ OwnsK kt E okk kl enc w' B (n + 1) g /\ w.grownBy w' (some B) := by
 obtain ⟨D, hD, hf⟩ := h
 obtain ⟨w', pG, h1, h2⟩ := hD.update K.keyed ht hn (K.key s hs) (L.lay x hx)
 refine ⟨w', pG, ⟨_, h1, fun u hu => ?_⟩, h2⟩
 have hm := hD.isMap
 have hk : WideAt.IsKeyLit (kl s) := K.keyed.key (K.key s hs)
 by_cases e : u = s
 ·subst e
  rw [sG]
  exact ⟨fun h => (by cases h), fun y hy => by
   injection hy with hy
   subst hy
   exact ⟨has_put_same hm hk _, fun zd => atKey_put_same hm hk _ zd⟩⟩
 ·rw [qC u e]
  have pD : kl u ≠ kl s := fun h => e (K.inj u s hu hs h)
  exact ⟨fun h => by rw [<- (hf u hu).1 h]; exact has_put_other pD _, fun y hy => ⟨by rw [<- ((hf u hu).2 y hy).1]; exact has_put_other pD _, fun zd => by rw [<- ((hf u hu).2 y hy).2 zd]; exact atKey_put_other pD _ _⟩⟩
theorem Z3r (K : KeyEnc kt κ kv okk kl) (L : ElemLaw E α enc val ok z0) (w : World) {ops : Array Oper} {rest : List Oper} {o : Oper} {a : Act} {Q : Exit -> Act -> World -> Prop}
 (hg : o.guard = none) (m x v : Operand) (t : TypeId) (sC : o.op = Op.mapUpdate t m x v) (ht : Tryz.prog.underlying t = some (.map kt E)) (B n : Nat) (f g : κ -> Option α)
 (hm : a.eval m = .map (some B)) (pI : OwnsK kt E okk kl enc w B n f) (hn : n < maxLen) (s : κ) (hs : okk s) (hx : a.eval x = kv s) (y : α) (hy : ok y) (hv : a.eval v = val y) (sG : g s = some y) (qC : ∀ u, u ≠ s -> g u = f u)
 (hK : ∀ w', OwnsK kt E okk kl enc w' B (n + 1) g -> w.grownBy w' (some B) -> wpList Tryz.prog ops Q rest (a.put o.dst undef) w') : wpList Tryz.prog ops Q (o :: rest) a w := by
 refine wpList_plain hg fun K' hK' => ?_
 obtain ⟨w', pG, r1, r2⟩ := pI.update K L ht hn hs hy sG qC
 unfold Oper.wp
 simp [execOp, sC, hm, hx, hv, pG, Result.andThen]
 exact hK' _ _ (hK w' r1 r2)
end
theorem Zkg : KeyEnc 5 Int (Value.int .u8) (fun n => (Lit.int .u8 n).wf = true) (Lit.int .u8) where
 keyed := int_keyed Tryz.underlying5
 key := fun x h => keyOf_int_mk Tryz.underlying5 h
 inj := fun x y _ _ h => by injection h
abbrev TSS : TypeId := 96
theorem ZkT : ArrKey Tryz.prog TSS 9 2 := ⟨by kernel_rfl, by kernel_rfl, by kernel_rfl, by kernel_rfl⟩
theorem Z9E : ∃ m, Tryz.prog.types.size = m + 1 := ⟨Tryz.prog.types.size - 1, by kernel_rfl⟩
theorem Z9e {a b : ByteArray} (ha : a.size <= maxLen) (hb : b.size <= maxLen) : (keyOf Tryz.prog TSS (.agg #[.string a, .string b])).isSome = true := by
 have A := ZkT
 have he := Tryz.underlying9
 have tZ := A.keyType Z9E
 obtain ⟨m, hm⟩ := Z9E
 unfold keyOf
 simp only [A.hu]
 rw [if_pos (by simp [tZ, Value.formed, A.hu, A.size]), hm]
 unfold Program.keyLits
 simp only [A.hu, Value.cells]
 rw [if_pos (by rw [A.size]; rfl), show List.range 2 = [0, 1] from rfl, List.mapM_cons, List.mapM_cons, List.mapM_nil]
 simp [A.one, Program.keyLits, he, ha, hb]
theorem Zhn : laidOutB Tryz.prog = true := by kernel_rfl
theorem lawSS : KeyLaw Tryz.prog TSS := deep_law_laid Zhn (m := 2) (by omega) (of_decide_eq_true (by kernel_rfl)) (by kernel_rfl) (by kernel_rfl)
theorem Zih {x y : ByteArray × ByteArray} (h : Value.agg #[.string x.1, .string x.2] = Value.agg #[.string y.1, .string y.2]) : x = y := by
 have h0 : (#[Value.string x.1, Value.string x.2] : Array Value).toList = (#[Value.string y.1, Value.string y.2] : Array Value).toList := Kah Array.toList (Value.agg.inj h)
 have h1 := (List.cons.inj h0).1
 have h2 := (List.cons.inj (List.cons.inj h0).2).1
 exact Prod.ext (Value.string.inj h1) (Value.string.inj h2)
noncomputable def Zkz (x : ByteArray × ByteArray) : Lit := (keyOf Tryz.prog TSS (.agg #[.string x.1, .string x.2])).getD (.bool false)
theorem Zjj : KeyEnc TSS (ByteArray × ByteArray) (fun x => .agg #[.string x.1, .string x.2]) (fun x => x.1.size <= maxLen /\ x.2.size <= maxLen) Zkz where
 keyed := Keyed.of_law lawSS
 key := fun x h => by
  have := Z9e h.1 h.2
  unfold Zkz
  rw [Kdb] at this
  obtain ⟨l, hl⟩ := this
  rw [hl]; rfl
 inj := fun x y hx hy h => by
  obtain ⟨l, hl⟩ := Kdb.1 (Z9e hx.1 hx.2)
  obtain ⟨l', hl'⟩ := Kdb.1 (Z9e hy.1 hy.2)
  unfold Zkz at h
  rw [hl, hl'] at h
  have h' : l = l' := h
  subst h'
  have hv : Value.agg #[.string x.1, .string x.2] = Value.agg #[.string y.1, .string y.2] := lawSS.inj hl hl'
  exact Zih hv
end
section
open Go.RowKit
def Z1x (n : Nat) : Nat := 1 + n / 16 % 4 % 3
def Z4u (n : Nat) : Nat := n / 4 % 4 % 3 + 1
def Z3k (n : Nat) : Nat := n % 4 % 3 + 1
def Z2M (n : Nat) : Nat := n / 64 % 32
def Z1Y (ps : List UInt8) (i : Nat) : Nat := if ps.length = 0 then 300 else 300 + (ps.getD (i % ps.length) 0).toNat
def Z3v (ps : List UInt8) (zones c s : Nat) : Stp := ⟨((20 + 30 * s : Nat) : Int), (List.range zones).map (fun z => ((Z1Y ps (17 * c + 5 * s + z) : Nat) : Int))⟩
def Z1i (ps : List UInt8) (n c : Nat) : Rat := ⟨((c + 1 : Nat) : Int), (List.range (Z4u n)).map (Z3v ps (Z1x n) c), ((Z2M n : Nat) : Int)⟩
def pairsN : List (ByteArray × ByteArray) := [(⟨#[49]⟩, ⟨#[]⟩), (⟨#[]⟩, ⟨#[50]⟩), (⟨#[49]⟩, ⟨#[50]⟩), (⟨#[49, 48]⟩, ⟨#[]⟩), (⟨#[49]⟩, ⟨#[50, 49]⟩), (⟨#[49, 48]⟩, ⟨#[50]⟩), (⟨#[49, 48, 48]⟩, ⟨#[49, 48]⟩), (⟨#[]⟩, ⟨#[49, 48, 48, 48]⟩), (⟨#[50]⟩, ⟨#[49]⟩)]
def Zie (n i : Nat) : Bool := decide (n / 2 ^ (11 + i) % 2 = 1)
def Zkx (zones i : Nat) : Zn := ⟨(pairsN.getD i (⟨#[]⟩, ⟨#[]⟩)).1, (pairsN.getD i (⟨#[]⟩, ⟨#[]⟩)).2, ((1 + i % zones : Nat) : Int)⟩
def Z0z (n k : Nat) : List Zn := ⟨⟨#[]⟩, ⟨#[]⟩, 1⟩ :: ((List.range k).filter (Zie n)).map (Zkx (Z1x n))
def Z1H (n : Nat) (ps : List UInt8) : Tar := ⟨(List.range (Z3k n)).map (Z1i ps n), Z0z n 9⟩
theorem Z9C (n : Nat) : 1 <= Z1x n /\ Z1x n <= 3 := by unfold Z1x; omega
theorem Z6F (n : Nat) : 1 <= Z4u n /\ Z4u n <= 3 := by unfold Z4u; omega
theorem Z6P (n : Nat) : 1 <= Z3k n /\ Z3k n <= 3 := by unfold Z3k; omega
theorem Z6R (ps : List UInt8) (i : Nat) : 300 <= Z1Y ps i /\ Z1Y ps i <= 555 := by
 unfold Z1Y
 split
 ·omega
 ·have := (ps.getD (i % ps.length) 0).toNat_lt; omega
theorem ZcC : ∀ p ∈ pairsN, (p.1.size = 0 \/ Z0G p.1 = true) /\ (p.2.size = 0 \/ Z0G p.2 = true) /\ ¬ (p.1 = ⟨#[]⟩ /\ p.2 = ⟨#[]⟩) := by
 decide
theorem Z8T (n : Nat) (ps : List UInt8) : TarOk (Z1x n) (Z1H n ps) := by
 have hz := Z9C n
 have hs := Z6F n
 have hr := Z6P n
 refine ⟨by omega, ?_, ?_, ?_, ?_, ?_, ?_, ?_, ?_⟩
 ·show 1 <= ((List.range (Z3k n)).map _).length /\ _
  simp only [Z1H, Z7, Kay]; omega
 ·show 1 <= (Z0z n 9).length /\ (Z0z n 9).length <= 500
  unfold Z0z
  have := Kbw (Zie n) (List.range 9)
  rw [Kay] at this
  rw [Ka9, Z7]
  omega
 ·intro r uA s uB
  have hm : r ∈ (Z1H n ps).rates := Kdq uA
  obtain ⟨c, _, rfl⟩ := Kae.1 hm
  obtain ⟨t, _, rfl⟩ := Kae.1 (Kdq uB)
  simp [Z3v]
 ·intro r hm
  obtain ⟨c, hc, rfl⟩ := Kae.1 hm
  have hc' := Ka8.1 hc
  refine ⟨?_, ?_, ?_⟩
  ·show (1 : Int) <= ((c + 1 : Nat) : Int); omega
  ·show ((c + 1 : Nat) : Int) <= 255; omega
  ·refine ⟨?_, ?_, ?_, ?_⟩
   ·simp only [Z1i, Z7, Kay]; omega
   ·show (0 : Int) <= ((Z2M n : Nat) : Int) /\ ((Z2M n : Nat) : Int) <= 1000000
    unfold Z2M; omega
   ·intro i hi
    simp only [Z1i, Z7, Kay] at hi
    have e : ∀ j, j < Z4u n -> ((Z1i ps n c).steps.getD j ⟨0, []⟩).grams = ((20 + 30 * j : Nat) : Int) := fun j hj => by
     unfold Z1i
     rw [Z2, Kal, Kb2 hj]; rfl
    rw [e i hi]
    split
    ·omega
    ·rw [e (i - 1) (by omega)]
     omega
   ·intro s uC
    obtain ⟨t, _, rfl⟩ := Kae.1 uC
    refine ⟨by simp [Z3v], fun x hx => ?_⟩
    obtain ⟨z, _, rfl⟩ := Kae.1 hx
    have := Z6R ps (17 * c + 5 * t + z)
    omega
 ·show ((List.range (Z3k n)).map (Z1i ps n)).Pairwise _
  rw [Kbt]
  refine List.Pairwise.imp ?_ List.nodup_range
  intro a b uD h
  apply uD
  have h' : ((a + 1 : Nat) : Int) = ((b + 1 : Nat) : Int) := h
  omega
 ·intro r hm
  have hm' : r ∈ Z0z n 9 := hm
  unfold Z0z at hm'
  rcases Kbf.1 hm' with rfl | hm'
  ·exact ⟨.inl rfl, .inl rfl, Kbi _, by show (1 : Int) <= _; omega⟩
  ·obtain ⟨i, hi, rfl⟩ := Kae.1 hm'
   have uE := Ka8.1 (Kbh.1 hi).1
   have hp : pairsN.getD i (⟨#[]⟩, ⟨#[]⟩) ∈ pairsN := by
    rw [Z2, Z3 (show i < pairsN.length from uE)]
    exact Z4 _
   obtain ⟨h1, h2, _⟩ := ZcC _ hp
   refine ⟨h1, h2, ?_, ?_⟩
   ·show (1 : Int) <= ((1 + i % Z1x n : Nat) : Int); omega
   ·show ((1 + i % Z1x n : Nat) : Int) <= ((Z1x n : Nat) : Int)
    have := Kcj i (show 0 < Z1x n by omega)
    omega
 ·show (Z0z n 9).Pairwise _
  unfold Z0z
  rw [Kbu]
  have uF : ∀ i, i < 9 -> pairsN.getD i (⟨#[]⟩, ⟨#[]⟩) ∈ pairsN := fun i hi => by
   rw [Z2, Z3 (show i < pairsN.length from hi)]
   exact Z4 _
  refine ⟨fun r hm h => ?_, ?_⟩
  ·obtain ⟨i, hi, rfl⟩ := Kae.1 hm
   obtain ⟨_, _, h3⟩ := ZcC _ (uF i (Ka8.1 (Kbh.1 hi).1))
   exact h3 ⟨h.1.symm, h.2.symm⟩
  ·rw [Kbt]
   refine (List.Pairwise.filter _ ?_ : ((List.range 9).filter (Zie n)).Pairwise _)
   have h9 : (List.range 9).Pairwise (fun a b => ¬ ((pairsN.getD a (⟨#[]⟩, ⟨#[]⟩)).1 = (pairsN.getD b (⟨#[]⟩, ⟨#[]⟩)).1 /\ (pairsN.getD a (⟨#[]⟩, ⟨#[]⟩)).2 = (pairsN.getD b (⟨#[]⟩, ⟨#[]⟩)).2)) := by decide
   exact h9
 ·exact ⟨⟨⟨#[]⟩, ⟨#[]⟩, 1⟩, Kaf, rfl, rfl⟩
theorem ZgV (n : Nat) (ps : List UInt8) {ls : List Lev} (h : ∀ l ∈ ls, 0 <= l.cents /\ l.cents <= 255) : FitT 300 31 255 (Z1H n ps) ls := by
 refine ⟨by omega, ?_, ?_, h⟩
 ·intro r hr s hs c hc
  obtain ⟨a, _, rfl⟩ := Kae.1 hr
  obtain ⟨t, _, rfl⟩ := Kae.1 hs
  obtain ⟨z, _, rfl⟩ := Kae.1 hc
  have := Z6R ps (17 * a + 5 * t + z)
  omega
 ·intro r hr
  obtain ⟨a, _, rfl⟩ := Kae.1 hr
  show ((Z2M n : Nat) : Int) <= 31
  unfold Z2M; omega
end
end Go.Proofs.YtlgajongmkhcnaaGreatDoor
