import Derived.Test.YtlgajongmkhcnaaGreatDoorQZ
import Derived.Test.YtlgajongmkhcnaaGreatDoorQ5
import Derived.Deep.CutBlock
import Derived.Deep.RegionLaw
set_option linter.unusedVariables false
set_option linter.unusedSimpArgs false
set_option maxHeartbeats 32000000
namespace Go.Proofs.YtlgajongmkhcnaaGreatDoor
open Go.RowKit
def Z4R : List Lab -> Bool
 | x :: y :: r => ltB x.pre y.pre && Z4R (y :: r)
 | _ => true
theorem Z65 : ∀ l : List Lab, Z4R l = true ↔ Z1V l
 | [] => ⟨fun _ i h => by simp at h, fun _ => rfl⟩
 | [x] => ⟨fun _ i h => by simp at h, fun _ => rfl⟩
 | x :: y :: r => by
  unfold Z4R
  rw [ZF, Z65 (y :: r)]
  constructor
  ·rintro ⟨h1, h2⟩ i hi
   cases i with
   | zero => exact h1
   | succ i => exact h2 i (by simpa using hi)
  ·intro h
   exact ⟨h 0 (by simp), fun i hi => h (i + 1) (by simpa using hi)⟩
def Z34 (l : Lev) (last : Bool) : Bool := Z3W l && if last then (decide (l.min = 0) && decide (l.pre = 0) && decide (l.labs.length = 0)) else (decide (1 <= l.min) && decide (l.min <= 2000) && l.labs.all (Z6B l) && Z4R l.labs)
theorem Zd6 (l : Lev) : Z7V l l.labs.length ↔ (l.labs.all (Z6B l) = true /\ Z4R l.labs = true) := by
 rw [Z65, List.all_eq_true]
 constructor
 ·intro h
  exact ⟨fun x hx => by obtain ⟨i, hi, rfl⟩ := List.mem_iff_getElem.1 hx; exact (h i hi hi).1, fun i hi => (h (i + 1) hi hi).2 i rfl (by omega)⟩
 ·rintro ⟨h1, h2⟩ i hi h
  exact ⟨h1 _ (Z4 h), fun j hj h' => by subst hj; exact h2 j h⟩
theorem Zd4 {l : Lev} {last : Bool} : Z34 l last = true ↔ Z9G l last := by
 unfold Z34 Z9G
 rw [ZF]
 cases last
 ·simp only [Bool.false_eq_true, if_false, ZF, decide_eq_true_eq]
  rw [Zd6]
  constructor
  ·rintro ⟨a, ⟨⟨b, c⟩, d⟩, e⟩; exact ⟨a, ⟨b, c⟩, d, e⟩
  ·rintro ⟨a, ⟨b, c⟩, d, e⟩; exact ⟨a, ⟨⟨b, c⟩, d⟩, e⟩
 ·simp only [if_true, ZF, decide_eq_true_eq]
  constructor
  ·rintro ⟨a, ⟨b, c⟩, d⟩; exact ⟨a, b, c, d⟩
  ·rintro ⟨a, b, c, d⟩; exact ⟨a, ⟨b, c⟩, d⟩
theorem Z9H (l : Lev) (last : Bool) : Z0M l last = Z34 l last := by rw [Bool.eq_iff_iff, Z13, Zd4]
def Z6r (l next : Lev) : Bool := (l.labs.flatMap (Z0J l)).all (fun x => (l.labs.flatMap (Z0J l)).all (fun y => !decide (x.1 = y.1) || decide (Z0e next x.2 = Z0e next y.2)))
theorem Z9w {l next : Lev} : Z6r l next = true ↔ Z54 l next := by
 unfold Z6r Z54
 simp only [List.all_eq_true, Bool.or_eq_true, Bool.not_eq_true', decide_eq_false_iff_not, decide_eq_true_eq]
 constructor
 ·intro h x hx y hy e
  rcases h x hx y hy with h' | h'
  ·exact absurd e h'
  ·exact h'
 ·intro h x hx y hy
  by_cases e : x.1 = y.1
  ·exact .inr (h x hx y hy e)
  ·exact .inl e
theorem ZcV (l next : Lev) : Z0R l next = Z6r l next := by rw [Bool.eq_iff_iff, Z3S, Z9w]
def Z57 : List Lev -> Bool
 | [] => true
 | [l] => Z34 l true
 | l :: m :: r => Z34 l false && Z57 (m :: r)
def Z9x : List Lev -> Bool
 | [] => true
 | l :: r => r.all (fun m => !decide (l.name = m.name)) && Z9x r
def Za5 : List Lev -> Bool
 | l :: m :: r => decide (m.pre <= l.pre) && Z6r l m && Za5 (m :: r)
 | _ => true
def ZbJ (ls : List Lev) : Bool := decide (1 <= ls.length) && decide (ls.length <= 6) && decide ((ls.map (fun l => l.labs.length)).sum <= 200) && Z57 ls && Z9x ls && Za5 ls
theorem Z6z : ∀ ls : List Lev, Z57 ls = true ↔ ∀ i (h : i < ls.length), Z0M ls[i] (decide (i + 1 = ls.length)) = true
 | [] => ⟨fun _ i h => by simp at h, fun _ => rfl⟩
 | [l] => by
  unfold Z57
  rw [<- Z9H]
  exact ⟨fun h i hi => by obtain rfl : i = 0 := (by simpa using hi); exact h, fun h => h 0 (by simp)⟩
 | l :: m :: r => by
  unfold Z57
  rw [ZF, Z6z (m :: r), <- Z9H]
  constructor
  ·rintro ⟨h1, h2⟩ i hi
   cases i with
   | zero => simpa using h1
   | succ i =>
    have := h2 i (by simpa using hi)
    simpa using this
  ·intro h
   refine ⟨?_, fun i hi => ?_⟩
   ·have := h 0 (by simp)
    simpa using this
   ·have := h (i + 1) (by simpa using hi)
    simpa using this
theorem Z7O : ∀ ls : List Lev, Z9x ls = true ↔ ∀ i (h : i < ls.length) j, (hj : j < i) -> (ls[j]'(by omega)).name ≠ ls[i].name
 | [] => ⟨fun _ i h => by simp at h, fun _ => rfl⟩
 | l :: r => by
  unfold Z9x
  rw [ZF, Z7O r, List.all_eq_true]
  constructor
  ·rintro ⟨h1, h2⟩ i hi j hj
   cases i with
   | zero => omega
   | succ i =>
    cases j with
    | zero => simpa using h1 _ (Z4 (show i < r.length by simpa using hi))
    | succ j => exact h2 i (by simpa using hi) j (by omega)
  ·intro h
   refine ⟨fun m hm => ?_, fun i hi j hj => h (i + 1) (by simpa using hi) (j + 1) (by omega)⟩
   obtain ⟨i, hi, rfl⟩ := List.mem_iff_getElem.1 hm
   have := h (i + 1) (by simpa using hi) 0 (by omega)
   simpa using this
theorem Z8a : ∀ ls : List Lev, Za5 ls = true ↔ ∀ i (h : i + 1 < ls.length), ls[i + 1].pre <= ls[i].pre /\ Z0R ls[i] ls[i + 1] = true
 | [] => ⟨fun _ i h => by simp at h, fun _ => rfl⟩
 | [l] => ⟨fun _ i h => by simp at h, fun _ => rfl⟩
 | l :: m :: r => by
  unfold Za5
  rw [ZF, ZF, Z8a (m :: r), <- ZcV, decide_eq_true_eq]
  constructor
  ·rintro ⟨h1, h2⟩ i hi
   cases i with
   | zero => exact h1
   | succ i => exact h2 i (by simpa using hi)
  ·intro h
   exact ⟨h 0 (by simp), fun i hi => h (i + 1) (by simpa using hi)⟩
theorem Z9h (ls : List Lev) : Z0i ls = ZbJ ls := by
 rw [Bool.eq_iff_iff, Z0E]
 unfold ZbJ
 simp only [ZF, decide_eq_true_eq]
 rw [Z6z, Z7O, Z8a]
 unfold ZbI Ziy
 have es : sumTo ls ls.length = (ls.map (fun l => l.labs.length)).sum := by unfold sumTo; rw [List.take_of_length_le (Z1 _)]
 rw [es]
 constructor
 ·rintro ⟨a, b, ⟨c, d, e, f⟩, g⟩
  exact ⟨⟨⟨⟨⟨a, b⟩, c⟩, fun i h => d i h h⟩, fun i h j hj => e i h h j hj (by omega)⟩, fun i h => ⟨f (i + 1) h h i rfl (by omega), g i h⟩⟩
 ·rintro ⟨⟨⟨⟨⟨a, b⟩, c⟩, d⟩, e⟩, f⟩
  exact ⟨a, b, ⟨c, fun i _ h => d i h, fun i _ h j hj h' => e i h j hj, fun i _ h j hj h' => by subst hj; exact (f j h).1⟩, fun i h => (f i h).2⟩
end Go.Proofs.YtlgajongmkhcnaaGreatDoor
namespace Go.Proofs.YtlgajongmkhcnaaGreatDoor
open Go.RowKit
set_option linter.unusedVariables false
set_option maxRecDepth 100000
theorem Ze0 (w : World) : RdLabs w (.slice none 0 0) [] := ⟨none, 0, rfl, fun h => absurd h (by simp)⟩
theorem Z80 {ls : List Lev} {cs : List ByteArray} (h1 : Z0i ls = true) (h2 : cs.length <= 2000) (h3 : ∀ c ∈ cs, Z0C c = true) (h4 : cs.any (Z2z ls) = false) : Z1a ls cs = ((gTo ls cs ls.length).1, 0) := by
 unfold Z1a; rw [if_neg (by omega), if_pos ⟨h1, h3⟩, h4]; rfl
theorem Zg4 {W : World} {n : Nat} {T : TypeId} (ls : List ByteArray) (h : W.1[n]? = some (.cells (ls.map Value.string).toArray T (0, 0))) : ReadsT W (.slice (some ⟨n, 0, none⟩) ls.length ls.length) ls := by
 refine ⟨_, _, rfl, fun _ => ⟨n, 0, rfl, (Z5.1 h).1, fun i hi => ?_⟩⟩
 rw [Nat.zero_add, cell_of_row _ n i _ _ _ h]
 simp [hi]
def Zcl (W : World) (os : List Obj) : World := os.foldl World.alloc W
theorem Zbl (os : List Obj) : ∀ W : World, (Zcl W os).1.toList = W.1.toList ++ os := by
 induction os with
 | nil => intro W; simp [Zcl]
 | cons o r ih =>
  intro W
  show (Zcl (W.alloc o) r).1.toList = _
  rw [ih]
  show (W.1.push o).toList ++ r = _
  simp
theorem Z5y (W : World) (os : List Obj) (j : Nat) {o : Obj} (h : os[j]? = some o) : (Zcl W os).1[W.1.size + j]? = some o := by
 rw [<- Array.getElem?_toList, Zbl, List.getElem?_append_right (by simp)]
 simpa using h
end Go.Proofs.YtlgajongmkhcnaaGreatDoor
namespace Go.Proofs.YtlgajongmkhcnaaGreatDoor
open Go.RowKit
set_option linter.unusedVariables false
set_option maxRecDepth 100000
def RdBytes (w : World) (v : Value) (bs : List UInt8) : Prop :=
 ∃ a cap, v = .slice a bs.length cap /\ (0 < bs.length -> ∃ g off, a = some ⟨g, off, none⟩ /\ g < w.1.size /\ ∀ i (h : i < bs.length), w.cell? ⟨g, off + i, none⟩ = some (.int .u8 (bs[i].toNat : Int)))
theorem RdBytes.below {w w' : World} {v : Value} {zs : List UInt8} (h : RdBytes w v zs) (hb : Below w.1.size w w') : RdBytes w' v zs := by
 obtain ⟨a, cap, hv, hc⟩ := h
 exact ⟨a, cap, hv, fun h0 => by
  obtain ⟨g, off, ha, hg, hcc⟩ := hc h0
  exact ⟨g, off, ha, ZH hg hb.size, fun i h => (hb.cell (p := ⟨g, off + i, none⟩) hg).trans (hcc i h)⟩⟩
def Z3q (x : UInt8) : ByteArray := ⟨#[49 + x % 3, 48 + x / 3 % 3, 48 + x / 9 % 3, 48 + x / 27 % 3, 48 + x / 81 % 3]⟩
def Zbf (bs : List UInt8) : List ByteArray := (bs.take 2000).map Z3q
theorem Zdi (x : UInt8) : (Z3q x).size = 5 := rfl
theorem Zfd (W : World) (x : UInt8) : Sem.run Tryz.prog (convert 23 9 (.slice (some ⟨W.1.size, 0, none⟩) 5 5)) (W.alloc (.cells #[.int .u8 (49 + (x.toNat : Int) % 3), .int .u8 (48 + (x.toNat : Int) / 3 % 3), .int .u8 (48 + (x.toNat : Int) / 9 % 3), .int .u8 (48 + (x.toNat : Int) / 27 % 3), .int .u8 (48 + (x.toNat : Int) / 81 % 3)] 5)) =
 .ok (.string (Z3q x)) (W.alloc (.cells #[.int .u8 (49 + (x.toNat : Int) % 3), .int .u8 (48 + (x.toNat : Int) / 3 % 3), .int .u8 (48 + (x.toNat : Int) / 9 % 3), .int .u8 (48 + (x.toNat : Int) / 27 % 3), .int .u8 (48 + (x.toNat : Int) / 81 % 3)] 5)) := by
 have hx : x.toNat < 256 := x.toNat_lt
 have e1 : (((49 + x % 3 : UInt8)).toNat : Int) = 49 + (x.toNat : Int) % 3 := by rw [UInt8.toNat_add, UInt8.toNat_mod]; simp; omega
 have e2 : (((48 + x / 3 % 3 : UInt8)).toNat : Int) = 48 + (x.toNat : Int) / 3 % 3 := by rw [UInt8.toNat_add, UInt8.toNat_mod, UInt8.toNat_div]; simp; omega
 have e3 : (((48 + x / 9 % 3 : UInt8)).toNat : Int) = 48 + (x.toNat : Int) / 9 % 3 := by rw [UInt8.toNat_add, UInt8.toNat_mod, UInt8.toNat_div]; simp; omega
 have e4 : (((48 + x / 27 % 3 : UInt8)).toNat : Int) = 48 + (x.toNat : Int) / 27 % 3 := by rw [UInt8.toNat_add, UInt8.toNat_mod, UInt8.toNat_div]; simp; omega
 have e5 : (((48 + x / 81 % 3 : UInt8)).toNat : Int) = 48 + (x.toNat : Int) / 81 % 3 := by rw [UInt8.toNat_add, UInt8.toNat_mod, UInt8.toNat_div]; simp; omega
 refine run_convert_bytes_back (P := Tryz.prog) _ 23 9 5 ⟨W.1.size, 0, none⟩ 5 [49 + x % 3, 48 + x / 3 % 3, 48 + x / 9 % 3, 48 + x / 27 % 3, 48 + x / 81 % 3] Tryz.underlying23 Tryz.underlying5 Tryz.underlying9 (fun j hj => ?_)
 have ea : (⟨W.1.size, 0, none⟩ : Addr).add j = ⟨W.1.size, j, none⟩ := by unfold Addr.add; split <;> simp_all
 rw [ea, cell_of_row _ W.1.size j _ _ _ (Z01 W _)]
 have hj5 : j < 5 := hj
 have h5 : j = 0 \/ j = 1 \/ j = 2 \/ j = 3 \/ j = 4 := by omega
 rcases h5 with rfl | rfl | rfl | rfl | rfl
 ·show some (Value.int .u8 (49 + (x.toNat : Int) % 3)) = some (.int .u8 (((49 + x % 3 : UInt8)).toNat : Int)); rw [e1]
 ·show some (Value.int .u8 (48 + (x.toNat : Int) / 3 % 3)) = some (.int .u8 (((48 + x / 3 % 3 : UInt8)).toNat : Int)); rw [e2]
 ·show some (Value.int .u8 (48 + (x.toNat : Int) / 9 % 3)) = some (.int .u8 (((48 + x / 9 % 3 : UInt8)).toNat : Int)); rw [e3]
 ·show some (Value.int .u8 (48 + (x.toNat : Int) / 27 % 3)) = some (.int .u8 (((48 + x / 27 % 3 : UInt8)).toNat : Int)); rw [e4]
 ·show some (Value.int .u8 (48 + (x.toNat : Int) / 81 % 3)) = some (.int .u8 (((48 + x / 81 % 3 : UInt8)).toNat : Int)); rw [e5]
theorem Zfj (bs : List UInt8) (v : Value) (w : World) (hr : RdBytes w v bs) (hl : bs.length <= maxLen) :
 Calls Tryz.prog 62 #[v] w fun e w' => ∃ v, e = .returned v /\ Below w.1.size w w' /\ OwnsT w' w.1.size v (Zbf bs) := by
 unfold maxLen at hl
 obtain ⟨a, cap, rfl, hc⟩ := hr
 have HC := Z0 hc
 clear hc
 obtain ⟨i0, hi⟩ := info_parts Tryz.infoS
 have HI := Z0 hi
 clear hi
 go_enter Tryz.func62, Tryz.ntmps62
 go_wp2_with fail
 go_loopw [3, 4] (fun v i wr => ∃ k : Nat, k <= bs.length /\ k <= 2000 /\ i = .int .i64 k /\ Below w.1.size w wr /\ OwnsT wr w.1.size v ((bs.take k).map Z3q)) (fun _ i _ => bs.length - (intOf i).toNat)
 case atStart => exact ⟨0, ZE _, ZE _, rfl, Z9 _ _, OwnsT.nil _ _⟩
 case round =>
  obtain ⟨k, hk, hk2, rfl, hB, hown⟩ := hrel
  by_cases hlt : k < bs.length /\ k < 2000
  ·obtain ⟨hl1, hl2⟩ := hlt
   obtain ⟨g, off, rfl, hg, hcc⟩ := HC.out (by omega)
   have c1 : wr.cell? ⟨g, off + k, none⟩ = some (.int .u8 (bs[k].toNat : Int)) := (hB.cell (p := ⟨g, off + k, none⟩) hg).trans (hcc k hl1)
   have HN : Hid ((bs.take (k + 1)).map Z3q = (bs.take k).map Z3q ++ [Z3q bs[k]]) := by rw [Z8 hl1, ZD]; exact rfl
   have hlen : ((bs.take k).map Z3q).length = k := by simp; omega
   have HL := Z0 hlen
   have hlen' : ((bs.take k).map Z3q).length <= 2000 := by omega
   have hcv := Zfd wr bs[k]
   have hb0 : 0 <= (bs[k].toNat : Int) := by omega
   have hb1 : (bs[k].toNat : Int) <= 255 := by have := bs[k].toNat_lt; omega
   clear hlen hcc HC
   generalize Z3q bs[k] = cd at HN hcv
   generalize (bs[k].toNat : Int) = n at c1 hcv hb0 hb1
   generalize (bs.take k).map Z3q = acc at hown HN hlen' HL
   go_wp2_with (at_builtin; refine wpList_append_own _ rfl _ _ 84 rfl w.1.size 9 i0 (.string ⟨#[]⟩) 1 16 Tryz.underlying84 HI.out.1 HI.out.2.1 HI.out.2.2.1 HI.out.2.2.2 rfl (by decide) _ _ _ rfl ((hown.alloc _).alloc _) ⟨wr.1.size + 1, 0, none⟩ 1 1 [.string cd] rfl rfl (by have := cell_one_new (wr.alloc (.cells #[.int .u8 (49 + n % 3), .int .u8 (48 + n / 3 % 3), .int .u8 (48 + n / 9 % 3), .int .u8 (48 + n / 27 % 3), .int .u8 (48 + n / 81 % 3)] 5)) (.string cd) 9; simpa using this) (by simp [Value.oneCell']) (by unfold maxLen; omega) (by omega) (by have := hB.size; simp; omega) ?_; intro v' w4 hown' hgrow _)
   have hb4 : Below w.1.size w w4 := ((hB.alloc hB.size _).alloc (by have := hB.size; simp; omega) _).grown hgrow (by have := hB.size; simp; omega) (fun r e => (hown.lt r e).1)
   go_roundw
   case rel => exact ⟨k + 1, by omega, by omega, by go_num, hb4, by rw [HN.out]; unfold OwnsT; rw [ZD, ZC]; exact hown'⟩
   case measure => simp [intOf]; omega
  ·have HE : Hid (OwnsT wr w.1.size u3 (Zbf bs)) := by
    unfold Zbf
    have e : bs.take 2000 = bs.take k := by
     by_cases h : k < bs.length
     ·obtain rfl : k = 2000 := by omega
      rfl
     ·rw [List.take_of_length_le (by omega), List.take_of_length_le (by omega)]
    rw [e]; exact hown
   clear hown
   by_cases h1 : k < bs.length
   ·have h2 : 2000 <= k := by omega
    go_wp2_with fail
    go_ret
    exact ⟨_, rfl, hB, HE.out⟩
   ·have h2 : decide (k < bs.length) = false := by simpa using h1
    go_wp2_with fail
    go_ret
    exact ⟨_, rfl, hB, HE.out⟩
end Go.Proofs.YtlgajongmkhcnaaGreatDoor
namespace Go.Proofs.YtlgajongmkhcnaaGreatDoor
open Go.RowKit
set_option linter.unusedVariables false
set_option maxRecDepth 100000
theorem Tryz.infoL : (Tryz.prog.info? 63).map (fun i => (i.zero, i.size, i.bytes)) = some (some (.agg #[.string ⟨#[]⟩, .int .i64 0, .slice none 0 0, .int .i64 0, .int .i64 0]), 5, 64) := by kernel_rfl
theorem Tryz.infoB : (Tryz.prog.info? 150).map (fun i => (i.zero, i.size, i.bytes)) = some (some (.agg #[.string ⟨#[]⟩, .string ⟨#[]⟩]), 2, 32) := by kernel_rfl
theorem Z0v {w w' : World} {base : Nat} {e : TypeId} {size : Nat} {v : Value} {n : Nat} {xs : List Value} {row : Option Nat} (h : w.ownsRow base e size v n xs) (hg : w.grownBy w' row) (hT : ∀ g, row = some g -> ∀ cur fr, w.1[g]? ≠ some (.cells cur e fr)) : w'.ownsRow base e size v n xs := by
 refine h.kept hg ?_
 obtain ⟨_, hv | ⟨g, cap, cur, rfl, _, hh, _⟩⟩ := h
 ·rw [hv.1]; exact .inl rfl
 ·exact .inr (fun e' => hT g e'.symm _ _ hh)
def Z2c (x : Lab) : List Value := [.string x.pre, .string x.grp]
abbrev OwnsLab (w : World) (base : Nat) (v : Value) (labs : List Lab) : Prop := w.ownsRow base 150 2 v labs.length (labs.flatMap Z2c)
theorem Z5v (L : List Lab) (k j : Nat) (h : k < L.length) (hj : j < 2) : (L.flatMap Z2c)[k * 2 + j]? = (Z2c L[k])[j]? := by
 induction L generalizing k with
 | nil => simp at h
 | cons p r ih =>
  rw [List.flatMap_cons]
  have hl : (Z2c p).length = 2 := rfl
  cases k with
  | zero => rw [Nat.zero_mul, Nat.zero_add, List.getElem?_append_left (by omega)]; rfl
  | succ k =>
   rw [List.getElem?_append_right (by rw [hl]; omega), hl, show (k + 1) * 2 + j - 2 = k * 2 + j by omega]
   exact ih k (by simpa using h)
theorem RdLabs.of_owns {w : World} {base : Nat} {v : Value} {labs : List Lab} (ho : OwnsLab w base v labs) : RdLabs w v labs := by
 rcases Joins.ownsRow_forms ho with ⟨rfl, hp⟩ | ⟨g, cap, rfl⟩
 ·obtain rfl : labs = [] := List.length_eq_zero_iff.1 hp
  exact Ze0 w
 ·refine ⟨_, cap, rfl, fun _ => ⟨g, 0, rfl, (ho.lt g rfl).2, fun i h => ?_⟩⟩
  rw [Nat.zero_add]
  constructor
  ·rw [ho.cellAt _ (by omega), show i * 2 = i * 2 + 0 from rfl, Z5v labs i 0 h (by omega)]; rfl
  ·rw [ho.cellAt _ (by omega), Z5v labs i 1 h (by omega)]; rfl
theorem OwnsLab.nil (w : World) (base : Nat) : OwnsLab w base (.slice none 0 0) [] := World.ownsRow_nil _ _ _ _
theorem OwnsLab.form {w : World} {base : Nat} {v : Value} {l : List Lab} (h : OwnsLab w base v l) : ∃ a cap, v = .slice a l.length cap := by
 rcases Joins.ownsRow_forms h with ⟨rfl, hp⟩ | ⟨g, cap, rfl⟩
 ·exact ⟨none, 0, by rw [hp]⟩
 ·exact ⟨_, cap, rfl⟩
def Z1Q (p : Lev × Value) : List Value := [.string p.1.name, .int .i64 p.1.pre, p.2, .int .i64 p.1.min, .int .i64 p.1.cents]
def OwnsLv (w : World) (base : Nat) (v : Value) (ls : List Lev) : Prop :=
 ∃ L : List (Lev × Value), L.map Prod.fst = ls /\ (∀ p ∈ L, OwnsLab w base p.2 p.1.labs) /\ w.ownsRow base 63 5 v L.length (L.flatMap Z1Q)
theorem Z2G (L : List (Lev × Value)) (k j : Nat) (h : k < L.length) (hj : j < 5) : (L.flatMap Z1Q)[k * 5 + j]? = (Z1Q L[k])[j]? := by
 induction L generalizing k with
 | nil => simp at h
 | cons p r ih =>
  rw [List.flatMap_cons]
  have hl : (Z1Q p).length = 5 := rfl
  cases k with
  | zero => rw [Nat.zero_mul, Nat.zero_add, List.getElem?_append_left (by omega)]; rfl
  | succ k =>
   rw [List.getElem?_append_right (by rw [hl]; omega), hl, show (k + 1) * 5 + j - 5 = k * 5 + j by omega]
   exact ih k (by simpa using h)
theorem OwnsLv.nil (w : World) (base : Nat) : OwnsLv w base (.slice none 0 0) [] := ⟨[], rfl, by simp, World.ownsRow_nil _ _ _ _⟩
theorem OwnsLv.form {w : World} {base : Nat} {v : Value} {ls : List Lev} (h : OwnsLv w base v ls) : ∃ a cap, v = .slice a ls.length cap := by
 obtain ⟨L, rfl, _, ho⟩ := h
 rw [Z7]
 rcases Joins.ownsRow_forms ho with ⟨rfl, hp⟩ | ⟨g, cap, rfl⟩
 ·exact ⟨none, 0, by rw [hp]⟩
 ·exact ⟨_, cap, rfl⟩
theorem OwnsLv.grown {w w' : World} {base : Nat} {v : Value} {ls : List Lev} {row : Option Nat} (h : OwnsLv w base v ls) (hg : w.grownBy w' row) (h1 : ∀ g, row = some g -> ∀ cur fr, w.1[g]? ≠ some (.cells cur 150 fr)) (h2 : ∀ g, row = some g -> ∀ cur fr, w.1[g]? ≠ some (.cells cur 63 fr)) : OwnsLv w' base v ls := by
 obtain ⟨L, hL, hLr, hLo⟩ := h
 exact ⟨L, hL, fun p hp => Z0v (hLr p hp) hg h1, Z0v hLo hg h2⟩
theorem OwnsLv.below {w w' : World} {base : Nat} {v : Value} {ls : List Lev} (h : OwnsLv w base v ls) (hb : Below w.1.size w w') : OwnsLv w' base v ls :=
 h.grown (Z0a hb) (fun g e => by cases e) (fun g e => by cases e)
theorem OwnsLv.reads {w : World} {base : Nat} {v : Value} {ls : List Lev} (h : OwnsLv w base v ls) : RdLevs w v ls := by
 obtain ⟨L, rfl, hLr, ho⟩ := h
 rcases Joins.ownsRow_forms ho with ⟨rfl, hp⟩ | ⟨g, cap, rfl⟩
 ·obtain rfl : L = [] := List.length_eq_zero_iff.1 hp
  exact ⟨none, 0, rfl, fun h => absurd h (by simp)⟩
 ·refine ⟨_, cap, by rw [Z7], fun _ => ⟨g, 0, rfl, (ho.lt g rfl).2, fun i h => ?_⟩⟩
  have h' : i < L.length := by simpa using h
  refine ⟨L[i].2, ?_, ?_⟩
  ·have := RdLabs.of_owns (hLr _ (Z4 h'))
   simpa using this
  ·rw [Nat.zero_add]
   refine ⟨?_, ?_, ?_, ?_, ?_⟩
   ·rw [ho.cellAt _ (by omega), show i * 5 = i * 5 + 0 from rfl, Z2G L i 0 h' (by omega)]; simp [Z1Q]
   ·rw [ho.cellAt _ (by omega), Z2G L i 1 h' (by omega)]; simp [Z1Q]
   ·rw [ho.cellAt _ (by omega), Z2G L i 2 h' (by omega)]; simp [Z1Q]
   ·rw [ho.cellAt _ (by omega), Z2G L i 3 h' (by omega)]; simp [Z1Q]
   ·rw [ho.cellAt _ (by omega), Z2G L i 4 h' (by omega)]; simp [Z1Q]
theorem Z0I (w : World) (a : Addr) (u : Value) : w.grownBy (w.setCell a u) (some a.block) := by
 refine ⟨rfl, rfl, rfl, by simp, fun k hk hne => ZA _ _ _ _ (fun e => hne (by rw [e]))⟩
def MR (w : World) (vl vc : Value) (out : List Lev) (wx : World) : Prop :=
 Below w.1.size w wx /\ wx.1[w.1.size]? = some (.cells #[vl] 23 (0, 0)) /\ wx.1[w.1.size + 1]? = some (.cells #[vc] 23 (0, 0)) /\
 ∃ v, wx.1[w.1.size + 2]? = some (.cells #[v] 31 (0, 0)) /\ OwnsLv wx (w.1.size + 3) v out
theorem MR.below {w : World} {vl vc : Value} {out : List Lev} {wx w' : World} (h : MR w vl vc out wx) (hb : Below wx.1.size wx w') : MR w vl vc out w' := by
 obtain ⟨h1, h2, h3, v, h4, h5⟩ := h
 have k : ∀ {b : Nat} {o : Obj}, wx.1[b]? = some o -> w'.1[b]? = some o := fun hh => (hb.block _ (Z5.1 hh).1).trans hh
 exact ⟨Z00 h1 h1.size hb, k h2, k h3, v, k h4, h5.below hb⟩
def Zbm (least cents : List UInt8) (out : List Lev) (l : Lev) : List Lev := out ++ [{ l with min := 1 + ((least.getD out.length 0).toNat : Int), cents := ((cents.getD out.length 0).toNat : Int) }]
theorem Zcn {w w1 w2 : World} {vl vc v v' sv : Value} {out : List Lev} {l : Lev} (h1 : Below w.1.size w w1) (h2 : w1.1[w.1.size]? = some (.cells #[vl] 23 (0, 0))) (h3 : w1.1[w.1.size + 1]? = some (.cells #[vc] 23 (0, 0))) (h4 : w1.1[w.1.size + 2]? = some (.cells #[v] 31 (0, 0)))
 {L : List (Lev × Value)} (hL : L.map Prod.fst = out) (hLr : ∀ p ∈ L, OwnsLab w1 (w.1.size + 3) p.2 p.1.labs) (hLo : w1.ownsRow (w.1.size + 3) 63 5 v L.length (L.flatMap Z1Q)) (hsv : OwnsLab w1 (w.1.size + 3) sv l.labs)
 (hg : w1.grownBy w2 v.ownBlock) (ho : w2.ownsRow (w.1.size + 3) 63 5 v' (L.length + 1) (L.flatMap Z1Q ++ Z1Q (l, sv))) :
 MR w vl vc (out ++ [l]) (w2.setCell ⟨w.1.size + 2, 0, none⟩ v') /\ w2.cell? ⟨w.1.size + 2, 0, none⟩ = some v /\ w2.frozen? ⟨w.1.size + 2, 0, none⟩ = false := by
 have nB := Z0r hLo (T := 23) (by decide)
 have nV := Z0r hLo (T := 31) (by decide)
 have nA := Z0r hLo (T := 150) (by decide)
 have b2 := Z0X hg h2 (fun g e => nB g e _ _)
 have b3 := Z0X hg h3 (fun g e => nB g e _ _)
 have b4 := Z0X hg h4 (fun g e => nV g e _ _)
 have hlt := fun r e => (hLo.lt r e).1
 have B2 : Below w.1.size w w2 := h1.grown hg h1.size (fun r e => by have := hlt r e; omega)
 have sg := Z0I w2 ⟨w.1.size + 2, 0, none⟩ v'
 have no : ∀ T, T ≠ 31 -> ∀ g, some (w.1.size + 2) = some g -> ∀ cur fr, w2.1[g]? ≠ some (.cells cur T fr) := by
  intro T hT g e cur fr e'
  injection e with e
  subst e
  rw [b4] at e'
  injection e' with e'
  injection e' with _ e' _
  exact hT e'.symm
 refine ⟨⟨Z1b B2 sg B2.size (by show _ <= w.1.size + 2; omega), (ZA _ _ _ _ (by show w.1.size ≠ w.1.size + 2; omega)).trans b2, (ZA _ _ _ _ (by show w.1.size + 1 ≠ w.1.size + 2; omega)).trans b3, v', one_setCell b4, L ++ [(l, sv)], ?_, ?_, ?_⟩, cell_of_one b4, free_of_one b4⟩
 ·rw [ZD, hL]; rfl
 ·intro p hp
  have k : ∀ {u : Value} {labs : List Lab}, OwnsLab w1 (w.1.size + 3) u labs -> OwnsLab (w2.setCell ⟨w.1.size + 2, 0, none⟩ v') (w.1.size + 3) u labs := fun hh => Z0v (Z0v hh hg (fun g e => nA g e)) sg (no _ (by decide))
  rcases ZG.1 hp with hp | hp
  ·exact k (hLr p hp)
  ·rw [ZI.1 hp]; exact k hsv
 ·rw [List.flatMap_append, ZC]
  have := Z0v ho sg (no _ (by decide))
  simpa using this
end Go.Proofs.YtlgajongmkhcnaaGreatDoor
namespace Go.Proofs.YtlgajongmkhcnaaGreatDoor
open Go.RowKit
set_option linter.unusedVariables false
set_option maxRecDepth 100000
theorem Z25 (W : World) (n : Nat) (hn : n = W.1.size) (cs : List Value) (T : TypeId) : ∀ j u, cs[j]? = some u -> (W.alloc (.cells cs.toArray T)).cell? ((⟨n, 0, none⟩ : Addr).add j) = some u := by subst hn; exact Z0f W cs T
theorem getD_lt {l : List UInt8} {k : Nat} (h : k < l.length) : l.getD k 0 = l[k] := by rw [Z2, Z3 h]; rfl
theorem Z6R {l : List UInt8} {k : Nat} (h : ¬ k < l.length) : l.getD k 0 = 0 := by rw [Z2, List.getElem?_eq_none (by omega)]; rfl
theorem byte_of {w W : World} {v : Value} {a : Option Addr} {n cap : Nat} {bs : List UInt8} (h : RdBytes w v bs) (hv : v = .slice a n cap) (hb : Below w.1.size w W) {k : Nat} (hk : k < bs.length) : ∃ g off, a = some ⟨g, off, none⟩ /\ g < W.1.size /\ W.cell? ⟨g, off + k, none⟩ = some (.int .u8 (bs[k].toNat : Int)) := by
 obtain ⟨a', cap', rfl, hc⟩ := h
 injection hv with h1 h2 h3
 subst h1
 obtain ⟨g, off, ha, hg, hcc⟩ := hc (by omega)
 exact ⟨g, off, ha, ZH hg hb.size, (hb.cell (p := ⟨g, off + k, none⟩) hg).trans (hcc k hk)⟩
theorem Zds {W : World} {b : Nat} {o x y : Obj} (h : W.1[b]? = some o) : ((W.alloc x).alloc y).1[b]? = some o := by
 have hb : Below W.1.size W ((W.alloc x).alloc y) := ((Z9 _ W).alloc (Z1 _) _).alloc (by simp) _
 exact (hb.block b (Z5.1 h).1).trans h
theorem ZeF (l : Lev) (sv vl vc : Value) (least cents : List UInt8) (out : List Lev) (w wx : World) (hrl : RdBytes w vl least) (hrc : RdBytes w vc cents) (hll : least.length <= maxLen) (hcl : cents.length <= maxLen) (hM : MR w vl vc out wx) (hsv : OwnsLab wx (w.1.size + 3) sv l.labs) (hc0 : l.cents = 0) (ho3 : out.length <= 10) (hx : w.1.size + 3 <= wx.1.size) :
 Calls Tryz.prog 61 #[lvA l sv, .pointer (some ⟨w.1.size + 2, 0, none⟩), .pointer (some ⟨w.1.size, 0, none⟩), .pointer (some ⟨w.1.size + 1, 0, none⟩)] wx fun e w' => e = .returned (.tuple #[]) /\ MR w vl vc (Zbm least cents out l) w' /\ wx.1.size <= w'.1.size := by
 unfold maxLen at hll hcl
 obtain ⟨h1, h2, h3, v, h4, L, hL, hLr, hLo⟩ := hM
 have hLl : L.length = out.length := by rw [<- hL, Z7]
 rw [hLl] at hLo
 obtain ⟨a, cap, rfl⟩ : ∃ a cap, v = .slice a out.length cap := by
  rcases Joins.ownsRow_forms hLo with ⟨rfl, hp⟩ | ⟨g, cap, rfl⟩
  ·exact ⟨none, 0, by rw [hp]⟩
  ·exact ⟨_, cap, rfl⟩
 obtain ⟨sa, sc, rfl⟩ := OwnsLab.form hsv
 have HRL := Z0 hrl
 have HRC := Z0 hrc
 obtain ⟨la, lc, rfl, _⟩ := hrl
 obtain ⟨ca, cc, rfl, _⟩ := hrc
 have x0 := cell_of_one h2
 have x1 := cell_of_one h3
 have x2 := cell_of_one h4
 obtain ⟨i0, hi⟩ := info_parts Tryz.infoL
 have HI := Z0 hi
 have H1 := Z0 h1
 have H2 := Z0 h2
 have H3 := Z0 h3
 have H4 := Z0 h4
 have HL := Z0 hL
 have HLL := Z0 hLl
 have HLR := Z0 hLr
 have HSV := Z0 hsv
 have HFIN : Hid (∀ m c : Int, m = 1 + ((least.getD out.length 0).toNat : Int) -> c = ((cents.getD out.length 0).toNat : Int) -> ∀ W, MR w (.slice la least.length lc) (.slice ca cents.length cc) (out ++ [{ l with min := m, cents := c }]) W -> MR w (.slice la least.length lc) (.slice ca cents.length cc) (Zbm least cents out l) W) := fun m c hm hc W h => by subst hm hc; exact h
 clear hi h1 h2 h3 h4 hL hLr hsv hLl
 have hx2 : w.1.size + 2 < wx.1.size := by omega
 have hx1 : w.1.size + 1 < wx.1.size := by omega
 have hx0 : w.1.size < wx.1.size := by omega
 unfold lvA
 rw [hc0]
 by_cases k1 : out.length < least.length <;> by_cases k2 : out.length < cents.length
 ·obtain ⟨g1, o1, rfl, gg1, c1⟩ := byte_of HRL.out rfl H1.out k1
  obtain ⟨g2, o2, rfl, gg2, c2⟩ := byte_of HRC.out rfl H1.out k2
  have e1 := Z0 (getD_lt k1)
  have bb1 : (least[out.length].toNat : Int) <= 255 := by have := least[out.length].toNat_lt; omega
  have bb2 : 0 <= (least[out.length].toNat : Int) := by omega
  have e2 := Z0 (getD_lt k2)
  have bb3 : (cents[out.length].toNat : Int) <= 255 := by have := cents[out.length].toNat_lt; omega
  have bb4 : 0 <= (cents[out.length].toNat : Int) := by omega
  go_enter Tryz.func61, Tryz.ntmps61
  go_wp2_with (at_builtin; refine wpList_append_own _ rfl _ _ 31 rfl (w.1.size + 3) 63 i0 (.agg #[.string ⟨#[]⟩, .int .i64 0, .slice none 0 0, .int .i64 0, .int .i64 0]) 5 64 Tryz.underlying31 HI.out.1 HI.out.2.1 HI.out.2.2.1 HI.out.2.2.2 rfl (by decide) _ _ _ rfl ((hLo.alloc _).alloc _) ⟨wx.1.size + 1, 0, none⟩ 1 1 (Z1Q ({ l with min := 1 + (least[out.length].toNat : Int), cents := (cents[out.length].toNat : Int) }, .slice sa l.labs.length sc)) rfl rfl (Z25 _ _ (by simp) _ _) (by simp [Value.oneCell', Z1Q]) (by unfold maxLen; omega) (by omega) (by simp; omega) ?_; intro v' w2 hown' hgrow _; obtain ⟨gv, cv, rfl⟩ := Joins.ownsRow_form hown' (by omega); obtain ⟨hMR, hc, hfz⟩ := Zcn (L := L) (l := { l with min := 1 + (least[out.length].toNat : Int), cents := (cents[out.length].toNat : Int) }) (h1 := by exact (H1.out.alloc H1.out.size _).alloc (by simp; omega) _) (h2 := by exact Zds H2.out) (h3 := by exact Zds H3.out) (h4 := by exact Zds H4.out) (hL := HL.out) (hLr := by exact fun p hp => ((HLR.out p hp).alloc _).alloc _) (hLo := by rw [HLL.out]; exact (hLo.alloc _).alloc _) (hsv := by exact (HSV.out.alloc _).alloc _) (hg := hgrow) (ho := by rw [HLL.out]; exact hown'); have HMR := Z0 hMR; have hgs := hgrow.size; clear hMR)
  go_end0
  exact ⟨rfl, HFIN.out _ _ (by rw [e1.out]) (by rw [e2.out]) _ HMR.out, by simp at hgs ⊢; omega⟩
 ·obtain ⟨g1, o1, rfl, gg1, c1⟩ := byte_of HRL.out rfl H1.out k1
  have e1 := Z0 (getD_lt k1)
  have bb1 : (least[out.length].toNat : Int) <= 255 := by have := least[out.length].toNat_lt; omega
  have bb2 : 0 <= (least[out.length].toNat : Int) := by omega
  have e2 := Z0 (Z6R k2)
  go_enter Tryz.func61, Tryz.ntmps61
  go_wp2_with (at_builtin; refine wpList_append_own _ rfl _ _ 31 rfl (w.1.size + 3) 63 i0 (.agg #[.string ⟨#[]⟩, .int .i64 0, .slice none 0 0, .int .i64 0, .int .i64 0]) 5 64 Tryz.underlying31 HI.out.1 HI.out.2.1 HI.out.2.2.1 HI.out.2.2.2 rfl (by decide) _ _ _ rfl ((hLo.alloc _).alloc _) ⟨wx.1.size + 1, 0, none⟩ 1 1 (Z1Q ({ l with min := 1 + (least[out.length].toNat : Int), cents := 0 }, .slice sa l.labs.length sc)) rfl rfl (Z25 _ _ (by simp) _ _) (by simp [Value.oneCell', Z1Q]) (by unfold maxLen; omega) (by omega) (by simp; omega) ?_; intro v' w2 hown' hgrow _; obtain ⟨gv, cv, rfl⟩ := Joins.ownsRow_form hown' (by omega); obtain ⟨hMR, hc, hfz⟩ := Zcn (L := L) (l := { l with min := 1 + (least[out.length].toNat : Int), cents := 0 }) (h1 := by exact (H1.out.alloc H1.out.size _).alloc (by simp; omega) _) (h2 := by exact Zds H2.out) (h3 := by exact Zds H3.out) (h4 := by exact Zds H4.out) (hL := HL.out) (hLr := by exact fun p hp => ((HLR.out p hp).alloc _).alloc _) (hLo := by rw [HLL.out]; exact (hLo.alloc _).alloc _) (hsv := by exact (HSV.out.alloc _).alloc _) (hg := hgrow) (ho := by rw [HLL.out]; exact hown'); have HMR := Z0 hMR; have hgs := hgrow.size; clear hMR)
  go_end0
  exact ⟨rfl, HFIN.out _ _ (by rw [e1.out]) (by rw [e2.out]; rfl) _ HMR.out, by simp at hgs ⊢; omega⟩
 ·obtain ⟨g2, o2, rfl, gg2, c2⟩ := byte_of HRC.out rfl H1.out k2
  have e1 := Z0 (Z6R k1)
  have e2 := Z0 (getD_lt k2)
  have bb3 : (cents[out.length].toNat : Int) <= 255 := by have := cents[out.length].toNat_lt; omega
  have bb4 : 0 <= (cents[out.length].toNat : Int) := by omega
  go_enter Tryz.func61, Tryz.ntmps61
  go_wp2_with (at_builtin; refine wpList_append_own _ rfl _ _ 31 rfl (w.1.size + 3) 63 i0 (.agg #[.string ⟨#[]⟩, .int .i64 0, .slice none 0 0, .int .i64 0, .int .i64 0]) 5 64 Tryz.underlying31 HI.out.1 HI.out.2.1 HI.out.2.2.1 HI.out.2.2.2 rfl (by decide) _ _ _ rfl ((hLo.alloc _).alloc _) ⟨wx.1.size + 1, 0, none⟩ 1 1 (Z1Q ({ l with min := 1, cents := (cents[out.length].toNat : Int) }, .slice sa l.labs.length sc)) rfl rfl (Z25 _ _ (by simp) _ _) (by simp [Value.oneCell', Z1Q]) (by unfold maxLen; omega) (by omega) (by simp; omega) ?_; intro v' w2 hown' hgrow _; obtain ⟨gv, cv, rfl⟩ := Joins.ownsRow_form hown' (by omega); obtain ⟨hMR, hc, hfz⟩ := Zcn (L := L) (l := { l with min := 1, cents := (cents[out.length].toNat : Int) }) (h1 := by exact (H1.out.alloc H1.out.size _).alloc (by simp; omega) _) (h2 := by exact Zds H2.out) (h3 := by exact Zds H3.out) (h4 := by exact Zds H4.out) (hL := HL.out) (hLr := by exact fun p hp => ((HLR.out p hp).alloc _).alloc _) (hLo := by rw [HLL.out]; exact (hLo.alloc _).alloc _) (hsv := by exact (HSV.out.alloc _).alloc _) (hg := hgrow) (ho := by rw [HLL.out]; exact hown'); have HMR := Z0 hMR; have hgs := hgrow.size; clear hMR)
  go_end0
  exact ⟨rfl, HFIN.out _ _ (by rw [e1.out]; rfl) (by rw [e2.out]) _ HMR.out, by simp at hgs ⊢; omega⟩
 ·have e1 := Z0 (Z6R k1)
  have e2 := Z0 (Z6R k2)
  go_enter Tryz.func61, Tryz.ntmps61
  go_wp2_with (at_builtin; refine wpList_append_own _ rfl _ _ 31 rfl (w.1.size + 3) 63 i0 (.agg #[.string ⟨#[]⟩, .int .i64 0, .slice none 0 0, .int .i64 0, .int .i64 0]) 5 64 Tryz.underlying31 HI.out.1 HI.out.2.1 HI.out.2.2.1 HI.out.2.2.2 rfl (by decide) _ _ _ rfl ((hLo.alloc _).alloc _) ⟨wx.1.size + 1, 0, none⟩ 1 1 (Z1Q ({ l with min := 1, cents := 0 }, .slice sa l.labs.length sc)) rfl rfl (Z25 _ _ (by simp) _ _) (by simp [Value.oneCell', Z1Q]) (by unfold maxLen; omega) (by omega) (by simp; omega) ?_; intro v' w2 hown' hgrow _; obtain ⟨gv, cv, rfl⟩ := Joins.ownsRow_form hown' (by omega); obtain ⟨hMR, hc, hfz⟩ := Zcn (L := L) (l := { l with min := 1, cents := 0 }) (h1 := by exact (H1.out.alloc H1.out.size _).alloc (by simp; omega) _) (h2 := by exact Zds H2.out) (h3 := by exact Zds H3.out) (h4 := by exact Zds H4.out) (hL := HL.out) (hLr := by exact fun p hp => ((HLR.out p hp).alloc _).alloc _) (hLo := by rw [HLL.out]; exact (hLo.alloc _).alloc _) (hsv := by exact (HSV.out.alloc _).alloc _) (hg := hgrow) (ho := by rw [HLL.out]; exact hown'); have HMR := Z0 hMR; have hgs := hgrow.size; clear hMR)
  go_end0
  exact ⟨rfl, HFIN.out _ _ (by rw [e1.out]; rfl) (by rw [e2.out]; rfl) _ HMR.out, by simp at hgs ⊢; omega⟩
end Go.Proofs.YtlgajongmkhcnaaGreatDoor
namespace Go.Proofs.YtlgajongmkhcnaaGreatDoor
open Go.RowKit
set_option linter.unusedVariables false
def sel (cands : List ByteArray) (f : ByteArray -> Lab) (b : Nat -> Bool) (k : Nat) : List Lab := ((List.range k).filter b).map (fun i => f (cands.getD i ⟨#[]⟩))
theorem Z8l (cands : List ByteArray) (f : ByteArray -> Lab) (b : Nat -> Bool) (k : Nat) (h : k < cands.length) : sel cands f b (k + 1) = if b k then sel cands f b k ++ [f cands[k]] else sel cands f b k := by
 unfold sel
 rw [List.range_succ, List.filter_append, ZD]
 cases hb : b k
 ·rw [List.filter_cons_of_neg (by simpa using hb), List.filter_nil, List.map_nil, List.append_nil]; simp
 ·rw [List.filter_cons_of_pos (by simpa using hb), List.filter_nil, if_pos rfl]
  have : cands.getD k ⟨#[]⟩ = cands[k] := by rw [Z2, Z3 h]; rfl
  rw [List.map_cons, List.map_nil, this]
theorem Z4V (cands : List ByteArray) (f : ByteArray -> Lab) (b : Nat -> Bool) (k : Nat) : (sel cands f b k).length <= k := by
 unfold sel
 rw [Z7]
 have := List.length_filter_le b (List.range k)
 rw [List.length_range] at this
 exact this
def bt (n m : Int) : Bool := decide (0 < bits BinOp.and IntKind.u32 n m)
structure Bits where
 f5 : Bool
 f3 : Bool
 f1 : Bool
 b5 : Nat -> Bool
 b3 : Nat -> Bool
 b1 : Nat -> Bool
def bitsOf (n : Int) : Bits := ⟨bt n 1, bt n 2, bt n 4, fun k => bt (n / 2 ^ (3 + k)) 1, fun k => bt (n / 2 ^ (8 + k)) 1, fun k => bt (n / 2 ^ (14 + k)) 1⟩
def pre5 : List ByteArray := [⟨#[49, 48, 48, 48, 48]⟩, ⟨#[49, 48, 48, 48, 49]⟩, ⟨#[49, 48, 48, 49, 48]⟩, ⟨#[49, 49, 48, 48, 48]⟩, ⟨#[50, 48, 48, 48, 48]⟩]
def pre3 : List ByteArray := [⟨#[49, 48, 48]⟩, ⟨#[49, 48, 49]⟩, ⟨#[49, 49, 48]⟩, ⟨#[50, 48, 48]⟩, ⟨#[50, 48, 49]⟩, ⟨#[51, 48, 48]⟩]
def pre1 : List ByteArray := [⟨#[49]⟩, ⟨#[50]⟩, ⟨#[51]⟩]
def Z9J (p : ByteArray) : Lab := ⟨p, ⟨#[72]⟩ ++ p.extract 0 3⟩
def Z9K (p : ByteArray) : Lab := ⟨p, ⟨#[71]⟩ ++ p.extract 0 1⟩
def Z9L (p : ByteArray) : Lab := ⟨p, ⟨#[90]⟩⟩
def Zjw (B : Bits) : Lev := ⟨⟨#[102, 105, 118, 101]⟩, 5, sel pre5 Z9J B.b5 5, 0, 0⟩
def Zjx (B : Bits) : Lev := ⟨⟨#[116, 104, 114, 101, 101]⟩, 3, sel pre3 Z9K B.b3 6, 0, 0⟩
def Zjy (B : Bits) : Lev := ⟨⟨#[111, 110, 101]⟩, 1, sel pre1 Z9L B.b1 3, 0, 0⟩
def mk1 (B : Bits) (least cents : List UInt8) : List Lev := if B.f5 then Zbm least cents [] (Zjw B) else []
def mk2 (B : Bits) (least cents : List UInt8) : List Lev := if B.f3 then Zbm least cents (mk1 B least cents) (Zjx B) else mk1 B least cents
def mk3 (B : Bits) (least cents : List UInt8) : List Lev := if B.f1 then Zbm least cents (mk2 B least cents) (Zjy B) else mk2 B least cents
def Z1C (B : Bits) (least cents : List UInt8) : List Lev := mk3 B least cents ++ [⟨⟨#[97, 108, 108]⟩, 0, [], 0, ((cents.getD (mk3 B least cents).length 0).toNat : Int)⟩]
theorem ZiS (B : Bits) (least cents : List UInt8) : (mk1 B least cents).length <= 1 /\ (mk2 B least cents).length <= 2 /\ (mk3 B least cents).length <= 3 := by
 have h1 : (mk1 B least cents).length <= 1 := by unfold mk1 Zbm; split <;> simp
 have h2 : (mk2 B least cents).length <= 2 := by unfold mk2 Zbm; split <;> (try simp) <;> omega
 have h3 : (mk3 B least cents).length <= 3 := by unfold mk3 Zbm; split <;> (try simp) <;> omega
 exact ⟨h1, h2, h3⟩
def SR (wa : World) (nm : ByteArray) (pre : Int) (strs : Array Value) (labs : List Lab) (wr : World) : Prop :=
 Below wa.1.size wa wr /\ (∃ sv, wr.1[wa.1.size]? = some (.cells #[.string nm, .int .i64 pre, sv, .int .i64 0, .int .i64 0] 63 (0, 0)) /\ OwnsLab wr (wa.1.size + 1) sv labs) /\ wr.1[wa.1.size + 1]? = some (.cells strs 9 (0, 0))
theorem Z8Z (wa : World) (nm : ByteArray) (pre : Int) (strs : Array Value) : SR wa nm pre strs [] ((wa.alloc (.cells #[.string nm, .int .i64 pre, .slice none 0 0, .int .i64 0, .int .i64 0] 63)).alloc (.cells strs 9)) := by
 have h := fun j o => @Z5y wa [.cells #[.string nm, .int .i64 pre, .slice none 0 0, .int .i64 0, .int .i64 0] 63, .cells strs 9] j o
 exact ⟨((Z9 _ wa).alloc (Z1 _) _).alloc (by simp) _, ⟨_, h 0 _ rfl, OwnsLab.nil _ _⟩, h 1 _ rfl⟩
theorem Zbn {wa wr W : World} {nm : ByteArray} {pre : Int} {strs : Array Value} {labs : List Lab} (h : SR wa nm pre strs labs wr) (x : Lab) (hl : labs.length <= 100) {i0 : TypeInfo} (hbW : Below wr.1.size wr W) (hszW : wr.1.size < W.1.size) (hcW : ∀ j u, (Z2c x)[j]? = some u -> W.cell? ((⟨wr.1.size, 0, none⟩ : Addr).add j) = some u) (hi : Tryz.prog.info? 150 = some i0 /\ i0.zero = some (.agg #[.string ⟨#[]⟩, .string ⟨#[]⟩]) /\ i0.size = 2 /\ i0.bytes = 32) :
 ∃ sa sc gv cv w1, wr.cell? ⟨wa.1.size, 2, none⟩ = some (.slice sa labs.length sc) /\ wa.1.size < wr.1.size /\
  (Builtin.append_ #[61, 61] 61 #[.slice sa labs.length sc, .slice (some ⟨wr.1.size, 0, none⟩) 1 1]).run Tryz.prog W = .ok (.slice (some ⟨gv, 0, none⟩) (labs.length + 1) cv) w1 /\
  w1.cell? ⟨wa.1.size, 2, none⟩ = some (.slice sa labs.length sc) /\ w1.frozen? ⟨wa.1.size, 2, none⟩ = false /\
  SR wa nm pre strs (labs ++ [x]) (w1.setCell ⟨wa.1.size, 2, none⟩ (.slice (some ⟨gv, 0, none⟩) (labs.length + 1) cv)) := by
 obtain ⟨h1, ⟨sv, h2, h3⟩, h4⟩ := h
 obtain ⟨sa, sc, rfl⟩ := OwnsLab.form h3
 have hlt := (Z5.1 h2).1
 have h3W : OwnsLab W (wa.1.size + 1) (.slice sa labs.length sc) labs := h3.kept (Z0a hbW) (Classical.em _)
 obtain ⟨v', w1, hr, ho, hg, _⟩ := run_append_own (P := Tryz.prog) W (wa.1.size + 1) 61 61 150 i0 (.agg #[.string ⟨#[]⟩, .string ⟨#[]⟩]) 2 32 Tryz.underlying61 hi.1 hi.2.1 hi.2.2.1 hi.2.2.2 rfl (by decide) (.slice sa labs.length sc) labs.length (labs.flatMap Z2c) h3W ⟨wr.1.size, 0, none⟩ 1 1 (Z2c x) rfl hcW (by simp [Value.oneCell', Z2c]) (by unfold maxLen; omega) (by omega) (by omega)
 obtain ⟨gv, cv, rfl⟩ := Joins.ownsRow_form ho (by omega)
 have nL := Z0r h3W (T := 63) (by decide)
 have nS := Z0r h3W (T := 9) (by decide)
 have k2 : W.1[wa.1.size]? = _ := (hbW.block _ hlt).trans h2
 have k4 : W.1[wa.1.size + 1]? = _ := (hbW.block _ (Z5.1 h4).1).trans h4
 have m2 := Z0X hg k2 (fun g e => nL g e _ _)
 have m4 := Z0X hg k4 (fun g e => nS g e _ _)
 refine ⟨sa, sc, gv, cv, w1, cell_of_row _ _ 2 _ _ _ h2, hlt, hr, cell_of_row _ _ 2 _ _ _ m2, frozen_of_row _ _ 2 _ _ m2, ?_, ⟨.slice (some ⟨gv, 0, none⟩) (labs.length + 1) cv, ?_, ?_⟩, ?_⟩
 ·have b1 : Below wa.1.size wa w1 := (Z00 h1 h1.size hbW).grown hg (by have := h1.size; have := hbW.size; omega) (fun r e => by have := (h3W.lt r e).1; omega)
  exact Z1b b1 (Z0I w1 ⟨wa.1.size, 2, none⟩ _) b1.size (Z1 _)
 ·exact heap_setCell_same w1 wa.1.size 2 _ _ _ m2
 ·have hno : ∀ g, some wa.1.size = some g -> ∀ cur fr, w1.1[g]? ≠ some (.cells cur 150 fr) := by
   intro g e cur fr e'
   injection e with e
   subst e
   rw [m2] at e'
   injection e' with e'
   injection e' with _ e' _
   exact absurd e' (by decide)
  have := Z0v ho (Z0I w1 ⟨wa.1.size, 2, none⟩ (.slice (some ⟨gv, 0, none⟩) (labs.length + 1) cv)) hno
  show (w1.setCell _ _).ownsRow _ _ _ _ _ _
  rw [List.flatMap_append, ZC]
  simpa using this
 ·exact (ZA _ _ _ _ (by show wa.1.size + 1 ≠ wa.1.size; omega)).trans m4
theorem wpList_append_run {P : Program} {ops : Array Oper} {rest : List Oper} {o : Oper} {a : Act} {w : World} {Q : Exit -> Act -> World -> Prop} (hgd : o.guard = none) (s x : Operand) (t : TypeId)
 (ho : o.op = .call { callee := .builtin .append, args := #[s, x], argTypes := #[t, t] }) {v u r : Value} {w' : World} (hr : (Builtin.append_ #[t, t] o.type #[v, u]).run P w = .ok r w') (hs : a.eval s = v) (hx : a.eval x = u)
 (h : wpList P ops Q rest (a.put o.dst r) w') : wpList P ops Q (o :: rest) a w := by
 refine wpList_plain hgd fun K hK => ?_
 unfold Oper.wp execOp
 simp only [ho, resolve, invoke, builtin, Sem.run_bind, Sem.run_pure, Result.andThen_ok, List.map_toArray, List.map_cons, List.map_nil, hs, hx, hr]
 exact hK _ _ h
theorem Z3d {P : Program} {ops : Array Oper} {o : Oper} {a : Act} {w : World} {K : Act -> World -> Prop} {Q : Exit -> Act -> World -> Prop} {E : Prop} (hgd : o.guard = none) (s x : Operand) (t : TypeId)
 (ho : o.op = .call { callee := .builtin .append, args := #[s, x], argTypes := #[t, t] }) {v u r : Value} {w' : World} (hr : (Builtin.append_ #[t, t] o.type #[v, u]).run P w = .ok r w') (hs : a.eval s = v) (hx : a.eval x = u)
 (h : K (a.put o.dst r) w') : if Region.wanted o (yielded ops a.tmps) = true then o.wp P a w K Q else E := by
 rw [if_pos (by simp [Region.wanted, hgd])]
 unfold Oper.wp execOp
 simp only [ho, resolve, invoke, builtin, Sem.run_bind, Sem.run_pure, Result.andThen_ok, List.map_toArray, List.map_cons, List.map_nil, hs, hx, hr]
 exact h
theorem Z3i {w : World} {b b' : Nat} {e : TypeId} {size : Nat} {v : Value} {n : Nat} {xs : List Value} (h : w.ownsRow b e size v n xs) (hb : b' <= b) : w.ownsRow b' e size v n xs := by
 obtain ⟨h1, h2 | ⟨g, cap, cur, hv, hg, r⟩⟩ := h
 ·exact ⟨h1, .inl h2⟩
 ·exact ⟨h1, .inr ⟨g, cap, cur, hv, Nat.le_trans hb hg, r⟩⟩
end Go.Proofs.YtlgajongmkhcnaaGreatDoor
namespace Go.Proofs.YtlgajongmkhcnaaGreatDoor
open Go.RowKit
set_option linter.unusedVariables false
set_option maxRecDepth 100000
theorem Z5g {n m : Int} (h : bt n m = true) : 0 < bits BinOp.and IntKind.u32 n m := by unfold bt at h; simpa using h
theorem Z3E {n m : Int} (h : bt n m = false) : bits BinOp.and IntKind.u32 n m <= 0 := by unfold bt at h; simpa using h
theorem Zgy (n : Int) (vl vc : Value) (least cents : List UInt8) (w : World) (hn0 : 0 <= n) (hn1 : n < 4294967296) (hrl : RdBytes w vl least) (hrc : RdBytes w vc cents) (hll : least.length <= maxLen) (hcl : cents.length <= maxLen) :
 Calls Tryz.prog 25 #[.int .u32 n, vl, vc] w fun e w' => ∃ v, e = .returned v /\ Below w.1.size w w' /\ OwnsLv w' w.1.size v (Z1C (bitsOf n) least cents) := by
 obtain ⟨B, hB⟩ : ∃ B, bitsOf n = B := ⟨_, rfl⟩
 rw [hB]
 have HB := Z0 hB
 have HLN := Z0 (ZiS B least cents)
 have HADD := Z0 (fun l sv out wx hM hsv hc0 ho3 hx => ZeF l sv vl vc least cents out w wx hrl hrc hll hcl hM hsv hc0 ho3 hx)
 unfold lvA at HADD
 have HRC := Z0 hrc
 unfold maxLen at hcl hll
 obtain ⟨la, lc, rfl, _⟩ := hrl
 obtain ⟨ca, cc, rfl, _⟩ := hrc
 obtain ⟨i0, hi⟩ := info_parts Tryz.infoB
 have HI := Z0 hi
 obtain ⟨i1, hi1⟩ := info_parts Tryz.infoL
 have HI1 := Z0 hi1
 clear hi hi1 hB
 go_enter Tryz.func25, Tryz.ntmps25
 go_upto_if 22 with fail
 generalize hwa : ((w.alloc (.cells #[.slice la least.length lc] 23)).alloc (.cells #[.slice ca cents.length cc] 23)).alloc (.cells #[.slice none 0 0] 31) = wa
 have hM : MR w (.slice la least.length lc) (.slice ca cents.length cc) [] wa := by
  rw [<- hwa]
  have h := fun j o => @Z5y w [.cells #[.slice la least.length lc] 23, .cells #[.slice ca cents.length cc] 23, .cells #[.slice none 0 0] 31] j o
  exact ⟨(((Z9 _ w).alloc (Z1 _) _).alloc (by simp) _).alloc (by simp; omega) _, h 0 _ rfl, h 1 _ rfl, _, h 2 _ rfl, OwnsLv.nil _ _⟩
 have hx : w.1.size + 3 <= wa.1.size := by rw [<- hwa]; simp
 clear hwa
 go_cut [9] (fun _ wx => MR w (.slice la least.length lc) (.slice ca cents.length cc) (mk1 B least cents) wx /\ w.1.size + 3 <= wx.1.size)
 case first =>
  cases hf : bt n 1
  ·have HM : Hid (MR w (.slice la least.length lc) (.slice ca cents.length cc) (mk1 B least cents) wa) := by
    have e : B.f5 = false := by rw [<- HB.out]; exact hf
    unfold mk1; rw [e]; exact hM
   have hf' := Z3E hf
   have hfd : decide (0 < bits BinOp.and IntKind.u32 n 1) = false := hf
   rw [hfd]
   clear hf hfd
   go_wp2_with fail
   go_meet
   exact ⟨HM.out, hx⟩
  ·have hfe : B.f5 = true := by rw [<- HB.out]; exact hf
   have HFE := Z0 hfe
   have hf' := Z5g hf
   have hfd : decide (0 < bits BinOp.and IntKind.u32 n 1) = true := hf
   rw [hfd]
   clear hf hfe hfd
   go_wp2_with fail
   go_loopw [26] (fun i wr => ∃ k : Nat, k <= 5 /\ i = .int .i64 k /\ SR wa ⟨#[102, 105, 118, 101]⟩ 5 (pre5.map Value.string).toArray (sel pre5 Z9J B.b5 k) wr) (fun i _ => 5 - (intOf i).toNat)
   case atStart => exact ⟨0, ZE _, rfl, Z8Z wa _ _ _⟩
   case round =>
    obtain ⟨k, hk, rfl, hS⟩ := hrel
    by_cases hlt : k < 5
    ·have hpl : k < pre5.length := hlt
     have HSU := Z0 (Z8l pre5 Z9J B.b5 k hpl)
     have hsl : (sel pre5 Z9J B.b5 k).length <= 100 := by have := Z4V pre5 Z9J B.b5 k; omega
     obtain ⟨sa, sc, gv, cv, w1, c2, hlw, hrun, d2, dz, hS2⟩ := Zbn (W := (wr.alloc (.cells #[.string (Z9J pre5[k]).pre, .string (Z9J pre5[k]).grp] 150)).drew) hS (Z9J pre5[k]) hsl ((Z9 _ wr).alloc (Z1 _) _).drew (by simp) (by exact Z0f wr (Z2c (Z9J pre5[k])) _) HI.out
     have cp : wr.cell? ⟨wa.1.size + 1, k, none⟩ = some (.string pre5[k]) := by
      rw [cell_of_row _ _ k _ _ _ hS.2.2]; simp [hpl]
     have hly : wa.1.size + 1 < wr.1.size := (Z5.1 hS.2.2).1
     have hps : pre5[k].size = 5 := by
      have : k = 0 \/ k = 1 \/ k = 2 \/ k = 3 \/ k = 4 := by omega
      rcases this with rfl | rfl | rfl | rfl | rfl <;> rfl
     have hps1 : pre5[k].size <= 5 := by omega
     have hps2 : 5 <= pre5[k].size := by omega
     have HBK : Hid (B.b5 k = bt (n / 2 ^ (3 + k)) 1) := by rw [<- HB.out]; exact rfl
     have HS := Z0 hS
     have HS2 := Z0 hS2
     clear hS hS2 hps
     generalize sel pre5 Z9J B.b5 k = labs at HSU hsl c2 hrun d2 HS HS2
     dsimp only [Z9J] at hrun
     generalize pre5[k] = p at cp hps1 hps2 hrun HSU HS2
     cases hb : bt (n / 2 ^ (3 + k)) 1
     ·have hb' := Z3E hb
      have HE : Hid (sel pre5 Z9J B.b5 (k + 1) = labs) := by rw [HSU.out, HBK.out, hb]; exact rfl
      clear hb hrun
      go_wp2_with fail
      go_roundw
      case rel => exact ⟨k + 1, by omega, by go_num, by rw [HE.out]; exact HS.out⟩
      case measure => simp [intOf]; omega
     ·have hb' := Z5g hb
      have hp3 : (3 : Int) <= (p.size : Int) := by omega
      have hp4 : ¬ 9223372036854775807 < 1 + min 3 p.size := by omega
      have HE : Hid (sel pre5 Z9J B.b5 (k + 1) = labs ++ [Z9J p]) := by rw [HSU.out, HBK.out, hb]; exact rfl
      clear hb
      go_wp2_with fail
      go_region_law (refine Z3d rfl (.tmp 38) (.tmp 44) 61 rfl hrun (by simp [Act.eval]) (by simp [Act.eval]) ?_)
      all_goals
       go_wp2_with fail
       go_roundw
       case rel => exact ⟨k + 1, by omega, by go_num, by rw [HE.out]; exact HS2.out⟩
       case measure => simp [intOf]; omega
    ·have hke : k = 5 := by omega
     obtain ⟨s1, ⟨sv, s2, s3⟩, s4⟩ := hS
     rw [hke] at s3
     have hM2 := hM.below s1
     have hww := s1.size
     have hA := HADD.out (Zjw B) sv _ wr hM2 (Z3i s3 (by omega)) rfl (by simp) (by omega)
     obtain ⟨sa, sc, rfl⟩ := OwnsLab.form s3
     have y0 : wr.cell? ⟨wa.1.size, 0, none⟩ = _ := cell_of_row _ _ 0 _ _ _ s2
     have y1 : wr.cell? ⟨wa.1.size, 1, none⟩ = _ := cell_of_row _ _ 1 _ _ _ s2
     have y2 : wr.cell? ⟨wa.1.size, 2, none⟩ = _ := cell_of_row _ _ 2 _ _ _ s2
     have y3 : wr.cell? ⟨wa.1.size, 3, none⟩ = _ := cell_of_row _ _ 3 _ _ _ s2
     have y4 : wr.cell? ⟨wa.1.size, 4, none⟩ = _ := cell_of_row _ _ 4 _ _ _ s2
     simp at y0 y1 y2 y3 y4
     have HA := Z0 hA
     clear hA hM2 s2 s3 s4 hke
     go_wp2_with (go_at_call 61; refine HA.out.mono ?_; rintro e w2 ⟨rfl, hm2, hz2⟩; have HM2 := Z0 hm2; clear hm2)
     go_meet
     exact ⟨by unfold mk1; rw [HFE.out]; exact HM2.out, by omega⟩
 case rest =>
  clear hM hx
  obtain ⟨hM, hx⟩ := hcut
  clear wa
  obtain ⟨wa, hwa⟩ : ∃ wa : World, wa = wc := ⟨_, rfl⟩
  rw [<- hwa] at hM hx ⊢
  clear hwa
  clear wc
  go_upto_if 53 with fail
  go_cut [12] (fun _ wx => MR w (.slice la least.length lc) (.slice ca cents.length cc) (mk2 B least cents) wx /\ w.1.size + 3 <= wx.1.size)
  case first =>
   cases hf : bt n 2
   ·have HM : Hid (MR w (.slice la least.length lc) (.slice ca cents.length cc) (mk2 B least cents) wa) := by
     have e : B.f3 = false := by rw [<- HB.out]; exact hf
     unfold mk2; rw [e]; exact hM
    have hf' := Z3E hf
    have hfd : decide (0 < bits BinOp.and IntKind.u32 n 2) = false := hf
    rw [hfd]
    clear hf hfd
    go_wp2_with fail
    go_meet
    exact ⟨HM.out, hx⟩
   ·have hfe : B.f3 = true := by rw [<- HB.out]; exact hf
    have HFE := Z0 hfe
    have hf' := Z5g hf
    have hfd : decide (0 < bits BinOp.and IntKind.u32 n 2) = true := hf
    rw [hfd]
    clear hf hfe hfd
    go_wp2_with fail
    go_loopw [57] (fun i wr => ∃ k : Nat, k <= 6 /\ i = .int .i64 k /\ SR wa ⟨#[116, 104, 114, 101, 101]⟩ 3 (pre3.map Value.string).toArray (sel pre3 Z9K B.b3 k) wr) (fun i _ => 6 - (intOf i).toNat)
    case atStart => exact ⟨0, ZE _, rfl, Z8Z wa _ _ _⟩
    case round =>
     obtain ⟨k, hk, rfl, hS⟩ := hrel
     by_cases hlt : k < 6
     ·have hpl : k < pre3.length := hlt
      have HSU := Z0 (Z8l pre3 Z9K B.b3 k hpl)
      have hsl : (sel pre3 Z9K B.b3 k).length <= 100 := by have := Z4V pre3 Z9K B.b3 k; omega
      obtain ⟨sa, sc, gv, cv, w1, c2, hlw, hrun, d2, dz, hS2⟩ := Zbn (W := (wr.alloc (.cells #[.string (Z9K pre3[k]).pre, .string (Z9K pre3[k]).grp] 150)).drew) hS (Z9K pre3[k]) hsl ((Z9 _ wr).alloc (Z1 _) _).drew (by simp) (by exact Z0f wr (Z2c (Z9K pre3[k])) _) HI.out
      have cp : wr.cell? ⟨wa.1.size + 1, k, none⟩ = some (.string pre3[k]) := by
       rw [cell_of_row _ _ k _ _ _ hS.2.2]; simp [hpl]
      have hly : wa.1.size + 1 < wr.1.size := (Z5.1 hS.2.2).1
      have hps : pre3[k].size = 3 := by
       have : k = 0 \/ k = 1 \/ k = 2 \/ k = 3 \/ k = 4 \/ k = 5 := by omega
       rcases this with rfl | rfl | rfl | rfl | rfl | rfl <;> rfl
      have hps1 : pre3[k].size <= 3 := by omega
      have hps2 : 3 <= pre3[k].size := by omega
      have HBK : Hid (B.b3 k = bt (n / 2 ^ (8 + k)) 1) := by rw [<- HB.out]; exact rfl
      have HS := Z0 hS
      have HS2 := Z0 hS2
      clear hS hS2 hps
      generalize sel pre3 Z9K B.b3 k = labs at HSU hsl c2 hrun d2 HS HS2
      dsimp only [Z9K] at hrun
      generalize pre3[k] = p at cp hps1 hps2 hrun HSU HS2
      cases hb : bt (n / 2 ^ (8 + k)) 1
      ·have hb' := Z3E hb
       have HE : Hid (sel pre3 Z9K B.b3 (k + 1) = labs) := by rw [HSU.out, HBK.out, hb]; exact rfl
       clear hb hrun
       go_wp2_with fail
       go_roundw
       case rel => exact ⟨k + 1, by omega, by go_num, by rw [HE.out]; exact HS.out⟩
       case measure => simp [intOf]; omega
      ·have hb' := Z5g hb
       have hp3 : (1 : Int) <= (p.size : Int) := by omega
       have hp4 : ¬ 9223372036854775807 < 1 + min 1 p.size := by omega
       have HE : Hid (sel pre3 Z9K B.b3 (k + 1) = labs ++ [Z9K p]) := by rw [HSU.out, HBK.out, hb]; exact rfl
       clear hb
       go_wp2_with fail
       go_region_law (refine Z3d rfl (.tmp 69) (.tmp 75) 61 rfl hrun (by simp [Act.eval]) (by simp [Act.eval]) ?_)
       all_goals
        go_wp2_with fail
        go_roundw
        case rel => exact ⟨k + 1, by omega, by go_num, by rw [HE.out]; exact HS2.out⟩
        case measure => simp [intOf]; omega
     ·have hke : k = 6 := by omega
      obtain ⟨s1, ⟨sv, s2, s3⟩, s4⟩ := hS
      rw [hke] at s3
      have hM2 := hM.below s1
      have hww := s1.size
      have hA := HADD.out (Zjx B) sv _ wr hM2 (Z3i s3 (by omega)) rfl (by have := HLN.out; omega) (by omega)
      obtain ⟨sa, sc, rfl⟩ := OwnsLab.form s3
      have y0 : wr.cell? ⟨wa.1.size, 0, none⟩ = _ := cell_of_row _ _ 0 _ _ _ s2
      have y1 : wr.cell? ⟨wa.1.size, 1, none⟩ = _ := cell_of_row _ _ 1 _ _ _ s2
      have y2 : wr.cell? ⟨wa.1.size, 2, none⟩ = _ := cell_of_row _ _ 2 _ _ _ s2
      have y3 : wr.cell? ⟨wa.1.size, 3, none⟩ = _ := cell_of_row _ _ 3 _ _ _ s2
      have y4 : wr.cell? ⟨wa.1.size, 4, none⟩ = _ := cell_of_row _ _ 4 _ _ _ s2
      simp at y0 y1 y2 y3 y4
      have HA := Z0 hA
      clear hA hM2 s2 s3 s4 hke
      go_wp2_with (go_at_call 61; refine HA.out.mono ?_; rintro e w2 ⟨rfl, hm2, hz2⟩; have HM2 := Z0 hm2; clear hm2)
      go_meet
      exact ⟨by unfold mk2; rw [HFE.out]; exact HM2.out, by omega⟩
  case rest =>
   clear hM hx
   obtain ⟨hM, hx⟩ := hcut
   clear wa
   obtain ⟨wa, hwa⟩ : ∃ wa : World, wa = wc := ⟨_, rfl⟩
   rw [<- hwa] at hM hx ⊢
   clear hwa
   clear wc
   go_upto_if 84 with fail
   go_cut [15] (fun _ wx => MR w (.slice la least.length lc) (.slice ca cents.length cc) (mk3 B least cents) wx /\ w.1.size + 3 <= wx.1.size)
   case first =>
    cases hf : bt n 4
    ·have HM : Hid (MR w (.slice la least.length lc) (.slice ca cents.length cc) (mk3 B least cents) wa) := by
      have e : B.f1 = false := by rw [<- HB.out]; exact hf
      unfold mk3; rw [e]; exact hM
     have hf' := Z3E hf
     have hfd : decide (0 < bits BinOp.and IntKind.u32 n 4) = false := hf
     rw [hfd]
     clear hf hfd
     go_wp2_with fail
     go_meet
     exact ⟨HM.out, hx⟩
    ·have hfe : B.f1 = true := by rw [<- HB.out]; exact hf
     have HFE := Z0 hfe
     have hf' := Z5g hf
     have hfd : decide (0 < bits BinOp.and IntKind.u32 n 4) = true := hf
     rw [hfd]
     clear hf hfe hfd
     go_wp2_with fail
     go_loopw [88] (fun i wr => ∃ k : Nat, k <= 3 /\ i = .int .i64 k /\ SR wa ⟨#[111, 110, 101]⟩ 1 (pre1.map Value.string).toArray (sel pre1 Z9L B.b1 k) wr) (fun i _ => 3 - (intOf i).toNat)
     case atStart => exact ⟨0, ZE _, rfl, Z8Z wa _ _ _⟩
     case round =>
      obtain ⟨k, hk, rfl, hS⟩ := hrel
      by_cases hlt : k < 3
      ·have hpl : k < pre1.length := hlt
       have HSU := Z0 (Z8l pre1 Z9L B.b1 k hpl)
       have hsl : (sel pre1 Z9L B.b1 k).length <= 100 := by have := Z4V pre1 Z9L B.b1 k; omega
       obtain ⟨sa, sc, gv, cv, w1, c2, hlw, hrun, d2, dz, hS2⟩ := Zbn (W := (wr.alloc (.cells #[.string (Z9L pre1[k]).pre, .string (Z9L pre1[k]).grp] 150))) hS (Z9L pre1[k]) hsl ((Z9 _ wr).alloc (Z1 _) _) (by simp) (by exact Z0f wr (Z2c (Z9L pre1[k])) _) HI.out
       have cp : wr.cell? ⟨wa.1.size + 1, k, none⟩ = some (.string pre1[k]) := by
        rw [cell_of_row _ _ k _ _ _ hS.2.2]; simp [hpl]
       have hly : wa.1.size + 1 < wr.1.size := (Z5.1 hS.2.2).1
       have hps : pre1[k].size = 1 := by
        have : k = 0 \/ k = 1 \/ k = 2 := by omega
        rcases this with rfl | rfl | rfl <;> rfl
       have hps1 : pre1[k].size <= 1 := by omega
       have hps2 : 1 <= pre1[k].size := by omega
       have HBK : Hid (B.b1 k = bt (n / 2 ^ (14 + k)) 1) := by rw [<- HB.out]; exact rfl
       have HS := Z0 hS
       have HS2 := Z0 hS2
       clear hS hS2 hps
       generalize sel pre1 Z9L B.b1 k = labs at HSU hsl c2 hrun d2 HS HS2
       dsimp only [Z9L] at hrun
       generalize pre1[k] = p at cp hps1 hps2 hrun HSU HS2
       cases hb : bt (n / 2 ^ (14 + k)) 1
       ·have hb' := Z3E hb
        have HE : Hid (sel pre1 Z9L B.b1 (k + 1) = labs) := by rw [HSU.out, HBK.out, hb]; exact rfl
        clear hb hrun
        go_wp2_with fail
        go_roundw
        case rel => exact ⟨k + 1, by omega, by go_num, by rw [HE.out]; exact HS.out⟩
        case measure => simp [intOf]; omega
       ·have hb' := Z5g hb
        have HE : Hid (sel pre1 Z9L B.b1 (k + 1) = labs ++ [Z9L p]) := by rw [HSU.out, HBK.out, hb]; exact rfl
        clear hb
        go_wp2_with (at_builtin; refine wpList_append_run rfl (.tmp 100) (.tmp 103) 61 rfl hrun rfl rfl ?_)
        go_roundw
        case rel => exact ⟨k + 1, by omega, by go_num, by rw [HE.out]; exact HS2.out⟩
        case measure => simp [intOf]; omega
      ·have hke : k = 3 := by omega
       obtain ⟨s1, ⟨sv, s2, s3⟩, s4⟩ := hS
       rw [hke] at s3
       have hM2 := hM.below s1
       have hww := s1.size
       have hA := HADD.out (Zjy B) sv _ wr hM2 (Z3i s3 (by omega)) rfl (by have := HLN.out; omega) (by omega)
       obtain ⟨sa, sc, rfl⟩ := OwnsLab.form s3
       have y0 : wr.cell? ⟨wa.1.size, 0, none⟩ = _ := cell_of_row _ _ 0 _ _ _ s2
       have y1 : wr.cell? ⟨wa.1.size, 1, none⟩ = _ := cell_of_row _ _ 1 _ _ _ s2
       have y2 : wr.cell? ⟨wa.1.size, 2, none⟩ = _ := cell_of_row _ _ 2 _ _ _ s2
       have y3 : wr.cell? ⟨wa.1.size, 3, none⟩ = _ := cell_of_row _ _ 3 _ _ _ s2
       have y4 : wr.cell? ⟨wa.1.size, 4, none⟩ = _ := cell_of_row _ _ 4 _ _ _ s2
       simp at y0 y1 y2 y3 y4
       have HA := Z0 hA
       clear hA hM2 s2 s3 s4 hke
       go_wp2_with (go_at_call 61; refine HA.out.mono ?_; rintro e w2 ⟨rfl, hm2, hz2⟩; have HM2 := Z0 hm2; clear hm2)
       go_meet
       exact ⟨by unfold mk3; rw [HFE.out]; exact HM2.out, by omega⟩
   case rest =>
    clear hM hx
    obtain ⟨hM, hx⟩ := hcut
    clear wa
    obtain ⟨wa, hwa⟩ : ∃ wa : World, wa = wc := ⟨_, rfl⟩
    rw [<- hwa] at hM hx ⊢
    clear hwa
    clear wc
    obtain ⟨h1, h2, h3, v, h4, L, hL, hLr, hLo⟩ := hM
    have hL3 := HLN.out.2.2
    have hLl : L.length = (mk3 B least cents).length := by rw [<- hL, Z7]
    rw [hLl] at hLo
    obtain ⟨a, cap, rfl⟩ : ∃ a cap, v = .slice a (mk3 B least cents).length cap := by
     rcases Joins.ownsRow_forms hLo with ⟨rfl, hp⟩ | ⟨g, cap, rfl⟩
     ·exact ⟨none, 0, by rw [hp]⟩
     ·exact ⟨_, cap, rfl⟩
    have x1 := cell_of_one h3
    have x2 := cell_of_one h4
    have hx2 : w.1.size + 2 < wa.1.size := by omega
    have hx1 : w.1.size + 1 < wa.1.size := by omega
    have H1 := Z0 h1
    have HL := Z0 hL
    have HLL := Z0 hLl
    have HLR := Z0 hLr
    have FIN : Hid (∀ (c : Int) (v' : Value) (w2 : World) (o1 o2 : Obj), c = ((cents.getD (mk3 B least cents).length 0).toNat : Int) -> w2.ownsRow (w.1.size + 3) 63 5 v' ((mk3 B least cents).length + 1) (L.flatMap Z1Q ++ Z1Q (⟨⟨#[97, 108, 108]⟩, 0, [], 0, c⟩, .slice none 0 0)) -> ((wa.alloc o1).alloc o2).grownBy w2 (Value.slice a (mk3 B least cents).length cap).ownBlock -> Below w.1.size w w2 /\ OwnsLv w2 w.1.size v' (Z1C B least cents)) := by
     intro c v' w2 o1 o2 hc ho hg
     have hLo2 := (hLo.alloc o1).alloc o2
     refine ⟨((h1.alloc h1.size o1).alloc (by have := h1.size; simp; omega) o2).grown hg (by have := h1.size; simp; omega) (fun r e => by have := (hLo.lt r e).1; omega), L ++ [(⟨⟨#[97, 108, 108]⟩, 0, [], 0, c⟩, .slice none 0 0)], ?_, ?_, ?_⟩
     ·rw [ZD, hL]; unfold Z1C; rw [hc]; rfl
     ·intro p hp
      have nA := Z0r hLo2 (T := 150) (by decide)
      rcases ZG.1 hp with hp | hp
      ·exact Z3i (Z0v (((hLr p hp).alloc o1).alloc o2) hg (fun g e => nA g e)) (by omega)
      ·rw [ZI.1 hp]; exact OwnsLab.nil _ _
     ·rw [List.flatMap_append, ZC, hLl]
      have := Z3i ho (b' := w.1.size) (by omega)
      simpa using this
    clear h1 h2 h3 h4 hL hLr hLl
    by_cases k2 : (mk3 B least cents).length < cents.length
    ·obtain ⟨g2, o2, rfl, gg2, c2⟩ := byte_of HRC.out rfl H1.out k2
     have e2 := Z0 (getD_lt k2)
     have bb3 : (cents[(mk3 B least cents).length].toNat : Int) <= 255 := by have := cents[(mk3 B least cents).length].toNat_lt; omega
     have bb4 : 0 <= (cents[(mk3 B least cents).length].toNat : Int) := by omega
     go_wp2_with (at_builtin; refine wpList_append_own _ rfl _ _ 31 rfl (w.1.size + 3) 63 i1 (.agg #[.string ⟨#[]⟩, .int .i64 0, .slice none 0 0, .int .i64 0, .int .i64 0]) 5 64 Tryz.underlying31 HI1.out.1 HI1.out.2.1 HI1.out.2.2.1 HI1.out.2.2.2 rfl (by decide) _ _ _ rfl ((hLo.alloc _).alloc _) ⟨wa.1.size + 1, 0, none⟩ 1 1 (Z1Q (⟨⟨#[97, 108, 108]⟩, 0, [], 0, (cents[(mk3 B least cents).length].toNat : Int)⟩, .slice none 0 0)) rfl rfl (Z25 _ _ (by simp) _ _) (by simp [Value.oneCell', Z1Q]) (by unfold maxLen; omega) (by omega) (by simp; omega) ?_; intro v' w2 hown' hgrow _)
     go_ret
     obtain ⟨f1, f2⟩ := FIN.out _ _ _ _ _ (by rw [e2.out]) hown' hgrow
     exact ⟨_, rfl, f1, f2⟩
    ·have e2 := Z0 (Z6R k2)
     go_wp2_with (at_builtin; refine wpList_append_own _ rfl _ _ 31 rfl (w.1.size + 3) 63 i1 (.agg #[.string ⟨#[]⟩, .int .i64 0, .slice none 0 0, .int .i64 0, .int .i64 0]) 5 64 Tryz.underlying31 HI1.out.1 HI1.out.2.1 HI1.out.2.2.1 HI1.out.2.2.2 rfl (by decide) _ _ _ rfl ((hLo.alloc _).alloc _) ⟨wa.1.size + 1, 0, none⟩ 1 1 (Z1Q (⟨⟨#[97, 108, 108]⟩, 0, [], 0, 0⟩, .slice none 0 0)) rfl rfl (Z25 _ _ (by simp) _ _) (by simp [Value.oneCell', Z1Q]) (by unfold maxLen; omega) (by omega) (by simp; omega) ?_; intro v' w2 hown' hgrow _)
     go_ret
     obtain ⟨f1, f2⟩ := FIN.out _ _ _ _ _ (by rw [e2.out]; rfl) hown' hgrow
     exact ⟨_, rfl, f1, f2⟩
end Go.Proofs.YtlgajongmkhcnaaGreatDoor
namespace Go.Proofs.YtlgajongmkhcnaaGreatDoor
open Go.RowKit
set_option linter.unusedVariables false
def Zfw : Nat -> List (List Bool)
 | 0 => [[]]
 | n + 1 => (Zfw n).flatMap (fun l => [false :: l, true :: l])
theorem Z9A : ∀ l : List Bool, l ∈ Zfw l.length
 | [] => by simp [Zfw]
 | b :: l => by
  rw [List.length_cons]
  unfold Zfw
  rw [List.mem_flatMap]
  refine ⟨l, Z9A l, ?_⟩
  cases b <;> simp
def Ziw (f : ByteArray -> Lab) : List ByteArray -> List Bool -> List Lab
 | c :: cs, b :: bs => if b then f c :: Ziw f cs bs else Ziw f cs bs
 | _, _ => []
theorem ZbD (f : ByteArray -> Lab) (b : Nat -> Bool) : ∀ (cands : List ByteArray) (s : Nat) (all : List ByteArray), (∀ i, cands[i]? = all[s + i]?) ->
 (((List.range' s cands.length).filter b).map (fun i => f (all.getD i ⟨#[]⟩))) = Ziw f cands ((List.range' s cands.length).map b)
 | [], s, all, h => rfl
 | c :: cs, s, all, h => by
  rw [List.length_cons, List.range'_succ, List.map_cons]
  have hc : all.getD s ⟨#[]⟩ = c := by
   have := h 0
   rw [Z2, <- show all[s + 0]? = all[s]? from rfl, <- this]; rfl
  have ih := ZbD f b cs (s + 1) all (fun i => by have := h (i + 1); rw [List.getElem?_cons_succ] at this; rw [this]; congr 1; omega)
  unfold Ziw
  cases hb : b s
  ·rw [List.filter_cons_of_neg (by simpa using hb), if_neg (by simp)]; exact ih
  ·rw [List.filter_cons_of_pos (by simpa using hb), if_pos rfl, List.map_cons, hc, ih]
theorem ZiI (f : ByteArray -> Lab) (b : Nat -> Bool) (cands : List ByteArray) : sel cands f b cands.length = Ziw f cands ((List.range cands.length).map b) := by
 unfold sel
 have := ZbD f b cands 0 cands (fun i => by rw [Nat.zero_add])
 rw [List.range_eq_range']
 exact this
theorem Zao {P : List Lab -> Bool} (f : ByteArray -> Lab) (cands : List ByteArray) (k : Nat) (hk : k = cands.length) (h : (Zfw k).all (fun bs => P (Ziw f cands bs)) = true) (b : Nat -> Bool) : P (sel cands f b k) = true := by
 subst hk
 rw [ZiI]
 refine List.all_eq_true.1 h _ ?_
 have := Z9A ((List.range cands.length).map b)
 simpa using this
def Z9I (p : Int) (labs : List Lab) : Bool := labs.all (fun x => decide ((x.pre.size : Int) = p) && Z1s x.pre && Z2D x.grp) && Z4R labs
def Z2s (p : Int) (m : Nat) (labs : List Lab) : Bool :=
 (labs.flatMap (Z0J ⟨⟨#[]⟩, p, labs, 0, 0⟩)).all (fun x => (labs.flatMap (Z0J ⟨⟨#[]⟩, p, labs, 0, 0⟩)).all (fun y => !decide (x.1 = y.1) || decide (x.2.extract 0 m = y.2.extract 0 m)))
def Zjh (labs : List Lab) : Bool := Z9I 5 labs && Z2s 5 3 labs && Z2s 5 1 labs && Z2s 5 0 labs
def Zji (labs : List Lab) : Bool := Z9I 3 labs && Z2s 3 1 labs && Z2s 3 0 labs
def Zjj (labs : List Lab) : Bool := Z9I 1 labs && Z2s 1 0 labs
theorem ok5 (b : Nat -> Bool) : Zjh (sel pre5 Z9J b 5) = true := Zao Z9J pre5 5 rfl (by kernel_rfl) b
theorem ok3 (b : Nat -> Bool) : Zji (sel pre3 Z9K b 6) = true := Zao Z9K pre3 6 rfl (by kernel_rfl) b
theorem ok1 (b : Nat -> Bool) : Zjj (sel pre1 Z9L b 3) = true := Zao Z9L pre1 3 rfl (by kernel_rfl) b
theorem Zel (l : Lev) : Z0J l = Z0J ⟨⟨#[]⟩, l.pre, l.labs, 0, 0⟩ := rfl
theorem Z24 {l next : Lev} (h : Z2s l.pre next.pre.toNat l.labs = true) : Z6r l next = true := by
 rw [Z9w]
 unfold Z2s at h
 rw [<- Zel] at h
 simp only [List.all_eq_true, Bool.or_eq_true, Bool.not_eq_true', decide_eq_false_iff_not, decide_eq_true_eq] at h
 intro x hx y hy e
 rcases h x hx y hy with h' | h'
 ·exact absurd e h'
 ·unfold Z0e; rw [h']
theorem Z58 {l : Lev} (hn : Z2D l.name = true) (hp : 0 <= l.pre /\ l.pre <= 10) (hm : 1 <= l.min /\ l.min <= 2000) (hc : 0 <= l.cents /\ l.cents <= 1000000) (hl : Z9I l.pre l.labs = true) : Z34 l false = true := by
 unfold Z9I at hl
 rw [ZF] at hl
 unfold Z34 Z3W
 rw [hn]
 simp only [Bool.true_and, ZF, decide_eq_true_eq, Bool.false_eq_true, if_false]
 exact ⟨⟨hp.1, hp.2, hc.1, hc.2⟩, ⟨⟨hm.1, hm.2⟩, hl.1⟩, hl.2⟩
theorem Zdk {labs : List Lab} (h : Zjh labs = true) : Z9I 5 labs = true /\ Z2s 5 3 labs = true /\ Z2s 5 1 labs = true /\ Z2s 5 0 labs = true := by unfold Zjh at h; simpa [ZF, and_assoc] using h
theorem Zdl {labs : List Lab} (h : Zji labs = true) : Z9I 3 labs = true /\ Z2s 3 1 labs = true /\ Z2s 3 0 labs = true := by unfold Zji at h; simpa [ZF, and_assoc] using h
theorem Zdm {labs : List Lab} (h : Zjj labs = true) : Z9I 1 labs = true /\ Z2s 1 0 labs = true := by unfold Zjj at h; simpa [ZF, and_assoc] using h
theorem Zbi (x : UInt8) : 0 <= (x.toNat : Int) /\ (x.toNat : Int) <= 255 := by have := x.toNat_lt; omega
theorem Zgx (f5 f3 f1 : Bool) (labs5 labs3 labs1 : List Lab) (h5 : Zjh labs5 = true) (h3 : Zji labs3 = true) (h1 : Zjj labs1 = true) (s5 : labs5.length <= 5) (s3 : labs3.length <= 6) (s1 : labs1.length <= 3) (m5 m3 m1 c5 c3 c1 c0 : Int) (hm5 : 1 <= m5 /\ m5 <= 2000) (hm3 : 1 <= m3 /\ m3 <= 2000) (hm1 : 1 <= m1 /\ m1 <= 2000) (hc5 : 0 <= c5 /\ c5 <= 1000000) (hc3 : 0 <= c3 /\ c3 <= 1000000) (hc1 : 0 <= c1 /\ c1 <= 1000000) (hc0 : 0 <= c0 /\ c0 <= 1000000) :
 ZbJ ((if f5 then [⟨⟨#[102, 105, 118, 101]⟩, 5, labs5, m5, c5⟩] else []) ++ (if f3 then [⟨⟨#[116, 104, 114, 101, 101]⟩, 3, labs3, m3, c3⟩] else []) ++ (if f1 then [⟨⟨#[111, 110, 101]⟩, 1, labs1, m1, c1⟩] else []) ++ [⟨⟨#[97, 108, 108]⟩, 0, [], 0, c0⟩]) = true := by
 obtain ⟨a0, a1, a2, a3⟩ := Zdk h5
 obtain ⟨b0, b1, b2⟩ := Zdl h3
 obtain ⟨d0, d1⟩ := Zdm h1
 have L5 : Z34 ⟨⟨#[102, 105, 118, 101]⟩, 5, labs5, m5, c5⟩ false = true := Z58 (by kernel_rfl) ⟨by show (0 : Int) <= 5; decide, by show (5 : Int) <= 10; decide⟩ hm5 hc5 a0
 have L3 : Z34 ⟨⟨#[116, 104, 114, 101, 101]⟩, 3, labs3, m3, c3⟩ false = true := Z58 (by kernel_rfl) ⟨by show (0 : Int) <= 3; decide, by show (3 : Int) <= 10; decide⟩ hm3 hc3 b0
 have L1 : Z34 ⟨⟨#[111, 110, 101]⟩, 1, labs1, m1, c1⟩ false = true := Z58 (by kernel_rfl) ⟨by show (0 : Int) <= 1; decide, by show (1 : Int) <= 10; decide⟩ hm1 hc1 d0
 have L0 : Z34 ⟨⟨#[97, 108, 108]⟩, 0, [], 0, c0⟩ true = true := by
  unfold Z34 Z3W
  have : Z2D ⟨#[97, 108, 108]⟩ = true := by kernel_rfl
  simp [this, hc0.1, hc0.2]
 have N53 : Z6r ⟨⟨#[102, 105, 118, 101]⟩, 5, labs5, m5, c5⟩ ⟨⟨#[116, 104, 114, 101, 101]⟩, 3, labs3, m3, c3⟩ = true := Z24 a1
 have N51 : Z6r ⟨⟨#[102, 105, 118, 101]⟩, 5, labs5, m5, c5⟩ ⟨⟨#[111, 110, 101]⟩, 1, labs1, m1, c1⟩ = true := Z24 a2
 have N50 : Z6r ⟨⟨#[102, 105, 118, 101]⟩, 5, labs5, m5, c5⟩ ⟨⟨#[97, 108, 108]⟩, 0, [], 0, c0⟩ = true := Z24 a3
 have N31 : Z6r ⟨⟨#[116, 104, 114, 101, 101]⟩, 3, labs3, m3, c3⟩ ⟨⟨#[111, 110, 101]⟩, 1, labs1, m1, c1⟩ = true := Z24 b1
 have N30 : Z6r ⟨⟨#[116, 104, 114, 101, 101]⟩, 3, labs3, m3, c3⟩ ⟨⟨#[97, 108, 108]⟩, 0, [], 0, c0⟩ = true := Z24 b2
 have N10 : Z6r ⟨⟨#[111, 110, 101]⟩, 1, labs1, m1, c1⟩ ⟨⟨#[97, 108, 108]⟩, 0, [], 0, c0⟩ = true := Z24 d1
 have e1 : decide ((⟨#[102, 105, 118, 101]⟩ : ByteArray) = ⟨#[116, 104, 114, 101, 101]⟩) = false := by kernel_rfl
 have e2 : decide ((⟨#[102, 105, 118, 101]⟩ : ByteArray) = ⟨#[111, 110, 101]⟩) = false := by kernel_rfl
 have e3 : decide ((⟨#[102, 105, 118, 101]⟩ : ByteArray) = ⟨#[97, 108, 108]⟩) = false := by kernel_rfl
 have e4 : decide ((⟨#[116, 104, 114, 101, 101]⟩ : ByteArray) = ⟨#[111, 110, 101]⟩) = false := by kernel_rfl
 have e5 : decide ((⟨#[116, 104, 114, 101, 101]⟩ : ByteArray) = ⟨#[97, 108, 108]⟩) = false := by kernel_rfl
 have e6 : decide ((⟨#[111, 110, 101]⟩ : ByteArray) = ⟨#[97, 108, 108]⟩) = false := by kernel_rfl
 cases f5 <;> cases f3 <;> cases f1
 all_goals
  simp only [Bool.false_eq_true, if_false, if_true, List.nil_append, List.cons_append]
  unfold ZbJ
  simp only [Z57, Z9x, Za5, L5, L3, L1, L0, N53, N51, N50, N31, N30, N10, e1, e2, e3, e4, e5, e6, List.all_cons, List.all_nil, Bool.not_false, Bool.and_true, Bool.and_self]
  simp
  try omega
theorem Zd0 (B : Bits) (least cents : List UInt8) : Z0i (Z1C B least cents) = true := by
 rw [Z9h]
 have hb : ∀ l : List UInt8, ∀ i, 1 <= 1 + ((l.getD i 0).toNat : Int) /\ 1 + ((l.getD i 0).toNat : Int) <= 2000 := fun l i => by have := Zbi (l.getD i 0); omega
 have hc : ∀ l : List UInt8, ∀ i, 0 <= ((l.getD i 0).toNat : Int) /\ ((l.getD i 0).toNat : Int) <= 1000000 := fun l i => by have := Zbi (l.getD i 0); omega
 obtain ⟨m5, c5, e1⟩ : ∃ i j : Nat, mk1 B least cents = if B.f5 then [⟨⟨#[102, 105, 118, 101]⟩, 5, sel pre5 Z9J B.b5 5, 1 + ((least.getD i 0).toNat : Int), ((cents.getD j 0).toNat : Int)⟩] else [] := ⟨0, 0, by unfold mk1 Zbm Zjw; rfl⟩
 obtain ⟨m3, c3, e2⟩ : ∃ i j : Nat, mk2 B least cents = mk1 B least cents ++ if B.f3 then [⟨⟨#[116, 104, 114, 101, 101]⟩, 3, sel pre3 Z9K B.b3 6, 1 + ((least.getD i 0).toNat : Int), ((cents.getD j 0).toNat : Int)⟩] else [] := ⟨(mk1 B least cents).length, (mk1 B least cents).length, by unfold mk2 Zbm Zjx; split <;> simp⟩
 obtain ⟨m1, c1, e3⟩ : ∃ i j : Nat, mk3 B least cents = mk2 B least cents ++ if B.f1 then [⟨⟨#[111, 110, 101]⟩, 1, sel pre1 Z9L B.b1 3, 1 + ((least.getD i 0).toNat : Int), ((cents.getD j 0).toNat : Int)⟩] else [] := ⟨(mk2 B least cents).length, (mk2 B least cents).length, by unfold mk3 Zbm Zjy; split <;> simp⟩
 unfold Z1C
 generalize (mk3 B least cents).length = n0
 rw [e3, e2, e1]
 exact Zgx B.f5 B.f3 B.f1 _ _ _ (ok5 _) (ok3 _) (ok1 _) (Z4V _ _ _ _) (Z4V _ _ _ _) (Z4V _ _ _ _) _ _ _ _ _ _ _ (hb _ _) (hb _ _) (hb _ _) (hc _ _) (hc _ _) (hc _ _) (hc _ _)
theorem extract_extract (c : ByteArray) {n m : Nat} (h : m <= n) : (c.extract 0 n).extract 0 m = c.extract 0 m := by
 apply Z73
 simp
 omega
theorem Z4i {c : ByteArray} (h : Z1s c = true) (n : Nat) : Z1s (c.extract 0 n) = true := by
 unfold Z1s ZfD at *
 rw [List.all_eq_true] at *
 intro x hx
 refine h x ?_
 have : (c.extract 0 n).data.toList = c.data.toList.take n := by simp
 rw [this] at hx
 exact List.mem_of_mem_take hx
theorem ZcX {l next : Lev} (hn : Z54 l next) (h0 : 0 <= next.pre) (h1 : next.pre <= l.pre) {c d : ByteArray} (hpc : Z1s c = true) (hpd : Z1s d = true) (hc : l.pre <= c.size) (hd : l.pre <= d.size) (h : Z0e l c = Z0e l d) : Z0e next c = Z0e next d := by
 have up : ∀ x : ByteArray, Z0e next (x.extract 0 l.pre.toNat) = Z0e next x := fun x => by unfold Z0e; rw [extract_extract x (by omega)]
 rw [<- up c, <- up d]
 have sz : ∀ x : ByteArray, l.pre <= x.size -> ((x.extract 0 l.pre.toNat).size : Int) = l.pre := fun x hx => by rw [ByteArray.size_extract]; omega
 have mem : ∀ (x y : ByteArray), Z1x l.labs x = some y -> (y, x) ∈ l.labs.flatMap (Z0J l) := fun x y hxy => by
  unfold Z1x at hxy
  cases hf : l.labs.find? (fun z => decide (z.pre = x)) with
  | none => rw [hf] at hxy; cases hxy
  | some z =>
   rw [hf] at hxy
   have hz := List.mem_of_find?_eq_some hf
   have hzp : z.pre = x := by simpa using List.find?_some hf
   have hzg : z.grp = y := by simpa using hxy
   exact List.mem_flatMap.2 ⟨z, hz, by unfold Z0J; rw [hzp, hzg]; exact List.mem_cons_self⟩
 have own : ∀ (x y : ByteArray), Z1x l.labs x = some y -> (y.size : Int) = l.pre -> Z1s y = true -> Z1x l.labs y = none -> (y, y) ∈ l.labs.flatMap (Z0J l) := fun x y hxy h1 h2 h3 => by
  unfold Z1x at hxy
  cases hf : l.labs.find? (fun z => decide (z.pre = x)) with
  | none => rw [hf] at hxy; cases hxy
  | some z =>
   rw [hf] at hxy
   have hz := List.mem_of_find?_eq_some hf
   have hzg : z.grp = y := by simpa using hxy
   refine List.mem_flatMap.2 ⟨z, hz, ?_⟩
   unfold Z0J ownB
   rw [hzg, h3, h2]
   simp [h1]
 unfold Z0e at h
 have sc := sz c hc
 have sd := sz d hd
 have pc := Z4i hpc l.pre.toNat
 have pd := Z4i hpd l.pre.toNat
 generalize c.extract 0 l.pre.toNat = x at h sc pc
 generalize d.extract 0 l.pre.toNat = y at h sd pd
 clear sz up
 cases e1 : Z1x l.labs x with
 | some a =>
  rw [e1] at h
  cases e2 : Z1x l.labs y with
  | some b =>
   rw [e2, Option.getD_some, Option.getD_some] at h
   subst h
   exact hn (a, x) (mem x a e1) (a, y) (mem y a e2) rfl
  | none =>
   rw [e2, Option.getD_some, Option.getD_none] at h
   subst h
   exact hn (a, x) (mem x a e1) (a, a) (own x a e1 sd pd e2) rfl
 | none =>
  rw [e1] at h
  cases e2 : Z1x l.labs y with
  | some b =>
   rw [e2, Option.getD_some, Option.getD_none] at h
   subst h
   exact hn (x, x) (own y x e2 sc pc e1) (x, y) (mem y x e2) rfl
  | none =>
   rw [e2, Option.getD_none, Option.getD_none] at h
   rw [h]
end Go.Proofs.YtlgajongmkhcnaaGreatDoor
namespace Go.Proofs.YtlgajongmkhcnaaGreatDoor
open Go.RowKit
set_option linter.unusedVariables false
set_option maxRecDepth 100000
theorem Z1q {ls : List Lev} (h : Z0i ls = true) : ∀ l ∈ ls, Z0G l := by
 intro l hl
 obtain ⟨i, hi, rfl⟩ := List.mem_iff_getElem.1 hl
 obtain ⟨_, _, ⟨hs, hlv, _, _⟩, _⟩ := Z0E.1 h
 obtain ⟨hh, hr⟩ := Z13.1 (hlv i hi hi)
 obtain ⟨hn, _⟩ := Z1H hh
 have nm : ∀ s : ByteArray, Z2D s = true -> s.size <= maxLen := fun s hs => by
  unfold Z2D at hs
  simp at hs
  unfold maxLen
  omega
 have hlen : ls[i].labs.length <= 200 := by
  have h1 := Z4P ls i hi
  have h2 := Z7u ls (show i + 1 <= ls.length from hi)
  omega
 refine ⟨nm _ hn, by omega, fun x hx => ?_⟩
 obtain ⟨k, hk, rfl⟩ := List.mem_iff_getElem.1 hx
 cases hb : decide (i + 1 = ls.length)
 ·rw [hb] at hr
  simp only [Bool.false_eq_true, if_false] at hr
  have := (hr.2 k hk hk).1
  have hf := (Z2N h i hi).2.1 _ (Z4 hk)
  have hf2 := (Z2N h i hi).2.2.2
  unfold Z6B at this
  simp only [ZF] at this
  exact ⟨by unfold maxLen; omega, nm _ this.2⟩
 ·rw [hb] at hr
  simp only [if_true] at hr
  omega
theorem ZgR (x : UInt8) : Z0C (Z3q x) = true := by
 have h : (List.range 256).all (fun n => Z0C (Z3q (UInt8.ofNat n))) = true := by kernel_rfl
 have := List.all_eq_true.1 h x.toNat (List.mem_range.2 x.toNat_lt)
 simpa using this
theorem Z8Y {least cents : List UInt8} {out : List Lev} {l : Lev} (h : ∀ x ∈ out, x.pre <= 5) (hl : l.pre <= 5) : ∀ x ∈ Zbm least cents out l, x.pre <= 5 := by
 unfold Zbm
 intro x hx
 rcases ZG.1 hx with hx | hx
 ·exact h x hx
 ·rw [ZI.1 hx]; exact hl
theorem Zgw (B : Bits) (least cents : List UInt8) : ∀ l ∈ Z1C B least cents, l.pre <= 5 := by
 have h1 : ∀ x ∈ mk1 B least cents, x.pre <= 5 := by
  unfold mk1
  split
  ·exact Z8Y (by simp) (by show (5 : Int) <= 5; decide)
  ·simp
 have h2 : ∀ x ∈ mk2 B least cents, x.pre <= 5 := by
  unfold mk2
  split
  ·exact Z8Y h1 (by show (3 : Int) <= 5; decide)
  ·exact h1
 have h3 : ∀ x ∈ mk3 B least cents, x.pre <= 5 := by
  unfold mk3
  split
  ·exact Z8Y h2 (by show (1 : Int) <= 5; decide)
  ·exact h2
 intro l hl
 unfold Z1C at hl
 rcases ZG.1 hl with hl | hl
 ·exact h3 l hl
 ·rw [ZI.1 hl]; show (0 : Int) <= 5; decide
theorem Z6Z {c : ByteArray} (h : Z0C c = true) : Z1s c = true := by unfold Z0C at h; simp at h; exact h.2
theorem Z7G {ls : List Lev} {c d : ByteArray} (h : Z0i ls = true) (hc : Z0C c = true) (hd : Z0C d = true) (hpc : ∀ l ∈ ls, l.pre <= c.size) (hpd : ∀ l ∈ ls, l.pre <= d.size) (i : Nat) (hi : i + 1 < ls.length) (e : Z0e ls[i] c = Z0e ls[i] d) : Z0e ls[i + 1] c = Z0e ls[i + 1] d := by
 obtain ⟨_, _, ⟨_, _, _, hm⟩, hn⟩ := Z0E.1 h
 exact ZcX (Z3S.1 (hn i hi)) (Z2N h (i + 1) hi).2.2.1 (hm (i + 1) hi hi i rfl (by omega)) (Z6Z hc) (Z6Z hd) (hpc _ (Z4 _)) (hpd _ (Z4 _)) e
end Go.Proofs.YtlgajongmkhcnaaGreatDoor
namespace Go.Proofs.YtlgajongmkhcnaaGreatDoor
open Go.RowKit
set_option linter.unusedVariables false
set_option maxRecDepth 100000
theorem ZeU (ls : List Lev) (cs : List ByteArray) (hl : ls.length <= 6) (hc : cs.length <= 2000) : (gTo ls cs ls.length).1.length <= 12000 := by
 have := (Zb6 ls cs ls.length (Z1 _)).1
 exact Nat.le_trans this (Nat.le_trans (Nat.mul_le_mul hl hc) (by decide))
theorem Zhn (ls : List Lev) (cs : List ByteArray) : ∀ k, k <= ls.length -> ∀ g ∈ (gTo ls cs k).1, g.items.length <= cs.length := by
 intro k
 induction k with
 | zero => intro _ g hg; cases hg
 | succ k ih =>
  intro h
  rw [Z3B ls cs k h]
  intro g hg
  unfold Z8G at hg
  simp only [List.append_assoc, ZG, List.mem_map] at hg
  rcases hg with hg | ⟨g', hg, rfl⟩ | ⟨n, hn, rfl⟩
  ·exact ih (by omega) g (List.mem_of_mem_take hg)
  ·exact ih (by omega) g' (List.mem_of_mem_drop hg)
  ·exact Z6E _ _ _ _
end Go.Proofs.YtlgajongmkhcnaaGreatDoor
namespace Go.Proofs.YtlgajongmkhcnaaGreatDoor
open Go.RowKit
set_option linter.unusedVariables false
set_option maxRecDepth 100000
def lv (ls : List Lev) (m : Nat) : Lev := ls.getD m ⟨⟨#[]⟩, 0, [], 0, 0⟩
theorem Z9E {ls : List Lev} {m : Nat} (h : m < ls.length) : lv ls m = ls[m] := by
 unfold lv; rw [Z2, Z3 h]; rfl
def nm (ls : List Lev) (cs : List ByteArray) (m : Nat) : List ByteArray := Z1n (lv ls m) cs
def Z0g (ls : List Lev) (cs : List ByteArray) : Nat -> Nat
 | 0 => 0
 | m + 1 => Z0g ls cs m + (nm ls cs m).length
def itm (ls : List Lev) (cs : List ByteArray) (m : Nat) (n : ByteArray) : List Int := Z0o (lv ls m) cs cs.length n
def Z6L (ls : List Lev) (cs : List ByteArray) (m : Nat) (n : ByteArray) : ByteArray := cs.getD ((itm ls cs m n).headD 0).toNat ⟨#[]⟩
def Zhc (ls : List Lev) (cs : List ByteArray) (m : Nat) (n : ByteArray) : Nat := Z0g ls cs (m + 1) + idx (Z0e (lv ls (m + 1)) (Z6L ls cs m n)) (nm ls cs (m + 1))
def gAt (ls : List Lev) (cs : List ByteArray) (k m : Nat) (n : ByteArray) : Grp := ⟨m, n, if m + 1 < k then (Zhc ls cs m n : Int) else -1, itm ls cs m n⟩
def Z0Y (ls : List Lev) (cs : List ByteArray) (k : Nat) : List Grp := (List.range k).flatMap (fun m => (nm ls cs m).map (gAt ls cs k m))
theorem Z8L {α : Type} (f : Nat -> List α) (s : Nat -> Nat) (h0 : s 0 = 0) (hs : ∀ m, s (m + 1) = s m + (f m).length) : ∀ k, ((List.range k).flatMap f).length = s k := by
 intro k
 induction k with
 | zero => rw [h0]; rfl
 | succ k ih => rw [List.range_succ, List.flatMap_append, ZC, ih, hs]; simp
theorem flat_get {α : Type} (f : Nat -> List α) (s : Nat -> Nat) (h0 : s 0 = 0) (hs : ∀ m, s (m + 1) = s m + (f m).length) : ∀ k m j, m < k -> j < (f m).length -> ((List.range k).flatMap f)[s m + j]? = (f m)[j]? := by
 intro k
 induction k with
 | zero => intro m j h; omega
 | succ k ih =>
  intro m j hm hj
  have hl := Z8L f s h0 hs k
  rw [List.range_succ, List.flatMap_append]
  by_cases e : m = k
  ·subst e
   rw [List.getElem?_append_right (by omega), hl]
   simp
  ·have hlt : m < k := by omega
   have := ih m j hlt hj
   rw [List.getElem?_append_left]
   ·exact this
   ·rw [Z3 hj] at this
    exact (List.getElem?_eq_some_iff.1 this).1
theorem Z8H (ls : List Lev) (cs : List ByteArray) (k : Nat) : (Z0Y ls cs k).length = Z0g ls cs k :=
 Z8L _ _ rfl (fun m => by simp [Z0g]) k
theorem Zc8 (ls : List Lev) (cs : List ByteArray) (k m j : Nat) (hm : m < k) (hj : j < (nm ls cs m).length) : (Z0Y ls cs k)[Z0g ls cs m + j]? = some (gAt ls cs k m (nm ls cs m)[j]) := by
 unfold Z0Y
 rw [flat_get (fun m => (nm ls cs m).map (gAt ls cs k m)) (Z0g ls cs) rfl (fun m => by simp [Z0g]) k m j hm (by simpa using hj)]
 simp [hj]
theorem Z3C (ls : List Lev) (cs : List ByteArray) : ∀ k, k <= ls.length -> gTo ls cs k = (Z0Y ls cs k, Z0g ls cs (k - 1), k) := by
 intro k
 induction k with
 | zero => intro _; rfl
 | succ k ih =>
  intro h
  rw [Z3B ls cs k h, ih (by omega)]
  unfold Z8G
  simp only [Prod.mk.injEq, Nat.add_sub_cancel, and_true]
  refine ⟨?_, Z8H ls cs k⟩
  rw [Z8H, <- Z9E h]
  have e3 : (Z1n (lv ls k) cs).map (mkG k (lv ls k) cs) = (nm ls cs k).map (gAt ls cs (k + 1) k) := by
   refine List.map_congr_left (fun n _ => ?_)
   unfold mkG gAt itm
   rw [if_neg (by omega)]
  rw [e3]
  have e4 : Z0Y ls cs (k + 1) = ((List.range k).flatMap (fun m => (nm ls cs m).map (gAt ls cs (k + 1) m))) ++ (nm ls cs k).map (gAt ls cs (k + 1) k) := by
   unfold Z0Y
   rw [List.range_succ, List.flatMap_append]
   simp
  rw [e4]
  congr 1
  cases k with
  | zero => rfl
  | succ j =>
   simp only [Nat.add_sub_cancel]
   have e5 : Z0Y ls cs (j + 1) = ((List.range j).flatMap (fun m => (nm ls cs m).map (gAt ls cs (j + 1) m))) ++ (nm ls cs j).map (gAt ls cs (j + 1) j) := by
    unfold Z0Y
    rw [List.range_succ, List.flatMap_append]
    simp
   have hl : ((List.range j).flatMap (fun m => (nm ls cs m).map (gAt ls cs (j + 1) m))).length = Z0g ls cs j := Z8L _ _ rfl (fun m => by simp [Z0g]) j
   rw [e5, List.take_append_of_le_length (by omega), List.drop_append_of_le_length (by omega), List.take_of_length_le (by omega), List.drop_eq_nil_of_le (by omega), List.nil_append, List.range_succ, List.flatMap_append, List.map_map]
   have e6 : (List.range j).flatMap (fun m => (nm ls cs m).map (gAt ls cs (j + 1) m)) = (List.range j).flatMap (fun m => (nm ls cs m).map (gAt ls cs (j + 1 + 1) m)) := by
    rw [List.flatMap_def, List.flatMap_def]
    congr 1
    refine List.map_congr_left (fun m hm => List.map_congr_left (fun n _ => ?_))
    have := List.mem_range.1 hm
    unfold gAt
    rw [if_pos (by omega), if_pos (by omega)]
   rw [e6]
   congr 1
   simp only [List.flatMap_cons, List.flatMap_nil, List.append_nil]
   refine List.map_congr_left (fun n _ => ?_)
   unfold gAt Zcr Zhc Z6L nm
   simp
theorem Z20 {ls : List Lev} {cs : List ByteArray} {k : Nat} {g : Grp} : g ∈ Z0Y ls cs k ↔ ∃ m n, m < k /\ n ∈ nm ls cs m /\ g = gAt ls cs k m n := by
 unfold Z0Y
 simp only [List.mem_flatMap, List.mem_range, List.mem_map]
 exact ⟨fun ⟨m, hm, n, hn, he⟩ => ⟨m, n, hm, hn, he.symm⟩, fun ⟨m, n, hm, hn, he⟩ => ⟨m, hm, n, hn, he.symm⟩⟩
theorem Zde (ls : List Lev) (cs : List ByteArray) (k : Nat) : (Z0Y ls cs k).Pairwise (fun g h => g.lvl < h.lvl \/ g.lvl = h.lvl /\ ltB g.name h.name = true) := by
 unfold Z0Y
 rw [List.pairwise_flatMap]
 refine ⟨fun m _ => ?_, ?_⟩
 ·rw [List.pairwise_map]
  refine List.Pairwise.imp ?_ (Z3c (cs.map (Z0e (lv ls m))))
  intro a b h
  exact Or.inr ⟨rfl, h⟩
 ·refine List.Pairwise.imp ?_ List.pairwise_lt_range
  intro a b hab x hx y hy
  obtain ⟨n, _, rfl⟩ := List.mem_map.1 hx
  obtain ⟨n', _, rfl⟩ := List.mem_map.1 hy
  left
  show (a : Int) < (b : Int)
  omega
theorem Z3j {ls : List Lev} {cs : List ByteArray} {m : Nat} {n : ByteArray} {x : Int} : x ∈ itm ls cs m n ↔ ∃ i : Nat, ∃ h : i < cs.length, Z0e (lv ls m) cs[i] = n /\ x = i := by
 unfold itm
 rw [Z2S]
 constructor
 ·rintro ⟨i, hi, he, rfl⟩
  refine ⟨i, hi, ?_, rfl⟩
  rw [Z2, Z3 hi] at he
  exact he
 ·rintro ⟨i, hi, he, rfl⟩
  refine ⟨i, hi, ?_, rfl⟩
  rw [Z2, Z3 hi]
  exact he
theorem Z6C (ls : List Lev) (cs : List ByteArray) (m : Nat) (n : ByteArray) : (itm ls cs m n).Pairwise (· < ·) := by
 unfold itm Z0o
 rw [List.pairwise_map]
 refine List.Pairwise.imp ?_ (List.Pairwise.filter _ List.pairwise_lt_range)
 intro a b h
 exact Int.ofNat_lt.2 h
theorem Z8E {ls : List Lev} {cs : List ByteArray} {m : Nat} {n : ByteArray} (h : n ∈ nm ls cs m) : itm ls cs m n ≠ [] := ((Z3x (lv ls m) cs).2 n).1 h
theorem Zes {ls : List Lev} {cs : List ByteArray} {m i : Nat} (h : i < cs.length) : Z0e (lv ls m) cs[i] ∈ nm ls cs m := by
 unfold nm Z1n
 rw [Z6s]
 exact List.mem_map.2 ⟨_, Z4 h, rfl⟩
theorem Z6K {ls : List Lev} {cs : List ByteArray} {m : Nat} {n : ByteArray} (h : n ∈ nm ls cs m) : ∃ i : Nat, ∃ hi : i < cs.length, Z6L ls cs m n = cs[i] /\ Z0e (lv ls m) cs[i] = n := by
 cases he : itm ls cs m n with
 | nil => exact absurd he (Z8E h)
 | cons x r =>
  have hx : x ∈ itm ls cs m n := by rw [he]; exact List.mem_cons_self
  obtain ⟨i, hi, h1, rfl⟩ := Z3j.1 hx
  refine ⟨i, hi, ?_, h1⟩
  unfold Z6L
  rw [he]
  simp [hi]
end Go.Proofs.YtlgajongmkhcnaaGreatDoor
namespace Go.Proofs.YtlgajongmkhcnaaGreatDoor
open Go.RowKit
set_option linter.unusedVariables false
set_option maxRecDepth 100000
structure PartAt (ls : List Lev) (cs : List ByteArray) (gs : List Grp) (g : Grp) (m : Nat) : Prop where
 hm : m < ls.length
 lvl : g.lvl = m
 some_ : 0 < g.items.length
 few : g.items.length <= cs.length
 item : ∀ p (hp : p < g.items.length), ∃ q : Nat, ∃ hq : q < cs.length, g.items[p] = q /\ Z0e (lv ls m) cs[q] = g.name
 order : g.items.Pairwise (· < ·)
 up : (g.up = -1 /\ m + 1 = ls.length) \/ (m + 1 < ls.length /\ ∃ u : Nat, ∃ hu : u < gs.length, g.up = u /\ gs[u].lvl = m + 1 /\ ∀ p (hp : p < g.items.length) (q : Nat) (hq : q < cs.length), g.items[p] = q -> Z0e (lv ls (m + 1)) cs[q] = gs[u].name)
theorem Z6D (ls : List Lev) (cs : List ByteArray) (m : Nat) (n : ByteArray) : (itm ls cs m n).length <= cs.length := Z6E _ _ _ _
theorem ZhQ {ls : List Lev} {cs : List ByteArray} (h : Z0i ls = true) (hc : ∀ c ∈ cs, Z0C c = true) (hp : ∀ l ∈ ls, ∀ c ∈ cs, l.pre <= c.size) {g : Grp} (hg : g ∈ Z0Y ls cs ls.length) : ∃ m, PartAt ls cs (Z0Y ls cs ls.length) g m := by
 obtain ⟨m, n, hm, hn, rfl⟩ := Z20.1 hg
 have hit : ∀ p (hp : p < (itm ls cs m n).length), ∃ q : Nat, ∃ hq : q < cs.length, (itm ls cs m n)[p] = q /\ Z0e (lv ls m) cs[q] = n := fun p hp => by
  obtain ⟨q, hq, h1, h2⟩ := Z3j.1 (Z4 hp)
  exact ⟨q, hq, h2, h1⟩
 refine ⟨m, ⟨hm, rfl, List.length_pos_iff.2 (Z8E hn), Z6D ls cs m n, hit, Z6C ls cs m n, ?_⟩⟩
 by_cases hk : m + 1 < ls.length
 ·right
  refine ⟨hk, ?_⟩
  obtain ⟨i, hi, hh, hgr⟩ := Z6K hn
  have hmem : Z0e (lv ls (m + 1)) (Z6L ls cs m n) ∈ nm ls cs (m + 1) := by rw [hh]; exact Zes hi
  have hlt := Z35 hmem
  have hget := Zc8 ls cs ls.length (m + 1) _ hk hlt
  obtain ⟨hu, hge⟩ := List.getElem?_eq_some_iff.1 hget
  have hnm : (nm ls cs (m + 1))[idx (Z0e (lv ls (m + 1)) (Z6L ls cs m n)) (nm ls cs (m + 1))] = Z0e (lv ls (m + 1)) (Z6L ls cs m n) := by
   have := ZeL hmem
   rw [Z3 hlt] at this
   exact Option.some.inj this
  refine ⟨Zhc ls cs m n, hu, ?_, ?_, ?_⟩
  ·unfold gAt
   dsimp only
   rw [if_pos hk]
  ·have : (Z0Y ls cs ls.length)[Zhc ls cs m n] = gAt ls cs ls.length (m + 1) (nm ls cs (m + 1))[idx (Z0e (lv ls (m + 1)) (Z6L ls cs m n)) (nm ls cs (m + 1))] := hge
   rw [this]
   rfl
  ·intro p hp' q hq he
   have : (Z0Y ls cs ls.length)[Zhc ls cs m n] = gAt ls cs ls.length (m + 1) (nm ls cs (m + 1))[idx (Z0e (lv ls (m + 1)) (Z6L ls cs m n)) (nm ls cs (m + 1))] := hge
   rw [this, hnm]
   show Z0e (lv ls (m + 1)) cs[q] = Z0e (lv ls (m + 1)) (Z6L ls cs m n)
   rw [hh]
   obtain ⟨q', hq', h1, h2⟩ := hit p hp'
   have e : q = q' := by
    have : ((q : Nat) : Int) = q' := he.symm.trans h1
    omega
   subst e
   rw [Z9E hk]
   rw [Z9E hm] at h2 hgr
   exact Z7G h (hc _ (Z4 hq)) (hc _ (Z4 hi)) (fun l hl => hp l hl _ (Z4 hq)) (fun l hl => hp l hl _ (Z4 hi)) m hk (h2.trans hgr.symm)
 ·left
  unfold gAt
  dsimp only
  rw [if_neg hk]
  exact ⟨rfl, by omega⟩
end Go.Proofs.YtlgajongmkhcnaaGreatDoor
namespace Go.Proofs.YtlgajongmkhcnaaGreatDoor
structure PGrp where
 lvl : Int
 up : Int
 items : List Int
def Z4y (i : Nat) (x : Int) (b : List Int) (k : Nat) (l : List Int) : List Int :=
 (List.range k).foldl (fun l j => if b.getD j (-1) = -1 then l else l.set (i + j) (max (l.getD (i + j) (-1)) (x + b.getD j (-1)))) l
def Z2o (a b : List Int) (k : Nat) : List Int :=
 (List.range k).foldl (fun l i => if a.getD i (-1) = -1 then l else Z4y i (a.getD i (-1)) b b.length l) (List.replicate (a.length + b.length - 1) (-1))
def Z2I (a b : List Int) : List Int := Z2o a b a.length
def Z05 (ts : List (List Int)) : Nat -> List Int
 | 0 => [0]
 | k + 1 => Z2I (ts.getD (ts.length - 1 - k) []) (Z05 ts k)
def Z1S (lvl : Int) (items : Nat) (ts : List (List Int)) : List Int :=
 if lvl = 0 then List.replicate items (-1) ++ [0] else if ts.length = 0 then [] else Z05 ts ts.length
def Z0h (mn cents passes come : Int) : Int := if come - passes < 0 \/ (0 < come - passes /\ come - passes < mn) then -1 else (come - passes) * cents
def Z0T (come : List Int) (mn cents : Int) (p k : Nat) : Int :=
 (List.range k).foldl (fun acc j => if Z0h mn cents (p : Nat) (p + j : Nat) ≠ -1 /\ come.getD (p + j) (-1) ≠ -1 then max acc (come.getD (p + j) (-1) + Z0h mn cents (p : Nat) (p + j : Nat)) else acc) (-1)
def Z1h (come : List Int) (last : Bool) (mn cents : Int) : List Int := (List.range (if last then 1 else come.length)).map (fun p => Z0T come mn cents p (come.length - p))
def Z04 (gs : List PGrp) (g : Nat) : List Nat := (List.range gs.length).filter (fun h => decide ((gs.getD h ⟨0, 0, []⟩).up = (g : Int)))
def Z0c (gs : List PGrp) (g : Nat) : PGrp := gs.getD g ⟨0, 0, []⟩
def Z0y (ls : List (Int × Int)) (gs : List PGrp) : Nat -> List (List Int)
 | 0 => []
 | g + 1 => let ts := Z0y ls gs g
  let l := ls.getD (Z0c gs g).lvl.toNat (0, 0)
  ts ++ [Z1h (Z1S (Z0c gs g).lvl (Z0c gs g).items.length ((Z04 gs g).map (fun h => ts.getD h []))) (decide ((Z0c gs g).lvl = (ls.length : Int) - 1)) l.1 l.2]
def Z83 (a rest : List Int) (fits : Int -> Int -> Bool) : Nat :=
 ((List.range a.length).find? (fun i => decide (a.getD i (-1) ≠ -1) && (List.range rest.length).any (fun j => decide (rest.getD j (-1) ≠ -1) && fits (i + j : Nat) (a.getD i (-1) + rest.getD j (-1))))).getD (a.length - 1)
def Z1d (mn cents : Int) (passes : Int) (most : Int) (ts : List (List Int)) : Nat -> (Nat × Int × List Nat)
 | 0 => (0, 0, [])
 | k + 1 => let (come, saved, out) := Z1d mn cents passes most ts k
  let t := ts.getD k []
  let p := Z83 t (Z05 ts (ts.length - 1 - k)) (fun q below => let own := Z0h mn cents passes (come + q); decide (own ≠ -1) && decide (saved + below + own = most))
  (come + p, saved + t.getD p (-1), out ++ [p])
def Z1z (ls : List (Int × Int)) (gs : List PGrp) (tabs : List (List Int)) : Nat -> (Nat -> Int)
 | 0 => fun _ => 0
 | k + 1 => let f := Z1z ls gs tabs k
  let g := gs.length - 1 - k
  let l := ls.getD (Z0c gs g).lvl.toNat (0, 0)
  let subs := Z04 gs g
  let ps := (Z1d l.1 l.2 (f g) ((tabs.getD g []).getD (f g).toNat (-1)) (subs.map (fun h => tabs.getD h [])) subs.length).2.2
  fun h => match subs.idxOf? h with | some i => (ps.getD i 0 : Nat) | none => f h
def Zhl (x : Int) : List Int -> List Int
 | [] => [x]
 | y :: r => if x <= y then x :: y :: r else y :: Zhl x r
def Z1f (l : List Int) : List Int := l.foldr Zhl []
def Z0F (gs : List PGrp) (f : Nat -> Int) : Nat -> List Int -> (List Int × List (List Int))
 | 0, p => (p, [])
 | g + 1, p => let (q, passed) := Z0F gs f g p
  let come := Z1f ((if (Z0c gs g).lvl = 0 then (Z0c gs g).items else []) ++ (Z04 gs g).flatMap (fun h => passed.getD h []))
  let takes := come.length - (f g).toNat
  ((come.take takes).foldl (fun q i => q.set i.toNat (Z0c gs g).lvl) q, passed ++ [come.drop takes])
def Zga (ls : List (Int × Int)) (gs : List PGrp) (n : Nat) : List Int :=
 let tabs := Z0y ls gs gs.length
 (Z0F gs (Z1z ls gs tabs gs.length) gs.length (List.replicate n 0)).1
end Go.Proofs.YtlgajongmkhcnaaGreatDoor
namespace Go.Proofs.YtlgajongmkhcnaaGreatDoor
open Go.RowKit Go.Sort
set_option linter.unusedVariables false
def Z1g (n : Nat) (zs : List Int) : Bool := zs.all (fun z => decide (0 <= z) && decide (z < (n : Int)))
def Z70 (ls : List Lev) (z : Int) : Int := (ls.getD z.toNat ⟨⟨#[]⟩, 0, [], 0, 0⟩).cents
def Z4W (ls : List Lev) (zs : List Int) (k : Nat) : Int := ((zs.take k).map (Z70 ls)).sum
theorem Z9b (ls : List Lev) (zs : List Int) (k : Nat) (h : k < zs.length) : Z4W ls zs (k + 1) = Z4W ls zs k + Z70 ls zs[k] := by
 unfold Z4W; rw [Z8 h, ZD, List.sum_append]; simp
theorem Z6m {n : Nat} {zs : List Int} (h : Z1g n zs = true) (k : Nat) (hk : k < zs.length) : 0 <= zs[k] /\ zs[k] < (n : Int) := by
 unfold Z1g at h
 have := List.all_eq_true.1 h _ (Z4 hk)
 simpa using this
theorem ZcS {n : Nat} {zs : List Int} {k : Nat} (hk : k < zs.length) (h : zs[k] < 0 \/ (n : Int) <= zs[k]) : Z1g n zs = false := by
 unfold Z1g
 rw [List.all_eq_false]
 refine ⟨_, Z4 hk, ?_⟩
 simp
 omega
theorem Z9u {n : Nat} {zs : List Int} (h : ∀ k (hk : k < zs.length), 0 <= zs[k] /\ zs[k] < (n : Int)) : Z1g n zs = true := by
 unfold Z1g
 rw [List.all_eq_true]
 intro z hz
 obtain ⟨k, hk, rfl⟩ := List.mem_iff_getElem.1 hz
 have := h k hk
 simp
 exact this
theorem Zbg {ls : List Lev} (hr : Z0i ls = true) {z : Int} (h0 : 0 <= z) (h1 : z < (ls.length : Int)) : 0 <= Z70 ls z /\ Z70 ls z <= 1000000 := by
 have hi : z.toNat < ls.length := by omega
 have hl := (Z0E.1 hr).2.2.1.2.1 z.toNat hi hi
 obtain ⟨_, _, _, h2, h3⟩ := Z1H (Z13.1 hl).1
 unfold Z70
 rw [Z2, Z3 hi]
 exact ⟨h2, h3⟩
theorem Zap {ls : List Lev} (hr : Z0i ls = true) {zs : List Int} (h : Z1g ls.length zs = true) : ∀ k, k <= zs.length -> 0 <= Z4W ls zs k /\ Z4W ls zs k <= k * 1000000
 | 0, _ => by simp [Z4W]
 | k + 1, hk => by
  obtain ⟨a, b⟩ := Zap hr h k (by omega)
  obtain ⟨c, d⟩ := Z6m h k hk
  obtain ⟨e, f⟩ := Zbg hr c d
  rw [Z9b ls zs k hk]
  omega
end Go.Proofs.YtlgajongmkhcnaaGreatDoor
namespace Go.Proofs.YtlgajongmkhcnaaGreatDoor
set_option linter.unusedVariables false
def ent (l : List Int) (i : Nat) : Int := l.getD i (-1)
def ZiB (a b : List Int) (i j : Nat) : Prop := i < a.length /\ j < b.length /\ ent a i ≠ -1 /\ ent b j ≠ -1
structure JoinInv (a b l : List Int) (S : Nat -> Nat -> Prop) : Prop where
 len : l.length = a.length + b.length - 1
 up : ∀ i j, S i j -> ZiB a b i j -> ent a i + ent b j <= ent l (i + j)
 at_ : ∀ n, ent l n = -1 \/ ∃ i j, S i j /\ ZiB a b i j /\ i + j = n /\ ent l n = ent a i + ent b j
theorem Zf6 (l : List Int) (k : Nat) (x : Int) (n : Nat) : ent (l.set k x) n = if n = k /\ k < l.length then x else ent l n := by
 unfold ent
 rw [Z2, Z2, List.getElem?_set]
 by_cases h : k = n
 ·subst h
  by_cases hl : k < l.length
  ·rw [if_pos rfl, if_pos hl, if_pos ⟨rfl, hl⟩]; rfl
  ·rw [if_pos rfl, if_neg hl, if_neg (fun h => hl h.2), List.getElem?_eq_none (by omega)]
 ·rw [if_neg h, if_neg (fun h' => h h'.1.symm)]
theorem Z1I {a : List Int} (h : ∀ x ∈ a, -1 <= x) {i : Nat} (hi : ent a i ≠ -1) : 0 <= ent a i := by
 by_cases hl : i < a.length
 ·have hm : ent a i ∈ a := by unfold ent; rw [Z2, Z3 hl]; exact Z4 hl
  have := h _ hm
  omega
 ·exfalso; apply hi; unfold ent; rw [Z2, List.getElem?_eq_none (by omega)]; rfl
theorem join_step {a b l : List Int} {S : Nat -> Nat -> Prop} (ha : ∀ x ∈ a, -1 <= x) (hb : ∀ x ∈ b, -1 <= x) (h : JoinInv a b l S) {i j : Nat} (hp : ZiB a b i j) :
 JoinInv a b (l.set (i + j) (max (ent l (i + j)) (ent a i + ent b j))) (fun p q => S p q \/ (p = i /\ q = j)) := by
 obtain ⟨h1, h2, h3⟩ := h
 have hij : i + j < l.length := by have := hp.1; have := hp.2.1; omega
 refine ⟨by rw [List.length_set]; exact h1, fun p q hs hpq => ?_, fun n => ?_⟩
 ·rw [Zf6]
  rcases hs with hs | ⟨rfl, rfl⟩
  ·have := h2 p q hs hpq
   split
   ·rename_i he; rw [he.1] at this; omega
   ·exact this
  ·rw [if_pos ⟨rfl, hij⟩]; omega
 ·rw [Zf6]
  by_cases he : n = i + j
  ·subst he
   rw [if_pos ⟨rfl, hij⟩]
   rcases h3 (i + j) with h4 | ⟨p, q, hs, hpq, he, hv⟩
   ·right
    refine ⟨i, j, .inr ⟨rfl, rfl⟩, hp, rfl, ?_⟩
    have := Z1I ha hp.2.2.1
    have := Z1I hb hp.2.2.2
    rw [h4]; omega
   ·right
    by_cases hm : ent a i + ent b j <= ent l (i + j)
    ·exact ⟨p, q, .inl hs, hpq, he, by rw [<- hv]; omega⟩
    ·exact ⟨i, j, .inr ⟨rfl, rfl⟩, hp, rfl, by omega⟩
  ·rw [if_neg (fun h => he h.1)]
   rcases h3 n with h4 | ⟨p, q, hs, hpq, he', hv⟩
   ·exact .inl h4
   ·exact .inr ⟨p, q, .inl hs, hpq, he', hv⟩
theorem Z3m {a b l : List Int} {S S' : Nat -> Nat -> Prop} (h : JoinInv a b l S) (h1 : ∀ i j, S i j -> S' i j) (h2 : ∀ i j, S' i j -> ZiB a b i j -> S i j) : JoinInv a b l S' :=
 ⟨h.len, fun i j hs hp => h.up i j (h2 i j hs hp) hp, fun n => by
  rcases h.at_ n with h4 | ⟨p, q, hs, hpq, he, hv⟩
  ·exact .inl h4
  ·exact .inr ⟨p, q, h1 p q hs, hpq, he, hv⟩⟩
theorem Z3V (i : Nat) (x : Int) (b : List Int) (k : Nat) (l : List Int) : Z4y i x b (k + 1) l = (fun l => if ent b k = -1 then l else l.set (i + k) (max (ent l (i + k)) (x + ent b k))) (Z4y i x b k l) := by
 unfold Z4y; rw [List.range_succ, List.foldl_append]; rfl
theorem Z3U (a b : List Int) (k : Nat) : Z2o a b (k + 1) = (if ent a k = -1 then Z2o a b k else Z4y k (ent a k) b b.length (Z2o a b k)) := by
 unfold Z2o; rw [List.range_succ, List.foldl_append]; rfl
theorem Z7X {a b : List Int} (ha : ∀ x ∈ a, -1 <= x) (hb : ∀ x ∈ b, -1 <= x) {l : List Int} {i : Nat} (hi : i < a.length) (hx : ent a i ≠ -1) (h : JoinInv a b l (fun p q => p < i)) :
 ∀ k, k <= b.length -> JoinInv a b (Z4y i (ent a i) b k l) (fun p q => p < i \/ (p = i /\ q < k))
 | 0, _ => Z3m h (fun p q h => .inl h) (fun p q h _ => by rcases h with h | h; exact h; omega)
 | k + 1, hk => by
  have ih := Z7X ha hb hi hx h k (by omega)
  rw [Z3V]
  dsimp only
  by_cases hbk : ent b k = -1
  ·rw [if_pos hbk]
   refine Z3m ih (fun p q h => ?_) (fun p q h hp => ?_)
   ·rcases h with h | ⟨h1, h2⟩
    ·exact .inl h
    ·exact .inr ⟨h1, by omega⟩
   ·rcases h with h | ⟨h1, h2⟩
    ·exact .inl h
    ·refine .inr ⟨h1, ?_⟩
     by_cases e : q = k
     ·subst e; exact absurd hbk hp.2.2.2
     ·omega
  ·rw [if_neg hbk]
   refine Z3m (join_step ha hb ih ⟨hi, by omega, hx, hbk⟩) (fun p q h => ?_) (fun p q h hp => ?_)
   ·rcases h with (h | ⟨h1, h2⟩) | ⟨h1, h2⟩
    ·exact .inl h
    ·exact .inr ⟨h1, by omega⟩
    ·exact .inr ⟨h1, by omega⟩
   ·rcases h with h | ⟨h1, h2⟩
    ·exact .inl (.inl h)
    ·by_cases e : q = k
     ·exact .inr ⟨h1, e⟩
     ·exact .inl (.inr ⟨h1, by omega⟩)
theorem Z3z {a b : List Int} (ha : ∀ x ∈ a, -1 <= x) (hb : ∀ x ∈ b, -1 <= x) : ∀ k, k <= a.length -> JoinInv a b (Z2o a b k) (fun p q => p < k)
 | 0, _ => by
  refine ⟨by simp [Z2o], fun i j h => absurd h (Nat.not_lt_zero _), fun n => .inl ?_⟩
  unfold Z2o ent
  rw [Z2]
  simp only [List.range_zero, List.foldl_nil, List.getElem?_replicate]
  split <;> rfl
 | k + 1, hk => by
  have ih := Z3z ha hb k (by omega)
  rw [Z3U]
  by_cases hak : ent a k = -1
  ·rw [if_pos hak]
   refine Z3m ih (fun p q h => by omega) (fun p q h hp => ?_)
   by_cases e : p = k
   ·subst e; exact absurd hak hp.2.2.1
   ·omega
  ·rw [if_neg hak]
   refine Z3m (Z7X ha hb (by omega) hak ih b.length (Z1 _)) (fun p q h => by omega) (fun p q h hp => ?_)
   by_cases e : p = k
   ·exact .inr ⟨e, hp.2.1⟩
   ·exact .inl (by omega)
theorem Z9M {a b : List Int} (ha : ∀ x ∈ a, -1 <= x) (hb : ∀ x ∈ b, -1 <= x) : (Z2I a b).length = a.length + b.length - 1 := (Z3z ha hb a.length (Z1 _)).len
theorem ZgE {a b : List Int} (ha : ∀ x ∈ a, -1 <= x) (hb : ∀ x ∈ b, -1 <= x) {i j : Nat} (hp : ZiB a b i j) : ent a i + ent b j <= ent (Z2I a b) (i + j) := (Z3z ha hb a.length (Z1 _)).up i j hp.1 hp
theorem Z8D {a b : List Int} (ha : ∀ x ∈ a, -1 <= x) (hb : ∀ x ∈ b, -1 <= x) (n : Nat) : ent (Z2I a b) n = -1 \/ ∃ i j, ZiB a b i j /\ i + j = n /\ ent (Z2I a b) n = ent a i + ent b j := by
 rcases (Z3z ha hb a.length (Z1 _)).at_ n with h | ⟨i, j, _, hp, he, hv⟩
 ·exact .inl h
 ·exact .inr ⟨i, j, hp, he, hv⟩
theorem Zc2 {a b : List Int} (ha : ∀ x ∈ a, -1 <= x) (hb : ∀ x ∈ b, -1 <= x) : ∀ x ∈ Z2I a b, -1 <= x := fun x hx => by
 obtain ⟨n, hn, rfl⟩ := List.mem_iff_getElem.1 hx
 have e : ent (Z2I a b) n = (Z2I a b)[n] := by unfold ent; rw [Z2, Z3 hn]; rfl
 rw [<- e]
 rcases Z8D ha hb n with h | ⟨i, j, hp, _, hv⟩
 ·omega
 ·have := Z1I ha hp.2.2.1
  have := Z1I hb hp.2.2.2
  omega
end Go.Proofs.YtlgajongmkhcnaaGreatDoor
namespace Go.Proofs.YtlgajongmkhcnaaGreatDoor
set_option linter.unusedVariables false
def Z0A (ts : List (List Int)) (i : Nat) : List Int := ts.getD i []
def sQ (N : Nat) (q : Nat -> Nat) : Nat -> Nat
 | 0 => 0
 | k + 1 => sQ N q k + q (N - 1 - k)
def sE (ts : List (List Int)) (q : Nat -> Nat) : Nat -> Int
 | 0 => 0
 | k + 1 => sE ts q k + ent (Z0A ts (ts.length - 1 - k)) (q (ts.length - 1 - k))
def ZjH (ts : List (List Int)) (q : Nat -> Nat) (k : Nat) : Prop := ∀ j, j < k -> q (ts.length - 1 - j) < (Z0A ts (ts.length - 1 - j)).length /\ ent (Z0A ts (ts.length - 1 - j)) (q (ts.length - 1 - j)) ≠ -1
def Z76 (ts : List (List Int)) : Prop := ∀ t ∈ ts, (∀ x ∈ t, -1 <= x) /\ 0 < t.length
theorem ZdG {ts : List (List Int)} (h : Z76 ts) {i : Nat} (hi : i < ts.length) : (∀ x ∈ Z0A ts i, -1 <= x) /\ 0 < (Z0A ts i).length := by
 have : Z0A ts i ∈ ts := by unfold Z0A; rw [Z2, Z3 hi]; exact Z4 hi
 exact h _ this
theorem Z4s {ts : List (List Int)} (h : Z76 ts) : ∀ k, k <= ts.length -> (∀ x ∈ Z05 ts k, -1 <= x) /\ 0 < (Z05 ts k).length
 | 0, _ => ⟨by simp [Z05], by simp [Z05]⟩
 | k + 1, hk => by
  obtain ⟨a, b⟩ := Z4s h k (by omega)
  obtain ⟨c, d⟩ := ZdG h (i := ts.length - 1 - k) (by omega)
  have e : Z05 ts (k + 1) = Z2I (Z0A ts (ts.length - 1 - k)) (Z05 ts k) := rfl
  rw [e]
  exact ⟨Zc2 c a, by rw [Z9M c a]; omega⟩
theorem Z4E {l : List Int} {i : Nat} (h : ent l i ≠ -1) : i < l.length := by
 by_cases hl : i < l.length
 ·exact hl
 ·exfalso; apply h; unfold ent; rw [Z2, List.getElem?_eq_none (by omega)]; rfl
theorem Z9y {ts : List (List Int)} (h : Z76 ts) (q : Nat -> Nat) : ∀ k, k <= ts.length -> ZjH ts q k -> 0 <= sE ts q k /\ sE ts q k <= ent (Z05 ts k) (sQ ts.length q k)
 | 0, _, _ => ⟨Int.le_refl _, (by decide : (0 : Int) <= ent [0] 0)⟩
 | k + 1, hk, hp => by
  obtain ⟨a, b⟩ := Z9y h q k (by omega) (fun j hj => hp j (by omega))
  obtain ⟨m1, m2⟩ := Z4s h k (by omega)
  obtain ⟨c, d⟩ := ZdG h (i := ts.length - 1 - k) (by omega)
  obtain ⟨p1, p2⟩ := hp k (by omega)
  have e0 := Z1I c p2
  have hne : ent (Z05 ts k) (sQ ts.length q k) ≠ -1 := by omega
  have := ZgE c m1 (i := q (ts.length - 1 - k)) (j := sQ ts.length q k) ⟨p1, Z4E hne, p2, hne⟩
  have e : Z05 ts (k + 1) = Z2I (Z0A ts (ts.length - 1 - k)) (Z05 ts k) := rfl
  rw [e]
  unfold sE sQ
  rw [Nat.add_comm (sQ ts.length q k)]
  omega
theorem Z2Z (come : List Int) (mn cents : Int) (p k : Nat) : Z0T come mn cents p (k + 1) = (fun acc => if Z0h mn cents (p : Nat) (p + k : Nat) ≠ -1 /\ ent come (p + k) ≠ -1 then max acc (ent come (p + k) + Z0h mn cents (p : Nat) (p + k : Nat)) else acc) (Z0T come mn cents p k) := by
 unfold Z0T; rw [List.range_succ, List.foldl_append]; rfl
theorem Zfn (come : List Int) (mn cents : Int) (p : Nat) : ∀ k j, j < k -> Z0h mn cents (p : Nat) (p + j : Nat) ≠ -1 -> ent come (p + j) ≠ -1 -> ent come (p + j) + Z0h mn cents (p : Nat) (p + j : Nat) <= Z0T come mn cents p k
 | 0, j, h, _, _ => absurd h (Nat.not_lt_zero _)
 | k + 1, j, h, h1, h2 => by
  rw [Z2Z]
  dsimp only
  by_cases e : j = k
  ·subst e
   rw [if_pos ⟨h1, h2⟩]; omega
  ·have := Zfn come mn cents p k j (by omega) h1 h2
   split <;> omega
theorem Z72 (come : List Int) (mn cents : Int) (p : Nat) (hc : ∀ x ∈ come, -1 <= x) (h0 : 0 <= cents) : ∀ k, Z0T come mn cents p k = -1 \/ ∃ j, j < k /\ Z0h mn cents (p : Nat) (p + j : Nat) ≠ -1 /\ ent come (p + j) ≠ -1 /\ Z0T come mn cents p k = ent come (p + j) + Z0h mn cents (p : Nat) (p + j : Nat)
 | 0 => .inl (by simp [Z0T])
 | k + 1 => by
  rw [Z2Z]
  dsimp only
  by_cases e : Z0h mn cents (p : Nat) (p + k : Nat) ≠ -1 /\ ent come (p + k) ≠ -1
  ·rw [if_pos e]
   rcases Z72 come mn cents p hc h0 k with h | ⟨j, hj, h1, h2, h3⟩
   ·right
    refine ⟨k, by omega, e.1, e.2, ?_⟩
    have := Z1I hc e.2
    have hs : 0 <= Z0h mn cents (p : Nat) (p + k : Nat) := by
     have h := e.1
     unfold Z0h at h ⊢
     split at h
     ·exact absurd rfl h
     ·rename_i hn
      rw [if_neg hn]
      exact Int.mul_nonneg (by omega) h0
    rw [h]; omega
   ·by_cases hm : ent come (p + k) + Z0h mn cents (p : Nat) (p + k : Nat) <= Z0T come mn cents p k
    ·exact .inr ⟨j, by omega, h1, h2, by omega⟩
    ·exact .inr ⟨k, by omega, e.1, e.2, by omega⟩
  ·rw [if_neg e]
   rcases Z72 come mn cents p hc h0 k with h | ⟨j, hj, h1, h2, h3⟩
   ·exact .inl h
   ·exact .inr ⟨j, by omega, h1, h2, h3⟩
end Go.Proofs.YtlgajongmkhcnaaGreatDoor
namespace Go.Proofs.YtlgajongmkhcnaaGreatDoor
set_option linter.unusedVariables false
theorem Z6V (come : List Int) (last : Bool) (mn cents : Int) {q : Nat} (h : q < (if last then 1 else come.length)) : ent (Z1h come last mn cents) q = Z0T come mn cents q (come.length - q) := by
 unfold Z1h ent
 rw [Z2, List.getElem?_map, List.getElem?_range h]
 rfl
theorem Z61 (come : List Int) (last : Bool) (mn cents : Int) : (Z1h come last mn cents).length = if last then 1 else come.length := by simp [Z1h]
theorem Z9c {mn cents p c : Int} (h0 : 0 <= cents) (h : Z0h mn cents p c ≠ -1) : 0 <= Z0h mn cents p c := by
 unfold Z0h at h ⊢
 split at h
 ·exact absurd rfl h
 ·rename_i hn
  rw [if_neg hn]
  exact Int.mul_nonneg (by omega) h0
theorem Zii (come : List Int) (mn cents : Int) (p : Nat) (hc : ∀ x ∈ come, -1 <= x) (h0 : 0 <= cents) (k : Nat) : -1 <= Z0T come mn cents p k := by
 rcases Z72 come mn cents p hc h0 k with h | ⟨j, hj, h1, h2, h3⟩
 ·omega
 ·have := Z1I hc h2
  have := Z9c h0 h1
  omega
theorem Zbu (come : List Int) (last : Bool) (mn cents : Int) (hc : ∀ x ∈ come, -1 <= x) (hl : 0 < come.length) (h0 : 0 <= cents) : (∀ x ∈ Z1h come last mn cents, -1 <= x) /\ 0 < (Z1h come last mn cents).length := by
 refine ⟨fun x hx => ?_, by rw [Z61]; split <;> omega⟩
 unfold Z1h at hx
 obtain ⟨p, _, rfl⟩ := List.mem_map.1 hx
 exact Zii come mn cents p hc h0 _
def sS (s : Nat -> Int) (N : Nat) : Nat -> Int
 | 0 => 0
 | k + 1 => sS s N k + s (N - 1 - k)
theorem ZiJ {ts : List (List Int)} {q : Nat -> Nat} {s : Nat -> Int} : ∀ k, k <= ts.length -> (∀ i, i < ts.length -> s i <= ent (Z0A ts i) (q i)) -> sS s ts.length k <= sE ts q k
 | 0, _, _ => Int.le_refl _
 | k + 1, hk, h => by
  have := ZiJ k (by omega) h
  have := h (ts.length - 1 - k) (by omega)
  unfold sS sE
  omega
theorem ZdI (come : List Int) (last : Bool) (mn cents : Int) (h0 : 0 <= cents) (hc : ∀ x ∈ come, -1 <= x) {Q t : Nat} {s : Int} (hs : s <= ent come Q) (hs0 : 0 <= s) (ht : t <= Q) (hv : t = 0 \/ mn <= (t : Int)) (hlast : last = true -> Q - t = 0) :
 s + (t : Int) * cents <= ent (Z1h come last mn cents) (Q - t) := by
 have hne : ent come Q ≠ -1 := by omega
 have hQ := Z4E hne
 have hq : Q - t < (if last then 1 else come.length) := by
  cases last
  ·simp; omega
  ·have := hlast rfl; simp; omega
 rw [Z6V come last mn cents hq]
 have hsv : Z0h mn cents ((Q - t : Nat) : Int) ((Q - t + t : Nat) : Int) = (t : Int) * cents := by
  unfold Z0h
  have e : ((Q - t + t : Nat) : Int) - ((Q - t : Nat) : Int) = (t : Int) := by omega
  rw [e, if_neg (by omega)]
 have hsn : Z0h mn cents ((Q - t : Nat) : Int) ((Q - t + t : Nat) : Int) ≠ -1 := by
  rw [hsv]
  have : 0 <= (t : Int) * cents := Int.mul_nonneg (by omega) h0
  omega
 have e : Q - t + t = Q := by omega
 have := Zfn come mn cents (Q - t) (come.length - (Q - t)) t (by omega) hsn (by rw [e]; exact hne)
 rw [hsv, e] at this
 omega
end Go.Proofs.YtlgajongmkhcnaaGreatDoor
namespace Go.Proofs.YtlgajongmkhcnaaGreatDoor
set_option linter.unusedVariables false
theorem ZgK (a rest : List Int) (fits : Int -> Int -> Bool) (h : ∃ i j, ent a i ≠ -1 /\ ent rest j ≠ -1 /\ fits ((i + j : Nat) : Int) (ent a i + ent rest j) = true) :
 (∃ j, ent a (Z83 a rest fits) ≠ -1 /\ ent rest j ≠ -1 /\ fits ((Z83 a rest fits + j : Nat) : Int) (ent a (Z83 a rest fits) + ent rest j) = true) /\
 ∀ i j, i < Z83 a rest fits -> ent a i ≠ -1 -> ent rest j ≠ -1 -> fits ((i + j : Nat) : Int) (ent a i + ent rest j) = false := by
 obtain ⟨i, j, h1, h2, h3⟩ := h
 have hi := Z4E h1
 have hj := Z4E h2
 unfold Z83
 have hs : ∃ x, (List.range a.length).find? (fun i => decide (a.getD i (-1) ≠ -1) && (List.range rest.length).any (fun j => decide (rest.getD j (-1) ≠ -1) && fits (i + j : Nat) (a.getD i (-1) + rest.getD j (-1)))) = some x := by
  rw [<- Option.isSome_iff_exists, List.find?_isSome]
  refine ⟨i, List.mem_range.2 hi, ?_⟩
  rw [ZF, decide_eq_true_eq, List.any_eq_true]
  exact ⟨h1, j, List.mem_range.2 hj, by rw [ZF, decide_eq_true_eq]; exact ⟨h2, h3⟩⟩
 obtain ⟨x, hx⟩ := hs
 rw [hx]
 show (∃ j, ent a x ≠ -1 /\ ent rest j ≠ -1 /\ fits ((x + j : Nat) : Int) (ent a x + ent rest j) = true) /\ _
 constructor
 ·have := List.find?_some hx
  rw [ZF, decide_eq_true_eq, List.any_eq_true] at this
  obtain ⟨k1, j', _, hj'⟩ := this
  rw [ZF, decide_eq_true_eq] at hj'
  exact ⟨j', k1, hj'.1, hj'.2⟩
 ·intro i' j' hlt g1 g2
  have hlt' : i' < x := hlt
  rw [List.find?_eq_some_iff_getElem] at hx
  obtain ⟨_, n, hn, he, hbefore⟩ := hx
  rw [List.getElem_range] at he
  subst he
  have hb := hbefore i' hlt'
  rw [List.getElem_range] at hb
  cases hf : fits ((i' + j' : Nat) : Int) (ent a i' + ent rest j')
  ·rfl
  ·exfalso
   have : (decide (a.getD i' (-1) ≠ -1) && (List.range rest.length).any (fun j => decide (rest.getD j (-1) ≠ -1) && fits (i' + j : Nat) (a.getD i' (-1) + rest.getD j (-1)))) = true := by
    rw [ZF, decide_eq_true_eq, List.any_eq_true]
    exact ⟨g1, j', List.mem_range.2 (Z4E g2), by rw [ZF, decide_eq_true_eq]; exact ⟨g2, hf⟩⟩
   rw [this] at hb
   cases hb
structure DivInv (mn cents P most : Int) (ts : List (List Int)) (k : Nat) (come : Nat) (saved : Int) (out : List Nat) : Prop where
 len : out.length = k
 sum : come = out.sum
 ok : ∀ i, i < k -> ent (Z0A ts i) (out.getD i 0) ≠ -1
 sv : saved = ((List.range k).map (fun i => ent (Z0A ts i) (out.getD i 0))).sum
 rest : ∃ r, ent (Z05 ts (ts.length - k)) r ≠ -1 /\ Z0h mn cents P ((come + r : Nat) : Int) ≠ -1 /\ saved + ent (Z05 ts (ts.length - k)) r + Z0h mn cents P ((come + r : Nat) : Int) = most
theorem Z3o {l : List Nat} {x i : Nat} (h : i < l.length) : (l ++ [x]).getD i 0 = l.getD i 0 := by
 simp only [Z2, List.getElem?_append_left h]
theorem Z3p {l : List Nat} {x k : Nat} (h : l.length = k) : (l ++ [x]).getD k 0 = x := by
 simp [Z2, <- h]
theorem Zfa {mn cents P most : Int} {ts : List (List Int)} (hts : Z76 ts)
 (h0 : ∃ r, ent (Z05 ts ts.length) r ≠ -1 /\ Z0h mn cents P (r : Nat) ≠ -1 /\ ent (Z05 ts ts.length) r + Z0h mn cents P (r : Nat) = most) :
 ∀ k, k <= ts.length -> DivInv mn cents P most ts k (Z1d mn cents P most ts k).1 (Z1d mn cents P most ts k).2.1 (Z1d mn cents P most ts k).2.2
 | 0, _ => by
  obtain ⟨r, h1, h2, h3⟩ := h0
  refine ⟨rfl, rfl, fun i h => absurd h (Nat.not_lt_zero _), rfl, r, h1, ?_, ?_⟩
  ·show Z0h mn cents P ((0 + r : Nat) : Int) ≠ -1
   rw [Nat.zero_add]; exact h2
  ·show 0 + ent (Z05 ts ts.length) r + Z0h mn cents P ((0 + r : Nat) : Int) = most
   rw [Nat.zero_add]; omega
 | k + 1, hk => by
  have ih := Zfa hts h0 k (by omega)
  generalize hd : Z1d mn cents P most ts k = d at ih
  obtain ⟨come, saved, out⟩ := d
  obtain ⟨i1, i2, i3, i4, r, r1, r2, r3⟩ := ih
  dsimp only at i1 i2 i3 i4 r1 r2 r3
  obtain ⟨c, dd⟩ := ZdG hts (i := k) (by omega)
  obtain ⟨m1, m2⟩ := Z4s hts (ts.length - 1 - k) (by omega)
  have e1 : ts.length - k = (ts.length - 1 - k) + 1 := by omega
  have e2 : Z05 ts (ts.length - k) = Z2I (Z0A ts k) (Z05 ts (ts.length - 1 - k)) := by
   rw [e1]
   show Z2I (ts.getD (ts.length - 1 - (ts.length - 1 - k)) []) _ = _
   rw [show ts.length - 1 - (ts.length - 1 - k) = k by omega]; rfl
  rw [e2] at r1 r3
  have hex : ∃ i j, ent (Z0A ts k) i ≠ -1 /\ ent (Z05 ts (ts.length - 1 - k)) j ≠ -1 /\
   (fun (q below : Int) => decide (Z0h mn cents P (come + q) ≠ -1) && decide (saved + below + Z0h mn cents P (come + q) = most)) ((i + j : Nat) : Int) (ent (Z0A ts k) i + ent (Z05 ts (ts.length - 1 - k)) j) = true := by
   rcases Z8D c m1 r with h | ⟨i, j, hp, hij, hv⟩
   ·exact absurd h r1
   ·refine ⟨i, j, hp.2.2.1, hp.2.2.2, ?_⟩
    have e3 : ((come : Int) + ((i + j : Nat) : Int)) = ((come + r : Nat) : Int) := by omega
    dsimp only
    rw [e3, ZF, decide_eq_true_eq, decide_eq_true_eq]
    exact ⟨r2, by rw [<- hv]; exact r3⟩
  obtain ⟨⟨j, f1, f2, f3⟩, _⟩ := ZgK (Z0A ts k) (Z05 ts (ts.length - 1 - k)) (fun (q below : Int) => decide (Z0h mn cents P (come + q) ≠ -1) && decide (saved + below + Z0h mn cents P (come + q) = most)) hex
  have hstep : Z1d mn cents P most ts (k + 1) = (come + Z83 (Z0A ts k) (Z05 ts (ts.length - 1 - k)) (fun q below => decide (Z0h mn cents P (come + q) ≠ -1) && decide (saved + below + Z0h mn cents P (come + q) = most)),
   saved + ent (Z0A ts k) (Z83 (Z0A ts k) (Z05 ts (ts.length - 1 - k)) (fun q below => decide (Z0h mn cents P (come + q) ≠ -1) && decide (saved + below + Z0h mn cents P (come + q) = most))),
   out ++ [Z83 (Z0A ts k) (Z05 ts (ts.length - 1 - k)) (fun q below => decide (Z0h mn cents P (come + q) ≠ -1) && decide (saved + below + Z0h mn cents P (come + q) = most))]) := by
   rw [Z1d, hd]; rfl
  rw [hstep]
  generalize Z83 (Z0A ts k) (Z05 ts (ts.length - 1 - k)) (fun q below => decide (Z0h mn cents P (come + q) ≠ -1) && decide (saved + below + Z0h mn cents P (come + q) = most)) = p at f1 f3
  rw [ZF, decide_eq_true_eq, decide_eq_true_eq] at f3
  have e4 : ((come : Int) + ((p + j : Nat) : Int)) = ((come + p + j : Nat) : Int) := by omega
  rw [e4] at f3
  refine ⟨by rw [ZC, i1]; rfl, by dsimp only; rw [List.sum_append, i2]; simp, fun i hi => ?_, ?_, j, ?_, ?_, ?_⟩
  ·by_cases e : i = k
   ·subst e; rw [Z3p i1]; exact f1
   ·rw [Z3o (by omega)]; exact i3 i (by omega)
  ·dsimp only
   rw [List.range_succ, ZD, List.sum_append, i4]
   congr 1
   ·congr 1
    refine List.map_congr_left (fun i hi => ?_)
    rw [Z3o (by have := List.mem_range.1 hi; omega)]
   ·rw [List.map_cons, List.map_nil, Z3p i1]; simp
  ·rw [show ts.length - (k + 1) = ts.length - 1 - k by omega]; exact f2
  ·exact f3.1
  ·rw [show ts.length - (k + 1) = ts.length - 1 - k by omega]
   dsimp only
   have := f3.2
   omega
end Go.Proofs.YtlgajongmkhcnaaGreatDoor
namespace Go.Proofs.YtlgajongmkhcnaaGreatDoor
set_option linter.unusedVariables false
structure Forest (ls : List (Int × Int)) (gs : List PGrp) : Prop where
 lvl : ∀ g, g < gs.length -> 0 <= (Z0c gs g).lvl /\ (Z0c gs g).lvl < (ls.length : Int)
 below : ∀ g, g < gs.length -> ∀ h ∈ Z04 gs g, h < g
 parts : ∀ g, g < gs.length -> 0 < (Z0c gs g).lvl -> ((Z04 gs g).flatMap (fun h => (Z0c gs h).items)).Perm (Z0c gs g).items /\ Z04 gs g ≠ []
 sub : ∀ g, g < gs.length -> ∀ h ∈ Z04 gs g, (Z0c gs h).lvl + 1 = (Z0c gs g).lvl
 some_ : ∀ g, g < gs.length -> (Z0c gs g).items ≠ []
 cents : ∀ l ∈ ls, 0 <= l.2
def Z2w (ls : List (Int × Int)) (gs : List PGrp) (g : Nat) : Int × Int := ls.getD (Z0c gs g).lvl.toNat (0, 0)
theorem Zbt (ls : List (Int × Int)) (gs : List PGrp) : ∀ k, (Z0y ls gs k).length = k
 | 0 => rfl
 | k + 1 => by
  have : Z0y ls gs (k + 1) = Z0y ls gs k ++ [Z1h (Z1S (Z0c gs k).lvl (Z0c gs k).items.length ((Z04 gs k).map (fun h => (Z0y ls gs k).getD h []))) (decide ((Z0c gs k).lvl = (ls.length : Int) - 1)) (Z2w ls gs k).1 (Z2w ls gs k).2] := rfl
  rw [this, ZC, Zbt ls gs k]; rfl
theorem Z5I (ls : List (Int × Int)) (gs : List PGrp) : ∀ k g, g < k -> Z0A (Z0y ls gs k) g = Z1h (Z1S (Z0c gs g).lvl (Z0c gs g).items.length ((Z04 gs g).map (fun h => (Z0y ls gs g).getD h []))) (decide ((Z0c gs g).lvl = (ls.length : Int) - 1)) (Z2w ls gs g).1 (Z2w ls gs g).2
 | 0, g, h => absurd h (Nat.not_lt_zero _)
 | k + 1, g, h => by
  have e : Z0y ls gs (k + 1) = Z0y ls gs k ++ [Z1h (Z1S (Z0c gs k).lvl (Z0c gs k).items.length ((Z04 gs k).map (fun h => (Z0y ls gs k).getD h []))) (decide ((Z0c gs k).lvl = (ls.length : Int) - 1)) (Z2w ls gs k).1 (Z2w ls gs k).2] := rfl
  have hl := Zbt ls gs k
  by_cases hg : g = k
  ·subst hg
   rw [e]
   unfold Z0A
   rw [Z2, List.getElem?_append_right (by omega), hl, Nat.sub_self]
   rfl
  ·have := Z5I ls gs k g (by omega)
   rw [<- this, e]
   unfold Z0A
   rw [Z2, Z2, List.getElem?_append_left (by omega)]
theorem ZdE (ls : List (Int × Int)) (gs : List PGrp) {g k m : Nat} (h1 : g < k) (h2 : g < m) : Z0A (Z0y ls gs k) g = Z0A (Z0y ls gs m) g := by rw [Z5I ls gs k g h1, Z5I ls gs m g h2]
def Z10 (ls : List (Int × Int)) (gs : List PGrp) (g : Nat) : List Int := Z0A (Z0y ls gs gs.length) g
def Z0b (ls : List (Int × Int)) (gs : List PGrp) (g : Nat) : List (List Int) := (Z04 gs g).map (Z10 ls gs)
def Z16 (ls : List (Int × Int)) (gs : List PGrp) (g : Nat) : List Int := Z1S (Z0c gs g).lvl (Z0c gs g).items.length (Z0b ls gs g)
theorem Z47 {ls : List (Int × Int)} {gs : List PGrp} (hF : Forest ls gs) {g : Nat} (hg : g < gs.length) : Z10 ls gs g = Z1h (Z16 ls gs g) (decide ((Z0c gs g).lvl = (ls.length : Int) - 1)) (Z2w ls gs g).1 (Z2w ls gs g).2 := by
 unfold Z10 Z16 Z0b
 rw [Z5I ls gs _ g hg]
 congr 2
 refine List.map_congr_left (fun h hh => ?_)
 have hlt := hF.below g hg h hh
 exact ZdE ls gs hlt (by omega)
theorem Z3y {ls : List (Int × Int)} {gs : List PGrp} (hF : Forest ls gs) {g : Nat} (hg : g < gs.length) : 0 <= (Z2w ls gs g).2 := by
 obtain ⟨a, b⟩ := hF.lvl g hg
 have hi : (Z0c gs g).lvl.toNat < ls.length := by omega
 unfold Z2w
 rw [Z2, Z3 hi]
 exact hF.cents _ (Z4 hi)
theorem Zbe {ls : List (Int × Int)} {gs : List PGrp} (hF : Forest ls gs) {g : Nat} (hg : g < gs.length) (hs : Z76 (Z0b ls gs g)) : (∀ x ∈ Z16 ls gs g, -1 <= x) /\ 0 < (Z16 ls gs g).length := by
 unfold Z16 Z1S
 by_cases h0 : (Z0c gs g).lvl = 0
 ·rw [if_pos h0]
  refine ⟨fun x hx => ?_, by simp⟩
  rcases ZG.1 hx with hx | hx
  ·rw [(List.mem_replicate.1 hx).2]; decide
  ·obtain rfl := ZI.1 hx; decide
 ·rw [if_neg h0]
  have hne := (hF.parts g hg (by have := (hF.lvl g hg).1; omega)).2
  have hl : (Z0b ls gs g).length ≠ 0 := by unfold Z0b; rw [Z7]; exact fun h => hne (List.length_eq_zero_iff.1 h)
  rw [if_neg hl]
  exact Z4s hs _ (Z1 _)
theorem Zbv {ls : List (Int × Int)} {gs : List PGrp} (hF : Forest ls gs) : ∀ g, g < gs.length -> (∀ x ∈ Z10 ls gs g, -1 <= x) /\ 0 < (Z10 ls gs g).length := by
 intro g
 induction g using Nat.strongRecOn with
 | ind g ih =>
  intro hg
  have hs : Z76 (Z0b ls gs g) := fun t ht => by
   obtain ⟨h, hh, rfl⟩ := List.mem_map.1 ht
   have := hF.below g hg h hh
   exact ih h this (by omega)
  obtain ⟨a, b⟩ := Zbe hF hg hs
  rw [Z47 hF hg]
  exact Zbu _ _ _ _ a b (Z3y hF hg)
theorem Z48 {ls : List (Int × Int)} {gs : List PGrp} (hF : Forest ls gs) {g : Nat} (hg : g < gs.length) : Z76 (Z0b ls gs g) := fun t ht => by
 obtain ⟨h, hh, rfl⟩ := List.mem_map.1 ht
 have := hF.below g hg h hh
 exact Zbv hF h (by omega)
def takeN (p : Int -> Int) (g : PGrp) : Nat := g.items.countP (fun i => decide (p i = g.lvl))
def Z37 (p : Int -> Int) (g : PGrp) : Nat := g.items.countP (fun i => decide (g.lvl < p i))
def Z3G (ls : List (Int × Int)) (z : Int) : Int := (ls.getD z.toNat (0, 0)).2
def Z5A (ls : List (Int × Int)) (p : Int -> Int) (g : PGrp) : Int := (g.items.map (fun i => if p i <= g.lvl then Z3G ls (p i) else 0)).sum
end Go.Proofs.YtlgajongmkhcnaaGreatDoor
namespace Go.Proofs.YtlgajongmkhcnaaGreatDoor
set_option linter.unusedVariables false
theorem ZdU (N : Nat) (q : Nat -> Nat) : ∀ k, k <= N -> sQ N q k + ((List.range (N - k)).map q).sum = ((List.range N).map q).sum
 | 0, _ => by show 0 + _ = _; rw [Nat.zero_add]; rfl
 | k + 1, hk => by
  have ih := ZdU N q k (by omega)
  rw [show N - k = (N - (k + 1)) + 1 by omega, List.range_succ, ZD, List.sum_append] at ih
  simp only [List.map_cons, List.map_nil, List.sum_cons, List.sum_nil] at ih
  unfold sQ
  rw [show N - 1 - k = N - (k + 1) by omega]
  omega
theorem Zhe (N : Nat) (s : Nat -> Int) : ∀ k, k <= N -> sS s N k + ((List.range (N - k)).map s).sum = ((List.range N).map s).sum
 | 0, _ => by show 0 + _ = _; rw [Int.zero_add]; rfl
 | k + 1, hk => by
  have ih := Zhe N s k (by omega)
  rw [show N - k = (N - (k + 1)) + 1 by omega, List.range_succ, ZD, List.sum_append] at ih
  simp only [List.map_cons, List.map_nil, List.sum_cons, List.sum_nil] at ih
  unfold sS
  rw [show N - 1 - k = N - (k + 1) by omega]
  omega
theorem Z12 {β : Type} (l : List Nat) (f : Nat -> β) : (List.range l.length).map (fun i => f (l.getD i 0)) = l.map f := by
 apply List.ext_getElem
 ·simp
 ·intro i h1 h2
  have hi : i < l.length := by simpa using h2
  simp only [List.getElem_map, List.getElem_range, Z2, Z3 hi]
  rfl
theorem Zgg {l l' : List Int} (h : l.Perm l') : l.sum = l'.sum := by
 induction h with
 | nil => rfl
 | cons x _ ih => simp only [List.sum_cons, ih]
 | swap x y l => simp only [List.sum_cons]; omega
 | trans _ _ ih1 ih2 => rw [ih1, ih2]
theorem Zb8 {α : Type} (l : List α) (f : α -> List Int) (w : Int -> Int) : ((l.flatMap f).map w).sum = (l.map (fun a => ((f a).map w).sum)).sum := by
 induction l with
 | nil => rfl
 | cons a r ih => rw [List.flatMap_cons, ZD, List.sum_append, ih, List.map_cons, List.sum_cons]
theorem Z8N {α : Type} (l : List α) (f : α -> List Int) (w : Int -> Bool) : (l.flatMap f).countP w = (l.map (fun a => (f a).countP w)).sum := by
 induction l with
 | nil => rfl
 | cons a r ih => rw [List.flatMap_cons, List.countP_append, ih, List.map_cons, List.sum_cons]
structure PlanOk (ls : List (Int × Int)) (gs : List PGrp) (p : Int -> Int) : Prop where
 num : ∀ g, g < gs.length -> ∀ i ∈ (Z0c gs g).items, 0 <= p i /\ p i < (ls.length : Int)
 enough : ∀ g, g < gs.length -> takeN p (Z0c gs g) = 0 \/ (Z2w ls gs g).1 <= (takeN p (Z0c gs g) : Int)
theorem Zbc (p : Int -> Int) (m : Int) (l : List Int) : l.countP (fun i => decide (m - 1 < p i)) = l.countP (fun i => decide (p i = m)) + l.countP (fun i => decide (m < p i)) := by
 induction l with
 | nil => rfl
 | cons x r ih =>
  simp only [List.countP_cons, ih, decide_eq_true_eq]
  by_cases h1 : p x = m
  ·rw [if_pos (show m - 1 < p x by omega), if_pos h1, if_neg (show ¬ m < p x by omega)]; omega
  ·rw [if_neg h1]
   by_cases h2 : m < p x
   ·rw [if_pos (show m - 1 < p x by omega), if_pos h2]; omega
   ·rw [if_neg (show ¬ m - 1 < p x by omega), if_neg h2]; omega
theorem ZcD (ls : List (Int × Int)) (p : Int -> Int) (m : Int) (l : List Int) : (l.map (fun i => if p i <= m then Z3G ls (p i) else 0)).sum = (l.map (fun i => if p i <= m - 1 then Z3G ls (p i) else 0)).sum + (l.countP (fun i => decide (p i = m)) : Int) * Z3G ls m := by
 induction l with
 | nil => simp
 | cons x r ih =>
  simp only [List.map_cons, List.sum_cons, List.countP_cons, ih, decide_eq_true_eq]
  generalize r.countP (fun i => decide (p i = m)) = n
  generalize (r.map (fun i => if p i <= m - 1 then Z3G ls (p i) else 0)).sum = t
  by_cases h1 : p x = m
  ·rw [if_pos h1, if_pos (by omega), if_neg (by omega), h1]
   have e : ((n + 1 : Nat) : Int) * Z3G ls m = (n : Int) * Z3G ls m + Z3G ls m := by rw [Int.natCast_add, Int.add_mul]; simp
   rw [e]
   generalize (n : Int) * Z3G ls m = z
   omega
  ·rw [if_neg h1, Nat.add_zero]
   generalize (n : Int) * Z3G ls m = z
   by_cases h2 : p x <= m - 1
   ·rw [if_pos h2, if_pos (by omega)]; omega
   ·rw [if_neg h2, if_neg (by omega)]; omega
theorem Zbh {ls : List (Int × Int)} {gs : List PGrp} (hF : Forest ls gs) (z : Int) : 0 <= Z3G ls z := by
 unfold Z3G
 by_cases h : z.toNat < ls.length
 ·rw [Z2, Z3 h]; exact hF.cents _ (Z4 h)
 ·rw [Z2, List.getElem?_eq_none (by omega)]; exact Int.le_refl _
theorem Z3O {ls : List (Int × Int)} {gs : List PGrp} (hF : Forest ls gs) (p : Int -> Int) (g : PGrp) : 0 <= Z5A ls p g := by
 unfold Z5A
 generalize g.items = l
 induction l with
 | nil => simp
 | cons x r ih =>
  rw [List.map_cons, List.sum_cons]
  have := Zbh hF (p x)
  split <;> omega
theorem ZhZ (ls : List (Int × Int)) (gs : List PGrp) (g : Nat) : (Z2w ls gs g).2 = Z3G ls (Z0c gs g).lvl := rfl
theorem ZcP {ls : List (Int × Int)} {gs : List PGrp} (hF : Forest ls gs) {p : Int -> Int} (hp : PlanOk ls gs p) : ∀ g, g < gs.length -> Z5A ls p (Z0c gs g) <= ent (Z10 ls gs g) (Z37 p (Z0c gs g)) := by
 intro g
 induction g using Nat.strongRecOn with
 | ind g ih =>
  intro hg
  obtain ⟨l0, l1⟩ := hF.lvl g hg
  have hc0 := Z3y hF hg
  have hgood := Zbe hF hg (Z48 hF hg)
  rw [Z47 hF hg]
  have hsplit : Z5A ls p (Z0c gs g) = ((Z0c gs g).items.map (fun i => if p i <= (Z0c gs g).lvl - 1 then Z3G ls (p i) else 0)).sum + (takeN p (Z0c gs g) : Int) * (Z2w ls gs g).2 := by
   unfold Z5A takeN; rw [ZhZ]; exact ZcD ls p _ _
  have hcnt : (Z0c gs g).items.countP (fun i => decide ((Z0c gs g).lvl - 1 < p i)) = takeN p (Z0c gs g) + Z37 p (Z0c gs g) := Zbc p _ _
  obtain ⟨Q, hQ⟩ : ∃ Q, (Z0c gs g).items.countP (fun i => decide ((Z0c gs g).lvl - 1 < p i)) = Q := ⟨_, rfl⟩
  obtain ⟨s, hs⟩ : ∃ s, ((Z0c gs g).items.map (fun i => if p i <= (Z0c gs g).lvl - 1 then Z3G ls (p i) else 0)).sum = s := ⟨_, rfl⟩
  rw [hQ] at hcnt
  rw [hs] at hsplit
  have hlast : decide ((Z0c gs g).lvl = (ls.length : Int) - 1) = true -> Q - takeN p (Z0c gs g) = 0 := fun h => by
   have hl : (Z0c gs g).lvl = (ls.length : Int) - 1 := of_decide_eq_true h
   have : Z37 p (Z0c gs g) = 0 := by
    unfold Z37
    rw [List.countP_eq_zero]
    intro i hi
    have := (hp.num g hg i hi).2
    simp; omega
   omega
  have key : s <= ent (Z16 ls gs g) Q /\ 0 <= s := by
   by_cases h0 : (Z0c gs g).lvl = 0
   ·have hs0 : s = 0 := by
     rw [<- hs]
     have : (Z0c gs g).items.map (fun i => if p i <= (Z0c gs g).lvl - 1 then Z3G ls (p i) else 0) = (Z0c gs g).items.map (fun _ => (0 : Int)) := List.map_congr_left (fun i hi => by
      have := (hp.num g hg i hi).1
      rw [if_neg (by omega)])
     rw [this]
     generalize (Z0c gs g).items = l
     induction l with
     | nil => rfl
     | cons x r ih => simpa using ih
    have hQ0 : Q = (Z0c gs g).items.length := by
     rw [<- hQ, List.countP_eq_length]
     intro i hi
     have := (hp.num g hg i hi).1
     simp; omega
    have he : ent (Z16 ls gs g) Q = 0 := by
     unfold Z16 Z1S
     rw [if_pos h0, hQ0]
     unfold ent
     rw [Z2, List.getElem?_append_right (by simp)]
     simp
    omega
   ·have hpos : 0 < (Z0c gs g).lvl := by omega
    obtain ⟨hperm, hne⟩ := hF.parts g hg hpos
    have hl : (Z0b ls gs g).length = (Z04 gs g).length := by unfold Z0b; rw [Z7]
    have hce : Z16 ls gs g = Z05 (Z0b ls gs g) (Z0b ls gs g).length := by
     unfold Z16 Z1S
     rw [if_neg h0, if_neg (by rw [hl]; exact fun h => hne (List.length_eq_zero_iff.1 h))]
    have hsub : ∀ i, i < (Z04 gs g).length -> (Z04 gs g).getD i 0 ∈ Z04 gs g := fun i hi => by
     rw [Z2, Z3 hi]; exact Z4 hi
    have htab : ∀ i, i < (Z04 gs g).length -> Z0A (Z0b ls gs g) i = Z10 ls gs ((Z04 gs g).getD i 0) := fun i hi => by
     unfold Z0A Z0b
     rw [Z2, List.getElem?_map, Z2, Z3 hi]; rfl
    have hih : ∀ i, i < (Z0b ls gs g).length -> Z5A ls p (Z0c gs ((Z04 gs g).getD i 0)) <= ent (Z0A (Z0b ls gs g) i) (Z37 p (Z0c gs ((Z04 gs g).getD i 0))) := fun i hi => by
     rw [hl] at hi
     have hb := hF.below g hg _ (hsub i hi)
     rw [htab i hi]
     exact ih _ hb (by omega)
    have hposs : ZjH (Z0b ls gs g) (fun i => Z37 p (Z0c gs ((Z04 gs g).getD i 0))) (Z0b ls gs g).length := fun j hj => by
     have := hih ((Z0b ls gs g).length - 1 - j) (by omega)
     have h2 := Z3O hF p (Z0c gs ((Z04 gs g).getD ((Z0b ls gs g).length - 1 - j) 0))
     have hne' : ent (Z0A (Z0b ls gs g) ((Z0b ls gs g).length - 1 - j)) (Z37 p (Z0c gs ((Z04 gs g).getD ((Z0b ls gs g).length - 1 - j) 0))) ≠ -1 := by omega
     exact ⟨Z4E hne', hne'⟩
    obtain ⟨b1, b2⟩ := Z9y (Z48 hF hg) (fun i => Z37 p (Z0c gs ((Z04 gs g).getD i 0))) _ (Z1 _) hposs
    have b3 := ZiJ (ts := Z0b ls gs g) (q := fun i => Z37 p (Z0c gs ((Z04 gs g).getD i 0))) (s := fun i => Z5A ls p (Z0c gs ((Z04 gs g).getD i 0))) _ (Z1 _) hih
    have q1 := ZdU (Z0b ls gs g).length (fun i => Z37 p (Z0c gs ((Z04 gs g).getD i 0))) _ (Z1 _)
    have s1 := Zhe (Z0b ls gs g).length (fun i => Z5A ls p (Z0c gs ((Z04 gs g).getD i 0))) _ (Z1 _)
    rw [Nat.sub_self, hl] at q1 s1
    rw [Z12 (Z04 gs g) (fun h => Z37 p (Z0c gs h))] at q1
    rw [Z12 (Z04 gs g) (fun h => Z5A ls p (Z0c gs h))] at s1
    simp only [List.range_zero, List.map_nil, List.sum_nil] at q1 s1
    have hQs : Q = ((Z04 gs g).map (fun h => Z37 p (Z0c gs h))).sum := by
     rw [<- hQ, <- hperm.countP_eq, Z8N]
     congr 1
     refine List.map_congr_left (fun h hh => ?_)
     unfold Z37
     have := hF.sub g hg h hh
     rw [show (Z0c gs g).lvl - 1 = (Z0c gs h).lvl by omega]
    have hSs : s = ((Z04 gs g).map (fun h => Z5A ls p (Z0c gs h))).sum := by
     rw [<- hs, <- Zgg (hperm.map _), Zb8]
     congr 1
     refine List.map_congr_left (fun h hh => ?_)
     unfold Z5A
     have := hF.sub g hg h hh
     rw [show (Z0c gs g).lvl - 1 = (Z0c gs h).lvl by omega]
    rw [hl] at b2 b3
    rw [hce, hl]
    have e1 : sQ (Z04 gs g).length (fun i => Z37 p (Z0c gs ((Z04 gs g).getD i 0))) (Z04 gs g).length = Q := by omega
    have e2 : sS (fun i => Z5A ls p (Z0c gs ((Z04 gs g).getD i 0))) (Z04 gs g).length (Z04 gs g).length = s := by omega
    rw [e1] at b2
    rw [e2] at b3
    refine ⟨by omega, ?_⟩
    rw [hSs]
    generalize Z04 gs g = l
    induction l with
    | nil => simp
    | cons x r ih' =>
     rw [List.map_cons, List.sum_cons]
     have := Z3O hF p (Z0c gs x)
     have := ih'
     omega
  have := ZdI (Z16 ls gs g) (decide ((Z0c gs g).lvl = (ls.length : Int) - 1)) (Z2w ls gs g).1 (Z2w ls gs g).2 hc0 hgood.1 key.1 key.2 (t := takeN p (Z0c gs g)) (by omega) (hp.enough g hg) hlast
  rw [show Q - takeN p (Z0c gs g) = Z37 p (Z0c gs g) by omega] at this
  rw [hsplit]
  exact this
end Go.Proofs.YtlgajongmkhcnaaGreatDoor
namespace Go.Proofs.YtlgajongmkhcnaaGreatDoor
set_option linter.unusedVariables false
def Z6l (ls : List (Int × Int)) (gs : List PGrp) (tabs : List (List Int)) (g : Nat) (P : Int) : Nat × Int × List Nat :=
 Z1d (Z2w ls gs g).1 (Z2w ls gs g).2 P ((tabs.getD g []).getD P.toNat (-1)) ((Z04 gs g).map (fun h => tabs.getD h [])) (Z04 gs g).length
theorem Z3R (ls : List (Int × Int)) (gs : List PGrp) (tabs : List (List Int)) (k : Nat) : Z1z ls gs tabs (k + 1) = fun h => match (Z04 gs (gs.length - 1 - k)).idxOf? h with
 | some i => (((Z6l ls gs tabs (gs.length - 1 - k) (Z1z ls gs tabs k (gs.length - 1 - k))).2.2.getD i 0 : Nat) : Int)
 | none => Z1z ls gs tabs k h := rfl
theorem Z2E {gs : List PGrp} {g h : Nat} : h ∈ Z04 gs g ↔ h < gs.length /\ (Z0c gs h).up = (g : Int) := by
 unfold Z04 Z0c
 rw [List.mem_filter, List.mem_range, decide_eq_true_eq]
theorem Z1J (gs : List PGrp) (g : Nat) : (Z04 gs g).Nodup := by
 unfold Z04
 exact List.Nodup.sublist List.filter_sublist List.nodup_range
theorem Z4z {l : List Nat} {h : Nat} (hn : h ∉ l) : l.idxOf? h = none := by
 rw [List.idxOf?_eq_none_iff]; exact hn
theorem Z3A {l : List Nat} (hd : l.Nodup) {i : Nat} (hi : i < l.length) : l.idxOf? l[i] = some i := by
 induction l generalizing i with
 | nil => simp at hi
 | cons x r ih =>
  rw [List.nodup_cons] at hd
  cases i with
  | zero => simp [List.idxOf?_cons]
  | succ i =>
   have hi' : i < r.length := by simpa using hi
   have hne : x ≠ r[i] := fun e => hd.1 (by rw [e]; exact Z4 hi')
   rw [List.getElem_cons_succ, List.idxOf?_cons, ih hd.2 hi']
   simp [hne]
theorem Z4o (ls : List (Int × Int)) (gs : List PGrp) (tabs : List (List Int)) (h : Nat) (k : Nat) : ∀ m, k <= m -> (∀ j, k <= j -> j < m -> h ∉ Z04 gs (gs.length - 1 - j)) -> Z1z ls gs tabs m h = Z1z ls gs tabs k h
 | 0, hk, _ => by obtain rfl : k = 0 := (by omega); rfl
 | m + 1, hk, hno => by
  by_cases e : k = m + 1
  ·subst e; rfl
  ·have ih := Z4o ls gs tabs h k m (by omega) (fun j h1 h2 => hno j h1 (by omega))
   rw [Z3R]
   dsimp only
   rw [Z4z (hno m (by omega) (by omega))]
   exact ih
def Z0V (ls : List (Int × Int)) (gs : List PGrp) : Nat -> Int := Z1z ls gs (Z0y ls gs gs.length) gs.length
theorem Zgj {ls : List (Int × Int)} {gs : List PGrp} (hF : Forest ls gs) {g : Nat} (hg : g < gs.length) : Z1z ls gs (Z0y ls gs gs.length) (gs.length - 1 - g) g = Z0V ls gs g := by
 unfold Z0V
 refine (Z4o ls gs _ g (gs.length - 1 - g) gs.length (by omega) (fun j h1 h2 hm => ?_)).symm
 have := hF.below (gs.length - 1 - j) (by omega) g hm
 omega
theorem ZbT {ls : List (Int × Int)} {gs : List PGrp} (hF : Forest ls gs) {g : Nat} (hg : g < gs.length) {i : Nat} (hi : i < (Z04 gs g).length) :
 Z0V ls gs ((Z04 gs g).getD i 0) = (((Z6l ls gs (Z0y ls gs gs.length) g (Z0V ls gs g)).2.2.getD i 0 : Nat) : Int) := by
 have e : (Z04 gs g).getD i 0 = (Z04 gs g)[i] := by rw [Z2, Z3 hi]; rfl
 have hm := Z4 hi
 obtain ⟨_, hup⟩ := Z2E.1 hm
 have h1 : Z0V ls gs (Z04 gs g)[i] = Z1z ls gs (Z0y ls gs gs.length) (gs.length - 1 - g + 1) (Z04 gs g)[i] := by
  unfold Z0V
  refine Z4o ls gs _ _ (gs.length - 1 - g + 1) gs.length (by omega) (fun j h1 h2 hm2 => ?_)
  obtain ⟨_, hup2⟩ := Z2E.1 hm2
  rw [hup] at hup2
  omega
 rw [e, h1, Z3R]
 dsimp only
 rw [show gs.length - 1 - (gs.length - 1 - g) = g by omega, Z3A (Z1J gs g) hi, Zgj hF hg]
theorem ZbS (ls : List (Int × Int)) (gs : List PGrp) {g : Nat} (h : ∀ p, p < gs.length -> g ∉ Z04 gs p) : Z0V ls gs g = 0 := by
 unfold Z0V
 rw [Z4o ls gs _ g 0 gs.length (ZE _) (fun j h1 h2 => h _ (by omega))]
 rfl
end Go.Proofs.YtlgajongmkhcnaaGreatDoor
namespace Go.Proofs.YtlgajongmkhcnaaGreatDoor
set_option linter.unusedVariables false
def pN (ls : List (Int × Int)) (gs : List PGrp) (g : Nat) : Nat := (Z0V ls gs g).toNat
def qN (ls : List (Int × Int)) (gs : List PGrp) (g : Nat) : Nat := if (Z0c gs g).lvl = 0 then (Z0c gs g).items.length else ((Z04 gs g).map (pN ls gs)).sum
def sN (ls : List (Int × Int)) (gs : List PGrp) (g : Nat) : Int := if (Z0c gs g).lvl = 0 then 0 else ((Z04 gs g).map (fun h => ent (Z10 ls gs h) (pN ls gs h))).sum
structure PassOk (ls : List (Int × Int)) (gs : List PGrp) (g : Nat) : Prop where
 nn : 0 <= Z0V ls gs g
 poss : ent (Z10 ls gs g) (pN ls gs g) ≠ -1
structure PassEq (ls : List (Int × Int)) (gs : List PGrp) (g : Nat) : Prop where
 le : pN ls gs g <= qN ls gs g
 enough : qN ls gs g - pN ls gs g = 0 \/ (Z2w ls gs g).1 <= ((qN ls gs g - pN ls gs g : Nat) : Int)
 val : ent (Z10 ls gs g) (pN ls gs g) = sN ls gs g + ((qN ls gs g - pN ls gs g : Nat) : Int) * (Z2w ls gs g).2
theorem Z68 {mn cents : Int} {P c : Nat} (h : Z0h mn cents (P : Nat) (c : Nat) ≠ -1) : P <= c /\ (c - P = 0 \/ mn <= ((c - P : Nat) : Int)) /\ Z0h mn cents (P : Nat) (c : Nat) = ((c - P : Nat) : Int) * cents := by
 unfold Z0h at h ⊢
 split at h
 ·exact absurd rfl h
 ·rename_i hn
  rw [if_neg hn]
  refine ⟨by omega, by omega, ?_⟩
  congr 1; omega
theorem Z9Y (n k : Nat) : ent (List.replicate n (-1) ++ [0]) k ≠ -1 -> k = n /\ ent (List.replicate n (-1) ++ [0]) k = 0 := by
 intro h
 unfold ent at h ⊢
 rw [Z2] at h ⊢
 by_cases h1 : k < n
 ·rw [List.getElem?_append_left (by simpa using h1), List.getElem?_replicate, if_pos h1] at h
  exact absurd rfl h
 ·by_cases h2 : k = n
  ·subst h2
   rw [List.getElem?_append_right (by simp)]
   simp
  ·rw [List.getElem?_eq_none (by simp; omega)] at h
   exact absurd rfl h
theorem Z2C {ls : List (Int × Int)} {gs : List PGrp} (hF : Forest ls gs) {g : Nat} (hg : g < gs.length) (hp : PassOk ls gs g) :
 PassEq ls gs g /\ (0 < (Z0c gs g).lvl -> ∀ h ∈ Z04 gs g, PassOk ls gs h) := by
 obtain ⟨l0, l1⟩ := hF.lvl g hg
 have hc0 := Z3y hF hg
 have hco := Zbe hF hg (Z48 hF hg)
 have hlt := Z4E hp.poss
 have htab := Z47 hF hg
 have hposs := hp.poss
 rw [htab] at hlt hposs
 rw [Z61] at hlt
 have hent := Z6V (Z16 ls gs g) (decide ((Z0c gs g).lvl = (ls.length : Int) - 1)) (Z2w ls gs g).1 (Z2w ls gs g).2 hlt
 rw [hent] at hposs
 obtain ⟨j, hj, a1, a2, a3⟩ := (Z72 (Z16 ls gs g) (Z2w ls gs g).1 (Z2w ls gs g).2 (pN ls gs g) hco.1 hc0 _).resolve_left hposs
 have hval : ent (Z10 ls gs g) (pN ls gs g) = ent (Z16 ls gs g) (pN ls gs g + j) + Z0h (Z2w ls gs g).1 (Z2w ls gs g).2 (pN ls gs g : Nat) (pN ls gs g + j : Nat) := by rw [htab, hent, a3]
 by_cases h0 : (Z0c gs g).lvl = 0
 ·have hce : Z16 ls gs g = List.replicate (Z0c gs g).items.length (-1) ++ [0] := by unfold Z16 Z1S; rw [if_pos h0]
  rw [hce] at a2 hval
  obtain ⟨e1, e2⟩ := Z9Y _ _ a2
  have hq : qN ls gs g = pN ls gs g + j := by unfold qN; rw [if_pos h0]; exact e1.symm
  obtain ⟨b1, b2, b3⟩ := Z68 a1
  refine ⟨⟨by omega, by rw [hq]; exact b2, ?_⟩, fun h => by omega⟩
  rw [hval, e2, b3, hq]
  unfold sN
  rw [if_pos h0]
 ·have hpos : 0 < (Z0c gs g).lvl := by omega
  obtain ⟨hperm, hne⟩ := hF.parts g hg hpos
  have hl : (Z0b ls gs g).length = (Z04 gs g).length := by unfold Z0b; rw [Z7]
  have hce : Z16 ls gs g = Z05 (Z0b ls gs g) (Z0b ls gs g).length := by
   unfold Z16 Z1S
   rw [if_neg h0, if_neg (by rw [hl]; exact fun h => hne (List.length_eq_zero_iff.1 h))]
  have hPc : Z0V ls gs g = (pN ls gs g : Nat) := by unfold pN; have := hp.nn; omega
  have hdiv := Zfa (mn := (Z2w ls gs g).1) (cents := (Z2w ls gs g).2) (P := Z0V ls gs g) (most := ent (Z10 ls gs g) (pN ls gs g)) (Z48 hF hg)
   ⟨pN ls gs g + j, by rw [<- hce]; exact a2, by rw [hPc]; exact a1, by rw [<- hce, hPc]; exact hval.symm⟩ (Z0b ls gs g).length (Z1 _)
  have hout : Z1d (Z2w ls gs g).1 (Z2w ls gs g).2 (Z0V ls gs g) (ent (Z10 ls gs g) (pN ls gs g)) (Z0b ls gs g) (Z0b ls gs g).length = Z6l ls gs (Z0y ls gs gs.length) g (Z0V ls gs g) := by
   unfold Z6l
   rw [hl]
   rfl
  rw [hout] at hdiv
  obtain ⟨d1, d2, d3, d4, r, d5, d6, d7⟩ := hdiv
  have hr0 : r = 0 := by
   rw [Nat.sub_self] at d5
   have := Z4E d5
   simpa [Z05] using this
  subst hr0
  rw [Nat.sub_self] at d5 d7
  have hz : ent (Z05 (Z0b ls gs g) 0) 0 = 0 := rfl
  rw [hz] at d7
  rw [Nat.add_zero] at d6 d7
  rw [hl] at d1 d3 d4
  have hpn : ∀ i, i < (Z04 gs g).length -> pN ls gs ((Z04 gs g).getD i 0) = (Z6l ls gs (Z0y ls gs gs.length) g (Z0V ls gs g)).2.2.getD i 0 := fun i hi => by
   unfold pN; rw [ZbT hF hg hi]; rfl
  have htabs : ∀ i, i < (Z04 gs g).length -> Z0A (Z0b ls gs g) i = Z10 ls gs ((Z04 gs g).getD i 0) := fun i hi => by
   unfold Z0A Z0b
   rw [Z2, List.getElem?_map, Z2, Z3 hi]; rfl
  have hcome : (Z6l ls gs (Z0y ls gs gs.length) g (Z0V ls gs g)).1 = qN ls gs g := by
   rw [d2]
   unfold qN
   rw [if_neg h0, <- Z12 (Z04 gs g) (pN ls gs)]
   have e : (Z6l ls gs (Z0y ls gs gs.length) g (Z0V ls gs g)).2.2 = (List.range (Z04 gs g).length).map (fun i => (Z6l ls gs (Z0y ls gs gs.length) g (Z0V ls gs g)).2.2.getD i 0) := by
    rw [<- d1]
    have := Z12 (Z6l ls gs (Z0y ls gs gs.length) g (Z0V ls gs g)).2.2 (fun x => x)
    rw [this]; simp
   rw [e]
   congr 1
   exact (List.map_congr_left (fun i hi => hpn i (List.mem_range.1 hi))).symm
  have hsave : (Z6l ls gs (Z0y ls gs gs.length) g (Z0V ls gs g)).2.1 = sN ls gs g := by
   rw [d4]
   unfold sN
   rw [if_neg h0, <- Z12 (Z04 gs g) (fun h => ent (Z10 ls gs h) (pN ls gs h))]
   congr 1
   refine List.map_congr_left (fun i hi => ?_)
   have hi' := List.mem_range.1 hi
   rw [htabs i hi', hpn i hi']
  rw [hcome] at d6 d7
  rw [hsave] at d7
  rw [hPc] at d6 d7
  obtain ⟨b1, b2, b3⟩ := Z68 d6
  refine ⟨⟨b1, b2, ?_⟩, fun _ h hh => ?_⟩
  ·rw [<- d7, b3]; omega
  ·obtain ⟨i, hi, rfl⟩ := List.mem_iff_getElem.1 hh
   have e : (Z04 gs g).getD i 0 = (Z04 gs g)[i] := by rw [Z2, Z3 hi]; rfl
   refine ⟨?_, ?_⟩
   ·rw [<- e, ZbT hF hg hi]; omega
   ·have := d3 i hi
    rw [htabs i hi, <- hpn i hi, e] at this
    exact this
end Go.Proofs.YtlgajongmkhcnaaGreatDoor
namespace Go.Proofs.YtlgajongmkhcnaaGreatDoor
set_option linter.unusedVariables false
theorem ZbU {ls : List (Int × Int)} {gs : List PGrp} (hF : Forest ls gs) (htop : ∀ g, g < gs.length -> (∀ p, p < gs.length -> g ∉ Z04 gs p) -> ent (Z10 ls gs g) 0 ≠ -1) : ∀ m g, gs.length - g <= m -> g < gs.length -> PassOk ls gs g
 | 0, g, h, hg => by omega
 | m + 1, g, h, hg => by
  by_cases hex : ∃ p, p < gs.length /\ g ∈ Z04 gs p
  ·obtain ⟨p, hp, hgp⟩ := hex
   have hlt := hF.below p hp g hgp
   have ih := ZbU hF htop m p (by omega) hp
   have hs := hF.sub p hp g hgp
   have h0 := (hF.lvl g hg).1
   exact (Z2C hF hp ih).2 (by omega) g hgp
  ·have hno : ∀ p, p < gs.length -> g ∉ Z04 gs p := fun p hp hm => hex ⟨p, hp, hm⟩
   have e := ZbS ls gs hno
   refine ⟨by rw [e]; exact Int.le_refl _, ?_⟩
   unfold pN
   rw [e]
   exact htop g hg hno
theorem Z6H (x : Int) : ∀ l : List Int, (Zhl x l).Perm (x :: l)
 | [] => List.Perm.refl _
 | y :: r => by
  unfold Zhl
  split
  ·exact List.Perm.refl _
  ·exact ((Z6H x r).cons y).trans (List.Perm.swap x y r)
theorem Z0H : ∀ l : List Int, (Z1f l).Perm l
 | [] => List.Perm.refl _
 | x :: l => by
  show (Zhl x (Z1f l)).Perm (x :: l)
  exact (Z6H x _).trans ((Z0H l).cons x)
theorem Z1m (gs : List PGrp) (f : Nat -> Int) (k : Nat) (p : List Int) : Z0F gs f (k + 1) p =
 (((Z1f ((if (Z0c gs k).lvl = 0 then (Z0c gs k).items else []) ++ (Z04 gs k).flatMap (fun h => (Z0F gs f k p).2.getD h []))).take ((Z1f ((if (Z0c gs k).lvl = 0 then (Z0c gs k).items else []) ++ (Z04 gs k).flatMap (fun h => (Z0F gs f k p).2.getD h []))).length - (f k).toNat)).foldl (fun q i => q.set i.toNat (Z0c gs k).lvl) (Z0F gs f k p).1,
  (Z0F gs f k p).2 ++ [(Z1f ((if (Z0c gs k).lvl = 0 then (Z0c gs k).items else []) ++ (Z04 gs k).flatMap (fun h => (Z0F gs f k p).2.getD h []))).drop ((Z1f ((if (Z0c gs k).lvl = 0 then (Z0c gs k).items else []) ++ (Z04 gs k).flatMap (fun h => (Z0F gs f k p).2.getD h []))).length - (f k).toNat)]) := rfl
theorem Z5K (gs : List PGrp) (f : Nat -> Int) (p : List Int) : ∀ k, (Z0F gs f k p).2.length = k
 | 0 => rfl
 | k + 1 => by rw [Z1m]; simp [Z5K gs f p k]
def Z0l (gs : List PGrp) (f : Nat -> Int) (g : Nat) : List Int := (Z0F gs f (g + 1) []).2.getD g []
theorem Z4n (gs : List PGrp) (f : Nat -> Int) (p p' : List Int) : ∀ k, (Z0F gs f k p).2 = (Z0F gs f k p').2
 | 0 => rfl
 | k + 1 => by rw [Z1m, Z1m, Z4n gs f p p' k]
theorem Z7H (gs : List PGrp) (f : Nat -> Int) (p : List Int) : ∀ k g, g < k -> (Z0F gs f k p).2.getD g [] = Z0l gs f g
 | 0, g, h => absurd h (Nat.not_lt_zero _)
 | k + 1, g, h => by
  have hl := Z5K gs f p k
  by_cases e : g = k
  ·subst e
   unfold Z0l
   rw [Z4n gs f p [] (g + 1)]
  ·rw [<- Z7H gs f p k g (by omega), Z1m]
   simp only [Z2]
   rw [List.getElem?_append_left (by omega)]
def Z1k (gs : List PGrp) (f : Nat -> Int) (g : Nat) : List Int := Z1f ((if (Z0c gs g).lvl = 0 then (Z0c gs g).items else []) ++ (Z04 gs g).flatMap (Z0l gs f))
def Z36 (gs : List PGrp) (f : Nat -> Int) (g : Nat) : List Int := (Z1k gs f g).take ((Z1k gs f g).length - (f g).toNat)
theorem Zfh {ls : List (Int × Int)} {gs : List PGrp} (hF : Forest ls gs) (f : Nat -> Int) (p : List Int) {g : Nat} (hg : g < gs.length) :
 Z1f ((if (Z0c gs g).lvl = 0 then (Z0c gs g).items else []) ++ (Z04 gs g).flatMap (fun h => (Z0F gs f g p).2.getD h [])) = Z1k gs f g := by
 unfold Z1k
 congr 2
 have : ∀ l : List Nat, (∀ h ∈ l, h < g) -> l.flatMap (fun h => (Z0F gs f g p).2.getD h []) = l.flatMap (Z0l gs f) := fun l => by
  induction l with
  | nil => intro _; rfl
  | cons x r ih =>
   intro hl
   rw [List.flatMap_cons, List.flatMap_cons, ih (fun h hh => hl h (List.mem_cons_of_mem _ hh)), Z7H gs f p g x (hl x List.mem_cons_self)]
 exact this _ (fun h hh => hF.below g hg h hh)
theorem Z3h {ls : List (Int × Int)} {gs : List PGrp} (hF : Forest ls gs) (f : Nat -> Int) {g : Nat} (hg : g < gs.length) : Z0l gs f g = (Z1k gs f g).drop ((Z1k gs f g).length - (f g).toNat) := by
 unfold Z0l
 rw [Z1m, Zfh hF f [] hg]
 simp only [Z2]
 rw [List.getElem?_append_right (by rw [Z5K]; exact Z1 _), Z5K, Nat.sub_self]
 rfl
theorem Z9m {ls : List (Int × Int)} {gs : List PGrp} (hF : Forest ls gs) (f : Nat -> Int) (p : List Int) {g : Nat} (hg : g < gs.length) : (Z0F gs f (g + 1) p).1 = (Z36 gs f g).foldl (fun q i => q.set i.toNat (Z0c gs g).lvl) (Z0F gs f g p).1 := by
 rw [Z1m, Zfh hF f p hg]; rfl
theorem Z2y (gs : List PGrp) {ls : List (Int × Int)} (hF : Forest ls gs) (f : Nat -> Int) {g : Nat} (hg : g < gs.length) : Z36 gs f g ++ Z0l gs f g = Z1k gs f g := by
 rw [Z3h hF f hg]
 exact List.take_append_drop _ _
theorem Zcf {ls : List (Int × Int)} {gs : List PGrp} (hF : Forest ls gs) (hp : ∀ g, g < gs.length -> PassOk ls gs g) : ∀ g, g < gs.length -> (Z1k gs (Z0V ls gs) g).length = qN ls gs g /\ (Z0l gs (Z0V ls gs) g).length = pN ls gs g := by
 intro g
 induction g using Nat.strongRecOn with
 | ind g ih =>
  intro hg
  have hle := (Z2C hF hg (hp g hg)).1.le
  have h1 : (Z1k gs (Z0V ls gs) g).length = qN ls gs g := by
   unfold Z1k
   rw [(Z0H _).length_eq]
   by_cases h0 : (Z0c gs g).lvl = 0
   ·rw [if_pos h0]
    unfold qN
    rw [if_pos h0]
    have hnil : Z04 gs g = [] := by
     rw [List.eq_nil_iff_forall_not_mem]
     intro h hh
     have := hF.sub g hg h hh
     have h2 := (hF.lvl h (by have := hF.below g hg h hh; omega)).1
     omega
    rw [hnil]; simp
   ·rw [if_neg h0]
    unfold qN
    rw [if_neg h0, List.nil_append, List.length_flatMap]
    congr 1
    refine List.map_congr_left (fun h hh => ?_)
    have hb := hF.below g hg h hh
    exact (ih h hb (by omega)).2
  refine ⟨h1, ?_⟩
  rw [Z3h hF _ hg, List.length_drop, h1]
  show qN ls gs g - (qN ls gs g - pN ls gs g) = _
  omega
end Go.Proofs.YtlgajongmkhcnaaGreatDoor
namespace Go.Proofs.YtlgajongmkhcnaaGreatDoor
set_option linter.unusedVariables false
structure Forest2 (ls : List (Int × Int)) (gs : List PGrp) (n : Nat) : Prop extends Forest ls gs where
 nodup : ∀ g, g < gs.length -> (Z0c gs g).items.Nodup
 alone : ∀ g, g < gs.length -> ∀ g', g' < gs.length -> (Z0c gs g).lvl = (Z0c gs g').lvl -> ∀ i, i ∈ (Z0c gs g).items -> i ∈ (Z0c gs g').items -> g = g'
 range : ∀ g, g < gs.length -> ∀ i ∈ (Z0c gs g).items, 0 <= i /\ i < (n : Int)
variable {ls : List (Int × Int)} {gs : List PGrp} {n : Nat} {f : Nat -> Int}
theorem Z2B (hF : Forest2 ls gs n) {g : Nat} (hg : g < gs.length) {i : Int} (h : i ∈ Z0l gs f g) : i ∈ Z1k gs f g := by
 rw [<- Z2y gs hF.toForest f hg]; exact List.mem_append_right _ h
theorem Z3t (hF : Forest2 ls gs n) {g : Nat} (hg : g < gs.length) {i : Int} (h : i ∈ Z36 gs f g) : i ∈ Z1k gs f g := by
 rw [<- Z2y gs hF.toForest f hg]; exact List.mem_append_left _ h
theorem Za2 {g : Nat} {i : Int} (h : i ∈ Z1k gs f g) : ((Z0c gs g).lvl = 0 /\ i ∈ (Z0c gs g).items) \/ ∃ h ∈ Z04 gs g, i ∈ Z0l gs f h := by
 unfold Z1k at h
 rw [(Z0H _).mem_iff, ZG] at h
 rcases h with h | h
 ·by_cases h0 : (Z0c gs g).lvl = 0
  ·rw [if_pos h0] at h; exact .inl ⟨h0, h⟩
  ·rw [if_neg h0] at h; cases h
 ·obtain ⟨x, hx, hi⟩ := List.mem_flatMap.1 h
  exact .inr ⟨x, hx, hi⟩
theorem Z1B (hF : Forest2 ls gs n) : ∀ g, g < gs.length -> ∀ i ∈ Z1k gs f g, i ∈ (Z0c gs g).items := by
 intro g
 induction g using Nat.strongRecOn with
 | ind g ih =>
  intro hg i hi
  rcases Za2 hi with ⟨_, h⟩ | ⟨h, hh, hp⟩
  ·exact h
  ·have hb := hF.below g hg h hh
   have hs := hF.sub g hg h hh
   have hl := (hF.lvl h (by omega)).1
   have := ih h hb (by omega) i (Z2B hF (by omega) hp)
   exact (hF.parts g hg (by omega)).1.mem_iff.1 (List.mem_flatMap.2 ⟨h, hh, this⟩)
theorem Z4C {l : List Nat} {F : Nat -> List Int} (hl : l.Nodup) (h1 : ∀ h ∈ l, (F h).Nodup) (h2 : ∀ h ∈ l, ∀ h' ∈ l, ∀ i, i ∈ F h -> i ∈ F h' -> h = h') : (l.flatMap F).Nodup := by
 induction l with
 | nil => simp
 | cons x r ih =>
  rw [List.nodup_cons] at hl
  rw [List.flatMap_cons, List.nodup_append]
  refine ⟨h1 x List.mem_cons_self, ih hl.2 (fun h hh => h1 h (List.mem_cons_of_mem _ hh)) (fun h hh h' hh' => h2 h (List.mem_cons_of_mem _ hh) h' (List.mem_cons_of_mem _ hh')), fun a ha b hb e => ?_⟩
  subst e
  obtain ⟨y, hy, hy'⟩ := List.mem_flatMap.1 hb
  have := h2 x List.mem_cons_self y (List.mem_cons_of_mem _ hy) a ha hy'
  subst this
  exact hl.1 hy
theorem Z87 (hF : Forest2 ls gs n) : ∀ g, g < gs.length -> (Z1k gs f g).Nodup := by
 intro g
 induction g using Nat.strongRecOn with
 | ind g ih =>
  intro hg
  unfold Z1k
  rw [(Z0H _).nodup_iff]
  by_cases h0 : (Z0c gs g).lvl = 0
  ·rw [if_pos h0]
   have hnil : Z04 gs g = [] := by
    rw [List.eq_nil_iff_forall_not_mem]
    intro h hh
    have := hF.sub g hg h hh
    have h2 := (hF.lvl h (by have := hF.below g hg h hh; omega)).1
    omega
   rw [hnil]
   simpa using hF.nodup g hg
  ·rw [if_neg h0, List.nil_append]
   refine Z4C (Z1J gs g) (fun h hh => ?_) (fun h hh h' hh' i hi hi' => ?_)
   ·have hb := hF.below g hg h hh
    rw [Z3h hF.toForest f (by omega)]
    exact (ih h hb (by omega)).sublist (List.drop_sublist _ _)
   ·have hb := hF.below g hg h hh
    have hb' := hF.below g hg h' hh'
    have hs := hF.sub g hg h hh
    have hs' := hF.sub g hg h' hh'
    exact hF.alone h (by omega) h' (by omega) (by omega) i (Z1B hF h (by omega) i (Z2B hF (by omega) hi)) (Z1B hF h' (by omega) i (Z2B hF (by omega) hi'))
theorem Z28 (hF : Forest2 ls gs n) {g : Nat} (hg : g < gs.length) {i : Int} (h1 : i ∈ Z36 gs f g) (h2 : i ∈ Z0l gs f g) : False := by
 have := Z87 (f := f) hF g hg
 rw [<- Z2y gs hF.toForest f hg, List.nodup_append] at this
 exact this.2.2 i h1 i h2 rfl
theorem Zfp (hF : Forest2 ls gs n) : ∀ g', g' < gs.length -> ∀ i ∈ Z1k gs f g', ∀ g, g < gs.length -> (Z0c gs g).lvl < (Z0c gs g').lvl -> i ∈ (Z0c gs g).items -> i ∈ Z0l gs f g := by
 intro g'
 induction g' using Nat.strongRecOn with
 | ind g' ih =>
  intro hg' i hi g hg hlt hig
  rcases Za2 hi with ⟨h0, _⟩ | ⟨h, hh, hp⟩
  ·have := (hF.lvl g hg).1
   omega
  ·have hb := hF.below g' hg' h hh
   have hs := hF.sub g' hg' h hh
   have hc := Z2B (f := f) hF (by omega) hp
   by_cases e : (Z0c gs g).lvl = (Z0c gs h).lvl
   ·have := hF.alone g hg h (by omega) e i hig (Z1B hF h (by omega) i hc)
    subst this
    exact hp
   ·exact ih h hb (by omega) i hc g hg (by omega) hig
theorem Z7s (hF : Forest2 ls gs n) {g g' : Nat} (hg : g < gs.length) (hg' : g' < gs.length) {i : Int} (h1 : i ∈ Z36 gs f g) (h2 : i ∈ Z36 gs f g') : g = g' := by
 have c1 := Z3t hF hg h1
 have c2 := Z3t hF hg' h2
 have m1 := Z1B hF g hg i c1
 have m2 := Z1B hF g' hg' i c2
 rcases Int.lt_trichotomy (Z0c gs g).lvl (Z0c gs g').lvl with h | h | h
 ·exact (Z28 hF hg h1 (Zfp hF g' hg' i c2 g hg h m1)).elim
 ·exact hF.alone g hg g' hg' h i m1 m2
 ·exact (Z28 hF hg' h2 (Zfp hF g hg i c1 g' hg' h m2)).elim
theorem Zc9 (x : Int) : ∀ (l : List Int) (q : List Int), (∀ i ∈ l, 0 <= i) -> (l.foldl (fun q i => q.set i.toNat x) q).length = q.length /\ ∀ i : Int, 0 <= i -> i.toNat < q.length -> (l.foldl (fun q i => q.set i.toNat x) q).getD i.toNat 0 = if i ∈ l then x else q.getD i.toNat 0
 | [], q, _ => ⟨rfl, fun i _ _ => by simp⟩
 | y :: l, q, h => by
  obtain ⟨a, b⟩ := Zc9 x l (q.set y.toNat x) (fun i hi => h i (List.mem_cons_of_mem _ hi))
  rw [List.length_set] at a b
  refine ⟨a, fun i hi hl => ?_⟩
  rw [List.foldl_cons, b i hi hl]
  have hy := h y List.mem_cons_self
  by_cases h1 : i ∈ l
  ·rw [if_pos h1, if_pos (List.mem_cons_of_mem _ h1)]
  ·rw [if_neg h1]
   by_cases h2 : i = y
   ·subst h2
    rw [if_pos List.mem_cons_self, Z2, List.getElem?_set_self hl]
    rfl
   ·rw [if_neg (fun hm => by rcases List.mem_cons.1 hm with e | e; exact h2 e; exact h1 e)]
    rw [Z2, List.getElem?_set_ne (by omega), <- Z2]
theorem Ze8 (hF : Forest2 ls gs n) (p : List Int) (hpl : p.length = n) : ∀ k, k <= gs.length -> (Z0F gs f k p).1.length = n /\ ∀ i : Int, 0 <= i -> i < (n : Int) ->
 ((∀ g, g < k -> i ∉ Z36 gs f g) -> (Z0F gs f k p).1.getD i.toNat 0 = p.getD i.toNat 0) /\ ∀ g, g < k -> i ∈ Z36 gs f g -> (Z0F gs f k p).1.getD i.toNat 0 = (Z0c gs g).lvl
 | 0, _ => ⟨hpl, fun i _ _ => ⟨fun _ => rfl, fun g h => absurd h (Nat.not_lt_zero _)⟩⟩
 | k + 1, hk => by
  obtain ⟨a, b⟩ := Ze8 hF p hpl k (by omega)
  have hnn : ∀ i ∈ Z36 gs f k, 0 <= i := fun i hi => (hF.range k (by omega) i (Z1B hF k (by omega) i (Z3t hF (by omega) hi))).1
  obtain ⟨c, d⟩ := Zc9 (Z0c gs k).lvl (Z36 gs f k) (Z0F gs f k p).1 hnn
  rw [Z9m hF.toForest f p (by omega)]
  refine ⟨by rw [c, a], fun i h0 h1 => ?_⟩
  have hd := d i h0 (by rw [a]; omega)
  obtain ⟨b1, b2⟩ := b i h0 h1
  refine ⟨fun hno => ?_, fun g hg hi => ?_⟩
  ·rw [hd, if_neg (hno k (by omega))]
   exact b1 (fun g hg => hno g (by omega))
  ·by_cases e : g = k
   ·subst e; rw [hd, if_pos hi]
   ·rw [hd, if_neg (fun hk' => e (Z7s hF (by omega) (by omega) hi hk'))]
    exact b2 g (by omega) hi
end Go.Proofs.YtlgajongmkhcnaaGreatDoor
namespace Go.Proofs.YtlgajongmkhcnaaGreatDoor
set_option linter.unusedVariables false
variable {ls : List (Int × Int)} {gs : List PGrp} {n : Nat}
def Z6i (ls : List (Int × Int)) (gs : List PGrp) (n : Nat) (i : Int) : Int := (Zga ls gs n).getD i.toNat 0
theorem Z8o (ls : List (Int × Int)) (gs : List PGrp) (n : Nat) : Zga ls gs n = (Z0F gs (Z0V ls gs) gs.length (List.replicate n 0)).1 := rfl
theorem Z6h (hF : Forest2 ls gs n) {g : Nat} (hg : g < gs.length) {i : Int} (h : i ∈ Z36 gs (Z0V ls gs) g) : Z6i ls gs n i = (Z0c gs g).lvl := by
 have hr := hF.range g hg i (Z1B hF g hg i (Z3t hF hg h))
 unfold Z6i
 rw [Z8o]
 exact ((Ze8 hF (List.replicate n 0) (by simp) gs.length (Z1 _)).2 i hr.1 hr.2).2 g hg h
theorem Z86 (hF : Forest2 ls gs n) {f : Nat -> Int} {g : Nat} (hg : g < gs.length) {i : Int} (h : i ∈ Z1k gs f g) : i ∈ Z36 gs f g \/ i ∈ Z0l gs f g := by
 rw [<- Z2y gs hF.toForest f hg] at h
 exact ZG.1 h
theorem ZiH (hF : Forest2 ls gs n) {f : Nat -> Int} : ∀ g, g < gs.length -> ∀ i ∈ (Z0c gs g).items, (∃ g', g' < gs.length /\ (Z0c gs g').lvl <= (Z0c gs g).lvl /\ i ∈ Z36 gs f g') \/ i ∈ Z0l gs f g := by
 intro g
 induction g using Nat.strongRecOn with
 | ind g ih =>
  intro hg i hi
  have hcome : i ∈ Z1k gs f g -> (∃ g', g' < gs.length /\ (Z0c gs g').lvl <= (Z0c gs g).lvl /\ i ∈ Z36 gs f g') \/ i ∈ Z0l gs f g := fun hc => by
   rcases Z86 hF hg hc with h | h
   ·exact .inl ⟨g, hg, Int.le_refl _, h⟩
   ·exact .inr h
  by_cases h0 : (Z0c gs g).lvl = 0
  ·refine hcome ?_
   unfold Z1k
   rw [(Z0H _).mem_iff, ZG, if_pos h0]
   exact .inl hi
  ·have hpos : 0 < (Z0c gs g).lvl := by have := (hF.lvl g hg).1; omega
   obtain ⟨h, hh, hih⟩ := List.mem_flatMap.1 ((hF.parts g hg hpos).1.mem_iff.2 hi)
   have hb := hF.below g hg h hh
   have hs := hF.sub g hg h hh
   rcases ih h hb (by omega) i hih with ⟨g', h1, h2, h3⟩ | hp
   ·exact .inl ⟨g', h1, by omega, h3⟩
   ·refine hcome ?_
    unfold Z1k
    rw [(Z0H _).mem_iff, ZG]
    exact .inr (List.mem_flatMap.2 ⟨h, hh, hp⟩)
theorem Z3g (hF : Forest2 ls gs n) : ∀ m g, gs.length - g <= m -> g < gs.length -> ∀ i ∈ Z0l gs (Z0V ls gs) g, ∃ g', g' < gs.length /\ (Z0c gs g).lvl < (Z0c gs g').lvl /\ i ∈ Z36 gs (Z0V ls gs) g'
 | 0, g, h, hg, i, hi => by omega
 | m + 1, g, h, hg, i, hi => by
  by_cases hex : ∃ p, p < gs.length /\ g ∈ Z04 gs p
  ·obtain ⟨p, hp, hgp⟩ := hex
   have hlt := hF.below p hp g hgp
   have hs := hF.sub p hp g hgp
   have hc : i ∈ Z1k gs (Z0V ls gs) p := by
    unfold Z1k
    rw [(Z0H _).mem_iff, ZG]
    exact .inr (List.mem_flatMap.2 ⟨g, hgp, hi⟩)
   rcases Z86 hF hp hc with h1 | h1
   ·exact ⟨p, hp, by omega, h1⟩
   ·obtain ⟨g', a, b, c⟩ := Z3g hF m p (by omega) hp i h1
    exact ⟨g', a, by omega, c⟩
  ·have e := ZbS ls gs (fun p hp hm => hex ⟨p, hp, hm⟩)
   rw [Z3h hF.toForest _ hg, e] at hi
   simp at hi
theorem Z8n (hF : Forest2 ls gs n) {g : Nat} (hg : g < gs.length) {i : Int} (hi : i ∈ (Z0c gs g).items) :
 (Z6i ls gs n i = (Z0c gs g).lvl ↔ i ∈ Z36 gs (Z0V ls gs) g) /\ ((Z0c gs g).lvl < Z6i ls gs n i ↔ i ∈ Z0l gs (Z0V ls gs) g) /\ 0 <= Z6i ls gs n i /\ Z6i ls gs n i < (ls.length : Int) := by
 rcases ZiH (f := Z0V ls gs) hF g hg i hi with ⟨g', h1, h2, h3⟩ | hp
 ·have e := Z6h hF h1 h3
  have hl := hF.lvl g' h1
  have hnp : i ∉ Z0l gs (Z0V ls gs) g := fun hp => by
   obtain ⟨g'', a, b, c⟩ := Z3g hF gs.length g (by omega) hg i hp
   have := Z7s hF h1 a h3 c
   subst this
   omega
  refine ⟨⟨fun h => ?_, fun h => Z6h hF hg h⟩, ⟨fun h => by omega, fun h => absurd h hnp⟩, by omega, by omega⟩
  have hm := Z1B hF g' h1 i (Z3t hF h1 h3)
  have := hF.alone g' h1 g hg (by omega) i hm hi
  subst this
  exact h3
 ·obtain ⟨g'', a, b, c⟩ := Z3g hF gs.length g (by omega) hg i hp
  have e := Z6h hF a c
  have hl := hF.lvl g'' a
  have hl0 := hF.lvl g hg
  refine ⟨⟨fun h => by omega, fun h => (Z28 hF hg h hp).elim⟩, ⟨fun _ => hp, fun _ => by omega⟩, by omega, by omega⟩
theorem Za1 {l t : List Int} (hl : l.Nodup) (ht : t.Nodup) (hs : ∀ i ∈ t, i ∈ l) (p : Int -> Bool) (hp : ∀ i ∈ l, p i = true ↔ i ∈ t) : l.countP p = t.length := by
 rw [List.countP_eq_length_filter]
 refine List.Perm.length_eq ?_
 rw [List.perm_ext_iff_of_nodup (hl.filter _) ht]
 intro i
 rw [List.mem_filter]
 exact ⟨fun h => (hp i h.1).1 h.2, fun h => ⟨hs i h, (hp i (hs i h)).2 h⟩⟩
theorem Zax (hF : Forest2 ls gs n) (hp : ∀ g, g < gs.length -> PassOk ls gs g) {g : Nat} (hg : g < gs.length) :
 takeN (Z6i ls gs n) (Z0c gs g) = qN ls gs g - pN ls gs g /\ Z37 (Z6i ls gs n) (Z0c gs g) = pN ls gs g := by
 obtain ⟨c1, c2⟩ := Zcf hF.toForest hp g hg
 have hle := (Z2C hF.toForest hg (hp g hg)).1.le
 have hnd := Z87 (f := Z0V ls gs) hF g hg
 have hsplit := Z2y gs hF.toForest (Z0V ls gs) hg
 have hlen : (Z36 gs (Z0V ls gs) g).length = qN ls gs g - pN ls gs g := by
  have := congrArg List.length hsplit
  rw [ZC, c1, c2] at this
  omega
 rw [<- hsplit, List.nodup_append] at hnd
 constructor
 ·rw [<- hlen]
  exact Za1 (hF.nodup g hg) hnd.1 (fun i hi => Z1B hF g hg i (Z3t hF hg hi)) _ (fun i hi => by rw [decide_eq_true_eq]; exact (Z8n hF hg hi).1)
 ·rw [<- c2]
  exact Za1 (hF.nodup g hg) hnd.2.1 (fun i hi => Z1B hF g hg i (Z2B hF hg hi)) _ (fun i hi => by rw [decide_eq_true_eq]; exact (Z8n hF hg hi).2.1)
theorem ZhO (hF : Forest2 ls gs n) (hp : ∀ g, g < gs.length -> PassOk ls gs g) : PlanOk ls gs (Z6i ls gs n) :=
 ⟨fun g hg i hi => ⟨(Z8n hF hg hi).2.2.1, (Z8n hF hg hi).2.2.2⟩, fun g hg => by
  have h := (Z2C hF.toForest hg (hp g hg)).1.enough
  have := (Zax hF hp hg).1
  rw [<- this] at h
  exact h⟩
end Go.Proofs.YtlgajongmkhcnaaGreatDoor
namespace Go.Proofs.YtlgajongmkhcnaaGreatDoor
set_option linter.unusedVariables false
structure Forest3 (ls : List (Int × Int)) (gs : List PGrp) (n : Nat) : Prop extends Forest2 ls gs n where
 tops : ∀ g, g < gs.length -> (∀ p, p < gs.length -> g ∉ Z04 gs p) -> (Z0c gs g).lvl = (ls.length : Int) - 1
 last : ∀ g, g < gs.length -> (Z0c gs g).lvl = (ls.length : Int) - 1 -> (Z2w ls gs g).1 <= 0
 cover : ∀ i : Int, 0 <= i -> i < (n : Int) -> ∃ g, g < gs.length /\ (Z0c gs g).lvl = (ls.length : Int) - 1 /\ i ∈ (Z0c gs g).items
variable {ls : List (Int × Int)} {gs : List PGrp} {n : Nat}
theorem Zi1 (hF : Forest3 ls gs n) : PlanOk ls gs (fun _ => (ls.length : Int) - 1) := by
 refine ⟨fun g hg i hi => ?_, fun g hg => ?_⟩
 ·have := hF.lvl g hg
  exact ⟨by omega, by omega⟩
 ·by_cases h : (Z0c gs g).lvl = (ls.length : Int) - 1
  ·right
   have := hF.last g hg h
   omega
  ·left
   unfold takeN
   rw [List.countP_eq_zero]
   intro i _
   simp
   omega
theorem Zcm (hF : Forest3 ls gs n) : ∀ g, g < gs.length -> PassOk ls gs g := fun g hg =>
 ZbU hF.toForest (fun g hg hno => by
  have hl := hF.tops g hg hno
  have hb := ZcP hF.toForest (Zi1 hF) g hg
  have h0 : Z37 (fun _ => (ls.length : Int) - 1) (Z0c gs g) = 0 := by
   unfold Z37
   rw [List.countP_eq_zero]
   intro i _
   simp
   omega
  rw [h0] at hb
  have := Z3O hF.toForest (fun _ => (ls.length : Int) - 1) (Z0c gs g)
  omega) gs.length g (by omega) hg
theorem ZbP (hF : Forest3 ls gs n) : PlanOk ls gs (Z6i ls gs n) := ZhO hF.toForest2 (Zcm hF)
end Go.Proofs.YtlgajongmkhcnaaGreatDoor
