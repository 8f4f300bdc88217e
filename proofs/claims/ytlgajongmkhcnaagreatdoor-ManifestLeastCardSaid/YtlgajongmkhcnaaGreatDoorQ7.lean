import Derived.Test.YtlgajongmkhcnaaGreatDoorQZ
import Derived.Test.YtlgajongmkhcnaaGreatDoorQ5
import Derived.Deep.CutBlock
import Derived.Deep.RegionLaw
set_option linter.unusedVariables false
set_option linter.unusedSimpArgs false
set_option maxHeartbeats 32000000
namespace Go.Proofs.YtlgajongmkhcnaaGreatDoor
open Go.RowKit
def Z57 : List Lab -> Bool
 | x :: y :: r => ltB x.pre y.pre && Z57 (y :: r)
 | _ => true
theorem Z6l : ∀ l : List Lab, Z57 l = true ↔ Z1Z l
 | [] => ⟨fun _ i h => by simp at h, fun _ => rfl⟩
 | [x] => ⟨fun _ i h => by simp at h, fun _ => rfl⟩
 | x :: y :: r => by
  unfold Z57
  rw [ZF, Z6l (y :: r)]
  constructor
  ·rintro ⟨h1, h2⟩ i hi
   cases i with
   | zero => exact h1
   | succ i => exact h2 i (by simpa using hi)
  ·intro h
   exact ⟨h 0 (by simp), fun i hi => h (i + 1) (by simpa using hi)⟩
def Z3f (l : Lev) (last : Bool) : Bool := Z46 l && if last then (decide (l.min = 0) && decide (l.pre = 0) && decide (l.labs.length = 0)) else (decide (1 <= l.min) && decide (l.min <= 2000) && l.labs.all (Z6O l) && Z57 l.labs)
theorem Zdi (l : Lev) : Z89 l l.labs.length ↔ (l.labs.all (Z6O l) = true /\ Z57 l.labs = true) := by
 rw [Z6l, List.all_eq_true]
 constructor
 ·intro h
  exact ⟨fun x hx => by obtain ⟨i, hi, rfl⟩ := List.mem_iff_getElem.1 hx; exact (h i hi hi).1, fun i hi => (h (i + 1) hi hi).2 i rfl (by omega)⟩
 ·rintro ⟨h1, h2⟩ i hi h
  exact ⟨h1 _ (Z4 h), fun j hj h' => by subst hj; exact h2 j h⟩
theorem Zdf {l : Lev} {last : Bool} : Z3f l last = true ↔ Z9U l last := by
 unfold Z3f Z9U
 rw [ZF]
 cases last
 ·simp only [Bool.false_eq_true, if_false, ZF, decide_eq_true_eq]
  rw [Zdi]
  constructor
  ·rintro ⟨a, ⟨⟨b, c⟩, d⟩, e⟩; exact ⟨a, ⟨b, c⟩, d, e⟩
  ·rintro ⟨a, ⟨b, c⟩, d, e⟩; exact ⟨a, ⟨⟨b, c⟩, d⟩, e⟩
 ·simp only [if_true, ZF, decide_eq_true_eq]
  constructor
  ·rintro ⟨a, ⟨b, c⟩, d⟩; exact ⟨a, b, c, d⟩
  ·rintro ⟨a, b, c, d⟩; exact ⟨a, ⟨b, c⟩, d⟩
theorem Z9V (l : Lev) (last : Bool) : Z0N l last = Z3f l last := by rw [Bool.eq_iff_iff, Z14, Zdf]
def Z6G (l next : Lev) : Bool := (l.labs.flatMap (Z0K l)).all (fun x => (l.labs.flatMap (Z0K l)).all (fun y => !decide (x.1 = y.1) || decide (Z0e next x.2 = Z0e next y.2)))
theorem Z9L {l next : Lev} : Z6G l next = true ↔ Z5i l next := by
 unfold Z6G Z5i
 simp only [List.all_eq_true, Bool.or_eq_true, Bool.not_eq_true', decide_eq_false_iff_not, decide_eq_true_eq]
 constructor
 ·intro h x hx y hy e
  rcases h x hx y hy with h' | h'
  ·exact absurd e h'
  ·exact h'
 ·intro h x hx y hy
  by_cases e : x.1 = y.1
  ·exact .inr (h x hx y hy e)
  ·exact .inl e
theorem Zd5 (l next : Lev) : Z0S l next = Z6G l next := by rw [Bool.eq_iff_iff, Z42, Z9L]
def Z5l : List Lev -> Bool
 | [] => true
 | [l] => Z3f l true
 | l :: m :: r => Z3f l false && Z5l (m :: r)
def Z9M : List Lev -> Bool
 | [] => true
 | l :: r => r.all (fun m => !decide (l.name = m.name)) && Z9M r
def Zak : List Lev -> Bool
 | l :: m :: r => decide (m.pre <= l.pre) && Z6G l m && Zak (m :: r)
 | _ => true
def ZbU (ls : List Lev) : Bool := decide (1 <= ls.length) && decide (ls.length <= 6) && decide ((ls.map (fun l => l.labs.length)).sum <= 200) && Z5l ls && Z9M ls && Zak ls
theorem Z6L : ∀ ls : List Lev, Z5l ls = true ↔ ∀ i (h : i < ls.length), Z0N ls[i] (decide (i + 1 = ls.length)) = true
 | [] => ⟨fun _ i h => by simp at h, fun _ => rfl⟩
 | [l] => by
  unfold Z5l
  rw [<- Z9V]
  exact ⟨fun h i hi => by obtain rfl : i = 0 := (by simpa using hi); exact h, fun h => h 0 (by simp)⟩
 | l :: m :: r => by
  unfold Z5l
  rw [ZF, Z6L (m :: r), <- Z9V]
  constructor
  ·rintro ⟨h1, h2⟩ i hi
   cases i with
   | zero => simpa using h1
   | succ i =>
    have := h2 i (by simpa using hi)
    simpa using this
  ·intro h
   refine ⟨?_, fun i hi => ?_⟩
   ·have := h 0 (by simp)
    simpa using this
   ·have := h (i + 1) (by simpa using hi)
    simpa using this
theorem Z83 : ∀ ls : List Lev, Z9M ls = true ↔ ∀ i (h : i < ls.length) j, (hj : j < i) -> (ls[j]'(by omega)).name ≠ ls[i].name
 | [] => ⟨fun _ i h => by simp at h, fun _ => rfl⟩
 | l :: r => by
  unfold Z9M
  rw [ZF, Z83 r, List.all_eq_true]
  constructor
  ·rintro ⟨h1, h2⟩ i hi j hj
   cases i with
   | zero => omega
   | succ i =>
    cases j with
    | zero => simpa using h1 _ (Z4 (show i < r.length by simpa using hi))
    | succ j => exact h2 i (by simpa using hi) j (by omega)
  ·intro h
   refine ⟨fun m hm => ?_, fun i hi j hj => h (i + 1) (by simpa using hi) (j + 1) (by omega)⟩
   obtain ⟨i, hi, rfl⟩ := List.mem_iff_getElem.1 hm
   have := h (i + 1) (by simpa using hi) 0 (by omega)
   simpa using this
theorem Z8n : ∀ ls : List Lev, Zak ls = true ↔ ∀ i (h : i + 1 < ls.length), ls[i + 1].pre <= ls[i].pre /\ Z0S ls[i] ls[i + 1] = true
 | [] => ⟨fun _ i h => by simp at h, fun _ => rfl⟩
 | [l] => ⟨fun _ i h => by simp at h, fun _ => rfl⟩
 | l :: m :: r => by
  unfold Zak
  rw [ZF, ZF, Z8n (m :: r), <- Zd5, decide_eq_true_eq]
  constructor
  ·rintro ⟨h1, h2⟩ i hi
   cases i with
   | zero => exact h1
   | succ i => exact h2 i (by simpa using hi)
  ·intro h
   exact ⟨h 0 (by simp), fun i hi => h (i + 1) (by simpa using hi)⟩
theorem Z9u (ls : List Lev) : Z0i ls = ZbU ls := by
 rw [Bool.eq_iff_iff, Z0F]
 unfold ZbU
 simp only [ZF, decide_eq_true_eq]
 rw [Z6L, Z83, Z8n]
 unfold ZbT ZiF
 have es : sumTo ls ls.length = (ls.map (fun l => l.labs.length)).sum := by unfold sumTo; rw [List.take_of_length_le (Z1 _)]
 rw [es]
 constructor
 ·rintro ⟨a, b, ⟨c, d, e, f⟩, g⟩
  exact ⟨⟨⟨⟨⟨a, b⟩, c⟩, fun i h => d i h h⟩, fun i h j hj => e i h h j hj (by omega)⟩, fun i h => ⟨f (i + 1) h h i rfl (by omega), g i h⟩⟩
 ·rintro ⟨⟨⟨⟨⟨a, b⟩, c⟩, d⟩, e⟩, f⟩
  exact ⟨a, b, ⟨c, fun i _ h => d i h, fun i _ h j hj h' => e i h j hj, fun i _ h j hj h' => by subst hj; exact (f j h).1⟩, fun i h => (f i h).2⟩
end Go.Proofs.YtlgajongmkhcnaaGreatDoor
namespace Go.Proofs.YtlgajongmkhcnaaGreatDoor
open Go.RowKit
set_option linter.unusedVariables false
set_option maxRecDepth 100000
theorem Zee (w : World) : RdLabs w (.slice none 0 0) [] := ⟨none, 0, rfl, fun h => absurd h (by simp)⟩
theorem Z8e {ls : List Lev} {cs : List ByteArray} (h1 : Z0i ls = true) (h2 : cs.length <= 2000) (h3 : ∀ c ∈ cs, Z0B c = true) (h4 : cs.any (Z2J ls) = false) : Z1c ls cs = ((gTo ls cs ls.length).1, 0) := by
 unfold Z1c; rw [if_neg (by omega), if_pos ⟨h1, h3⟩, h4]; rfl
theorem Zgi {W : World} {n : Nat} {T : TypeId} (ls : List ByteArray) (h : W.1[n]? = some (.cells (ls.map Value.string).toArray T (0, 0))) : ReadsT W (.slice (some ⟨n, 0, none⟩) ls.length ls.length) ls := by
 refine ⟨_, _, rfl, fun _ => ⟨n, 0, rfl, (Z5.1 h).1, fun i hi => ?_⟩⟩
 rw [Nat.zero_add, cell_of_row _ n i _ _ _ h]
 simp [hi]
def Zcv (W : World) (os : List Obj) : World := os.foldl World.alloc W
theorem Zbw (os : List Obj) : ∀ W : World, (Zcv W os).1.toList = W.1.toList ++ os := by
 induction os with
 | nil => intro W; simp [Zcv]
 | cons o r ih =>
  intro W
  show (Zcv (W.alloc o) r).1.toList = _
  rw [ih]
  show (W.1.push o).toList ++ r = _
  simp
theorem Z5M (W : World) (os : List Obj) (j : Nat) {o : Obj} (h : os[j]? = some o) : (Zcv W os).1[W.1.size + j]? = some o := by
 rw [<- Array.getElem?_toList, Zbw, List.getElem?_append_right (by simp)]
 simpa using h
end Go.Proofs.YtlgajongmkhcnaaGreatDoor
namespace Go.Proofs.YtlgajongmkhcnaaGreatDoor
open Go.RowKit
set_option linter.unusedVariables false
set_option maxRecDepth 100000
def RdBytes (w : World) (v : Value) (bs : List UInt8) : Prop :=
 ∃ a cap, v = .slice a bs.length cap /\ (0 < bs.length -> ∃ g off, a = some ⟨g, off, none⟩ /\ g < w.1.size /\ ∀ i (h : i < bs.length), w.cell? ⟨g, off + i, none⟩ = some (.int .u8 (bs[i].toNat : Int)))
theorem RdBytes.below {w w' : World} {v : Value} {zs : List UInt8} (h : RdBytes w v zs) (hb : Below w.1.size w w') : RdBytes w' v zs := by
 obtain ⟨a, cap, hv, hc⟩ := h
 exact ⟨a, cap, hv, fun h0 => by
  obtain ⟨g, off, ha, hg, hcc⟩ := hc h0
  exact ⟨g, off, ha, ZH hg hb.size, fun i h => (hb.cell (p := ⟨g, off + i, none⟩) hg).trans (hcc i h)⟩⟩
def Z3B (x : UInt8) : ByteArray := ⟨#[49 + x % 3, 48 + x / 3 % 3, 48 + x / 9 % 3, 48 + x / 27 % 3, 48 + x / 81 % 3]⟩
def Zbq (bs : List UInt8) : List ByteArray := (bs.take 2000).map Z3B
theorem Zdr (x : UInt8) : (Z3B x).size = 5 := rfl
theorem Zfp (W : World) (x : UInt8) : Sem.run Tryz.prog (convert 23 9 (.slice (some ⟨W.1.size, 0, none⟩) 5 5)) (W.alloc (.cells #[.int .u8 (49 + (x.toNat : Int) % 3), .int .u8 (48 + (x.toNat : Int) / 3 % 3), .int .u8 (48 + (x.toNat : Int) / 9 % 3), .int .u8 (48 + (x.toNat : Int) / 27 % 3), .int .u8 (48 + (x.toNat : Int) / 81 % 3)] 5)) =
 .ok (.string (Z3B x)) (W.alloc (.cells #[.int .u8 (49 + (x.toNat : Int) % 3), .int .u8 (48 + (x.toNat : Int) / 3 % 3), .int .u8 (48 + (x.toNat : Int) / 9 % 3), .int .u8 (48 + (x.toNat : Int) / 27 % 3), .int .u8 (48 + (x.toNat : Int) / 81 % 3)] 5)) := by
 have hx : x.toNat < 256 := x.toNat_lt
 have e1 : (((49 + x % 3 : UInt8)).toNat : Int) = 49 + (x.toNat : Int) % 3 := by rw [UInt8.toNat_add, UInt8.toNat_mod]; simp; omega
 have e2 : (((48 + x / 3 % 3 : UInt8)).toNat : Int) = 48 + (x.toNat : Int) / 3 % 3 := by rw [UInt8.toNat_add, UInt8.toNat_mod, UInt8.toNat_div]; simp; omega
 have e3 : (((48 + x / 9 % 3 : UInt8)).toNat : Int) = 48 + (x.toNat : Int) / 9 % 3 := by rw [UInt8.toNat_add, UInt8.toNat_mod, UInt8.toNat_div]; simp; omega
 have e4 : (((48 + x / 27 % 3 : UInt8)).toNat : Int) = 48 + (x.toNat : Int) / 27 % 3 := by rw [UInt8.toNat_add, UInt8.toNat_mod, UInt8.toNat_div]; simp; omega
 have e5 : (((48 + x / 81 % 3 : UInt8)).toNat : Int) = 48 + (x.toNat : Int) / 81 % 3 := by rw [UInt8.toNat_add, UInt8.toNat_mod, UInt8.toNat_div]; simp; omega
 refine run_convert_bytes_back (P := Tryz.prog) _ 23 9 5 ⟨W.1.size, 0, none⟩ 5 [49 + x % 3, 48 + x / 3 % 3, 48 + x / 9 % 3, 48 + x / 27 % 3, 48 + x / 81 % 3] Tryz.underlying23 Tryz.underlying5 Tryz.underlying9 (fun j hj => ?_)
 have ea : (⟨W.1.size, 0, none⟩ : Addr).add j = ⟨W.1.size, j, none⟩ := by unfold Addr.add; split <;> simp_all
 rw [ea, cell_of_row _ W.1.size j _ _ _ (Z02 W _)]
 have hj5 : j < 5 := hj
 have h5 : j = 0 \/ j = 1 \/ j = 2 \/ j = 3 \/ j = 4 := by omega
 rcases h5 with rfl | rfl | rfl | rfl | rfl
 ·show some (Value.int .u8 (49 + (x.toNat : Int) % 3)) = some (.int .u8 (((49 + x % 3 : UInt8)).toNat : Int)); rw [e1]
 ·show some (Value.int .u8 (48 + (x.toNat : Int) / 3 % 3)) = some (.int .u8 (((48 + x / 3 % 3 : UInt8)).toNat : Int)); rw [e2]
 ·show some (Value.int .u8 (48 + (x.toNat : Int) / 9 % 3)) = some (.int .u8 (((48 + x / 9 % 3 : UInt8)).toNat : Int)); rw [e3]
 ·show some (Value.int .u8 (48 + (x.toNat : Int) / 27 % 3)) = some (.int .u8 (((48 + x / 27 % 3 : UInt8)).toNat : Int)); rw [e4]
 ·show some (Value.int .u8 (48 + (x.toNat : Int) / 81 % 3)) = some (.int .u8 (((48 + x / 81 % 3 : UInt8)).toNat : Int)); rw [e5]
theorem Zfv (bs : List UInt8) (v : Value) (w : World) (hr : RdBytes w v bs) (hl : bs.length <= maxLen) :
 Calls Tryz.prog 62 #[v] w fun e w' => ∃ v, e = .returned v /\ Below w.1.size w w' /\ OwnsT w' w.1.size v (Zbq bs) := by
 unfold maxLen at hl
 obtain ⟨a, cap, rfl, hc⟩ := hr
 have HC := Z0 hc
 clear hc
 obtain ⟨i0, hi⟩ := info_parts Tryz.infoS
 have HI := Z0 hi
 clear hi
 go_enter Tryz.func62, Tryz.ntmps62
 go_wp2_with fail
 go_loopw [3, 4] (fun v i wr => ∃ k : Nat, k <= bs.length /\ k <= 2000 /\ i = .int .i64 k /\ Below w.1.size w wr /\ OwnsT wr w.1.size v ((bs.take k).map Z3B)) (fun _ i _ => bs.length - (intOf i).toNat)
 case atStart => exact ⟨0, ZE _, ZE _, rfl, Z9 _ _, OwnsT.nil _ _⟩
 case round =>
  obtain ⟨k, hk, hk2, rfl, hB, hown⟩ := hrel
  by_cases hlt : k < bs.length /\ k < 2000
  ·obtain ⟨hl1, hl2⟩ := hlt
   obtain ⟨g, off, rfl, hg, hcc⟩ := HC.out (by omega)
   have c1 : wr.cell? ⟨g, off + k, none⟩ = some (.int .u8 (bs[k].toNat : Int)) := (hB.cell (p := ⟨g, off + k, none⟩) hg).trans (hcc k hl1)
   have HN : Hid ((bs.take (k + 1)).map Z3B = (bs.take k).map Z3B ++ [Z3B bs[k]]) := by rw [Z8 hl1, ZD]; exact rfl
   have hlen : ((bs.take k).map Z3B).length = k := by simp; omega
   have HL := Z0 hlen
   have hlen' : ((bs.take k).map Z3B).length <= 2000 := by omega
   have hcv := Zfp wr bs[k]
   have hb0 : 0 <= (bs[k].toNat : Int) := by omega
   have hb1 : (bs[k].toNat : Int) <= 255 := by have := bs[k].toNat_lt; omega
   clear hlen hcc HC
   generalize Z3B bs[k] = cd at HN hcv
   generalize (bs[k].toNat : Int) = n at c1 hcv hb0 hb1
   generalize (bs.take k).map Z3B = acc at hown HN hlen' HL
   go_wp2_with (at_builtin; refine wpList_append_own _ rfl _ _ 84 rfl w.1.size 9 i0 (.string ⟨#[]⟩) 1 16 Tryz.underlying84 HI.out.1 HI.out.2.1 HI.out.2.2.1 HI.out.2.2.2 rfl (by decide) _ _ _ rfl ((hown.alloc _).alloc _) ⟨wr.1.size + 1, 0, none⟩ 1 1 [.string cd] rfl rfl (by have := cell_one_new (wr.alloc (.cells #[.int .u8 (49 + n % 3), .int .u8 (48 + n / 3 % 3), .int .u8 (48 + n / 9 % 3), .int .u8 (48 + n / 27 % 3), .int .u8 (48 + n / 81 % 3)] 5)) (.string cd) 9; simpa using this) (by simp [Value.oneCell']) (by unfold maxLen; omega) (by omega) (by have := hB.size; simp; omega) ?_; intro v' w4 hown' hgrow _)
   have hb4 : Below w.1.size w w4 := ((hB.alloc hB.size _).alloc (by have := hB.size; simp; omega) _).grown hgrow (by have := hB.size; simp; omega) (fun r e => (hown.lt r e).1)
   go_roundw
   case rel => exact ⟨k + 1, by omega, by omega, by go_num, hb4, by rw [HN.out]; unfold OwnsT; rw [ZD, ZC]; exact hown'⟩
   case measure => simp [intOf]; omega
  ·have HE : Hid (OwnsT wr w.1.size u3 (Zbq bs)) := by
    unfold Zbq
    have e : bs.take 2000 = bs.take k := by
     by_cases h : k < bs.length
     ·obtain rfl : k = 2000 := by omega
      rfl
     ·rw [List.take_of_length_le (by omega), List.take_of_length_le (by omega)]
    rw [e]; exact hown
   clear hown
   by_cases h1 : k < bs.length
   ·have h2 : 2000 <= k := by omega
    go_wp2_with fail
    go_ret
    exact ⟨_, rfl, hB, HE.out⟩
   ·have h2 : decide (k < bs.length) = false := by simpa using h1
    go_wp2_with fail
    go_ret
    exact ⟨_, rfl, hB, HE.out⟩
end Go.Proofs.YtlgajongmkhcnaaGreatDoor
namespace Go.Proofs.YtlgajongmkhcnaaGreatDoor
open Go.RowKit
set_option linter.unusedVariables false
set_option maxRecDepth 100000
theorem Tryz.infoL : (Tryz.prog.info? 63).map (fun i => (i.zero, i.size, i.bytes)) = some (some (.agg #[.string ⟨#[]⟩, .int .i64 0, .slice none 0 0, .int .i64 0, .int .i64 0]), 5, 64) := by kernel_rfl
theorem Tryz.infoB : (Tryz.prog.info? 150).map (fun i => (i.zero, i.size, i.bytes)) = some (some (.agg #[.string ⟨#[]⟩, .string ⟨#[]⟩]), 2, 32) := by kernel_rfl
theorem Z0x {w w' : World} {base : Nat} {e : TypeId} {size : Nat} {v : Value} {n : Nat} {xs : List Value} {row : Option Nat} (h : w.ownsRow base e size v n xs) (hg : w.grownBy w' row) (hT : ∀ g, row = some g -> ∀ cur fr, w.1[g]? ≠ some (.cells cur e fr)) : w'.ownsRow base e size v n xs := by
 refine h.kept hg ?_
 obtain ⟨_, hv | ⟨g, cap, cur, rfl, _, hh, _⟩⟩ := h
 ·rw [hv.1]; exact .inl rfl
 ·exact .inr (fun e' => hT g e'.symm _ _ hh)
def Z2h (x : Lab) : List Value := [.string x.pre, .string x.grp]
abbrev OwnsLab (w : World) (base : Nat) (v : Value) (labs : List Lab) : Prop := w.ownsRow base 150 2 v labs.length (labs.flatMap Z2h)
theorem Z5J (L : List Lab) (k j : Nat) (h : k < L.length) (hj : j < 2) : (L.flatMap Z2h)[k * 2 + j]? = (Z2h L[k])[j]? := by
 induction L generalizing k with
 | nil => simp at h
 | cons p r ih =>
  rw [List.flatMap_cons]
  have hl : (Z2h p).length = 2 := rfl
  cases k with
  | zero => rw [Nat.zero_mul, Nat.zero_add, List.getElem?_append_left (by omega)]; rfl
  | succ k =>
   rw [List.getElem?_append_right (by rw [hl]; omega), hl, show (k + 1) * 2 + j - 2 = k * 2 + j by omega]
   exact ih k (by simpa using h)
theorem RdLabs.of_owns {w : World} {base : Nat} {v : Value} {labs : List Lab} (ho : OwnsLab w base v labs) : RdLabs w v labs := by
 rcases Joins.ownsRow_forms ho with ⟨rfl, hp⟩ | ⟨g, cap, rfl⟩
 ·obtain rfl : labs = [] := List.length_eq_zero_iff.1 hp
  exact Zee w
 ·refine ⟨_, cap, rfl, fun _ => ⟨g, 0, rfl, (ho.lt g rfl).2, fun i h => ?_⟩⟩
  rw [Nat.zero_add]
  constructor
  ·rw [ho.cellAt _ (by omega), show i * 2 = i * 2 + 0 from rfl, Z5J labs i 0 h (by omega)]; rfl
  ·rw [ho.cellAt _ (by omega), Z5J labs i 1 h (by omega)]; rfl
theorem OwnsLab.nil (w : World) (base : Nat) : OwnsLab w base (.slice none 0 0) [] := World.ownsRow_nil _ _ _ _
theorem OwnsLab.form {w : World} {base : Nat} {v : Value} {l : List Lab} (h : OwnsLab w base v l) : ∃ a cap, v = .slice a l.length cap := by
 rcases Joins.ownsRow_forms h with ⟨rfl, hp⟩ | ⟨g, cap, rfl⟩
 ·exact ⟨none, 0, by rw [hp]⟩
 ·exact ⟨_, cap, rfl⟩
def Z1U (p : Lev × Value) : List Value := [.string p.1.name, .int .i64 p.1.pre, p.2, .int .i64 p.1.min, .int .i64 p.1.cents]
def OwnsLv (w : World) (base : Nat) (v : Value) (ls : List Lev) : Prop :=
 ∃ L : List (Lev × Value), L.map Prod.fst = ls /\ (∀ p ∈ L, OwnsLab w base p.2 p.1.labs) /\ w.ownsRow base 63 5 v L.length (L.flatMap Z1U)
theorem Z2Q (L : List (Lev × Value)) (k j : Nat) (h : k < L.length) (hj : j < 5) : (L.flatMap Z1U)[k * 5 + j]? = (Z1U L[k])[j]? := by
 induction L generalizing k with
 | nil => simp at h
 | cons p r ih =>
  rw [List.flatMap_cons]
  have hl : (Z1U p).length = 5 := rfl
  cases k with
  | zero => rw [Nat.zero_mul, Nat.zero_add, List.getElem?_append_left (by omega)]; rfl
  | succ k =>
   rw [List.getElem?_append_right (by rw [hl]; omega), hl, show (k + 1) * 5 + j - 5 = k * 5 + j by omega]
   exact ih k (by simpa using h)
theorem OwnsLv.nil (w : World) (base : Nat) : OwnsLv w base (.slice none 0 0) [] := ⟨[], rfl, by simp, World.ownsRow_nil _ _ _ _⟩
theorem OwnsLv.form {w : World} {base : Nat} {v : Value} {ls : List Lev} (h : OwnsLv w base v ls) : ∃ a cap, v = .slice a ls.length cap := by
 obtain ⟨L, rfl, _, ho⟩ := h
 rw [Z7]
 rcases Joins.ownsRow_forms ho with ⟨rfl, hp⟩ | ⟨g, cap, rfl⟩
 ·exact ⟨none, 0, by rw [hp]⟩
 ·exact ⟨_, cap, rfl⟩
theorem OwnsLv.grown {w w' : World} {base : Nat} {v : Value} {ls : List Lev} {row : Option Nat} (h : OwnsLv w base v ls) (hg : w.grownBy w' row) (h1 : ∀ g, row = some g -> ∀ cur fr, w.1[g]? ≠ some (.cells cur 150 fr)) (h2 : ∀ g, row = some g -> ∀ cur fr, w.1[g]? ≠ some (.cells cur 63 fr)) : OwnsLv w' base v ls := by
 obtain ⟨L, hL, hLr, hLo⟩ := h
 exact ⟨L, hL, fun p hp => Z0x (hLr p hp) hg h1, Z0x hLo hg h2⟩
theorem OwnsLv.below {w w' : World} {base : Nat} {v : Value} {ls : List Lev} (h : OwnsLv w base v ls) (hb : Below w.1.size w w') : OwnsLv w' base v ls :=
 h.grown (Z0a hb) (fun g e => by cases e) (fun g e => by cases e)
theorem OwnsLv.reads {w : World} {base : Nat} {v : Value} {ls : List Lev} (h : OwnsLv w base v ls) : RdLevs w v ls := by
 obtain ⟨L, rfl, hLr, ho⟩ := h
 rcases Joins.ownsRow_forms ho with ⟨rfl, hp⟩ | ⟨g, cap, rfl⟩
 ·obtain rfl : L = [] := List.length_eq_zero_iff.1 hp
  exact ⟨none, 0, rfl, fun h => absurd h (by simp)⟩
 ·refine ⟨_, cap, by rw [Z7], fun _ => ⟨g, 0, rfl, (ho.lt g rfl).2, fun i h => ?_⟩⟩
  have h' : i < L.length := by simpa using h
  refine ⟨L[i].2, ?_, ?_⟩
  ·have := RdLabs.of_owns (hLr _ (Z4 h'))
   simpa using this
  ·rw [Nat.zero_add]
   refine ⟨?_, ?_, ?_, ?_, ?_⟩
   ·rw [ho.cellAt _ (by omega), show i * 5 = i * 5 + 0 from rfl, Z2Q L i 0 h' (by omega)]; simp [Z1U]
   ·rw [ho.cellAt _ (by omega), Z2Q L i 1 h' (by omega)]; simp [Z1U]
   ·rw [ho.cellAt _ (by omega), Z2Q L i 2 h' (by omega)]; simp [Z1U]
   ·rw [ho.cellAt _ (by omega), Z2Q L i 3 h' (by omega)]; simp [Z1U]
   ·rw [ho.cellAt _ (by omega), Z2Q L i 4 h' (by omega)]; simp [Z1U]
theorem Z0J (w : World) (a : Addr) (u : Value) : w.grownBy (w.setCell a u) (some a.block) := by
 refine ⟨rfl, rfl, rfl, by simp, fun k hk hne => ZA _ _ _ _ (fun e => hne (by rw [e]))⟩
def MR (w : World) (vl vc : Value) (out : List Lev) (wx : World) : Prop :=
 Below w.1.size w wx /\ wx.1[w.1.size]? = some (.cells #[vl] 23 (0, 0)) /\ wx.1[w.1.size + 1]? = some (.cells #[vc] 23 (0, 0)) /\
 ∃ v, wx.1[w.1.size + 2]? = some (.cells #[v] 31 (0, 0)) /\ OwnsLv wx (w.1.size + 3) v out
theorem MR.below {w : World} {vl vc : Value} {out : List Lev} {wx w' : World} (h : MR w vl vc out wx) (hb : Below wx.1.size wx w') : MR w vl vc out w' := by
 obtain ⟨h1, h2, h3, v, h4, h5⟩ := h
 have k : ∀ {b : Nat} {o : Obj}, wx.1[b]? = some o -> w'.1[b]? = some o := fun hh => (hb.block _ (Z5.1 hh).1).trans hh
 exact ⟨Z00 h1 h1.size hb, k h2, k h3, v, k h4, h5.below hb⟩
def Zbx (least cents : List UInt8) (out : List Lev) (l : Lev) : List Lev := out ++ [{ l with min := 1 + ((least.getD out.length 0).toNat : Int), cents := ((cents.getD out.length 0).toNat : Int) }]
theorem Zcx {w w1 w2 : World} {vl vc v v' sv : Value} {out : List Lev} {l : Lev} (h1 : Below w.1.size w w1) (h2 : w1.1[w.1.size]? = some (.cells #[vl] 23 (0, 0))) (h3 : w1.1[w.1.size + 1]? = some (.cells #[vc] 23 (0, 0))) (h4 : w1.1[w.1.size + 2]? = some (.cells #[v] 31 (0, 0)))
 {L : List (Lev × Value)} (hL : L.map Prod.fst = out) (hLr : ∀ p ∈ L, OwnsLab w1 (w.1.size + 3) p.2 p.1.labs) (hLo : w1.ownsRow (w.1.size + 3) 63 5 v L.length (L.flatMap Z1U)) (hsv : OwnsLab w1 (w.1.size + 3) sv l.labs)
 (hg : w1.grownBy w2 v.ownBlock) (ho : w2.ownsRow (w.1.size + 3) 63 5 v' (L.length + 1) (L.flatMap Z1U ++ Z1U (l, sv))) :
 MR w vl vc (out ++ [l]) (w2.setCell ⟨w.1.size + 2, 0, none⟩ v') /\ w2.cell? ⟨w.1.size + 2, 0, none⟩ = some v /\ w2.frozen? ⟨w.1.size + 2, 0, none⟩ = false := by
 have nB := Z0s hLo (T := 23) (by decide)
 have nV := Z0s hLo (T := 31) (by decide)
 have nA := Z0s hLo (T := 150) (by decide)
 have b2 := Z10 hg h2 (fun g e => nB g e _ _)
 have b3 := Z10 hg h3 (fun g e => nB g e _ _)
 have b4 := Z10 hg h4 (fun g e => nV g e _ _)
 have hlt := fun r e => (hLo.lt r e).1
 have B2 : Below w.1.size w w2 := h1.grown hg h1.size (fun r e => by have := hlt r e; omega)
 have sg := Z0J w2 ⟨w.1.size + 2, 0, none⟩ v'
 have no : ∀ T, T ≠ 31 -> ∀ g, some (w.1.size + 2) = some g -> ∀ cur fr, w2.1[g]? ≠ some (.cells cur T fr) := by
  intro T hT g e cur fr e'
  injection e with e
  subst e
  rw [b4] at e'
  injection e' with e'
  injection e' with _ e' _
  exact hT e'.symm
 refine ⟨⟨Z1d B2 sg B2.size (by show _ <= w.1.size + 2; omega), (ZA _ _ _ _ (by show w.1.size ≠ w.1.size + 2; omega)).trans b2, (ZA _ _ _ _ (by show w.1.size + 1 ≠ w.1.size + 2; omega)).trans b3, v', one_setCell b4, L ++ [(l, sv)], ?_, ?_, ?_⟩, cell_of_one b4, free_of_one b4⟩
 ·rw [ZD, hL]; rfl
 ·intro p hp
  have k : ∀ {u : Value} {labs : List Lab}, OwnsLab w1 (w.1.size + 3) u labs -> OwnsLab (w2.setCell ⟨w.1.size + 2, 0, none⟩ v') (w.1.size + 3) u labs := fun hh => Z0x (Z0x hh hg (fun g e => nA g e)) sg (no _ (by decide))
  rcases ZG.1 hp with hp | hp
  ·exact k (hLr p hp)
  ·rw [ZI.1 hp]; exact k hsv
 ·rw [List.flatMap_append, ZC]
  have := Z0x ho sg (no _ (by decide))
  simpa using this
end Go.Proofs.YtlgajongmkhcnaaGreatDoor
namespace Go.Proofs.YtlgajongmkhcnaaGreatDoor
open Go.RowKit
set_option linter.unusedVariables false
set_option maxRecDepth 100000
theorem Z2a (W : World) (n : Nat) (hn : n = W.1.size) (cs : List Value) (T : TypeId) : ∀ j u, cs[j]? = some u -> (W.alloc (.cells cs.toArray T)).cell? ((⟨n, 0, none⟩ : Addr).add j) = some u := by subst hn; exact Z0f W cs T
theorem getD_lt {l : List UInt8} {k : Nat} (h : k < l.length) : l.getD k 0 = l[k] := by rw [Z2, Z3 h]; rfl
theorem Z74 {l : List UInt8} {k : Nat} (h : ¬ k < l.length) : l.getD k 0 = 0 := by rw [Z2, List.getElem?_eq_none (by omega)]; rfl
theorem byte_of {w W : World} {v : Value} {a : Option Addr} {n cap : Nat} {bs : List UInt8} (h : RdBytes w v bs) (hv : v = .slice a n cap) (hb : Below w.1.size w W) {k : Nat} (hk : k < bs.length) : ∃ g off, a = some ⟨g, off, none⟩ /\ g < W.1.size /\ W.cell? ⟨g, off + k, none⟩ = some (.int .u8 (bs[k].toNat : Int)) := by
 obtain ⟨a', cap', rfl, hc⟩ := h
 injection hv with h1 h2 h3
 subst h1
 obtain ⟨g, off, ha, hg, hcc⟩ := hc (by omega)
 exact ⟨g, off, ha, ZH hg hb.size, (hb.cell (p := ⟨g, off + k, none⟩) hg).trans (hcc k hk)⟩
theorem ZdE {W : World} {b : Nat} {o x y : Obj} (h : W.1[b]? = some o) : ((W.alloc x).alloc y).1[b]? = some o := by
 have hb : Below W.1.size W ((W.alloc x).alloc y) := ((Z9 _ W).alloc (Z1 _) _).alloc (by simp) _
 exact (hb.block b (Z5.1 h).1).trans h
theorem ZeR (l : Lev) (sv vl vc : Value) (least cents : List UInt8) (out : List Lev) (w wx : World) (hrl : RdBytes w vl least) (hrc : RdBytes w vc cents) (hll : least.length <= maxLen) (hcl : cents.length <= maxLen) (hM : MR w vl vc out wx) (hsv : OwnsLab wx (w.1.size + 3) sv l.labs) (hc0 : l.cents = 0) (ho3 : out.length <= 10) (hx : w.1.size + 3 <= wx.1.size) :
 Calls Tryz.prog 61 #[lvA l sv, .pointer (some ⟨w.1.size + 2, 0, none⟩), .pointer (some ⟨w.1.size, 0, none⟩), .pointer (some ⟨w.1.size + 1, 0, none⟩)] wx fun e w' => e = .returned (.tuple #[]) /\ MR w vl vc (Zbx least cents out l) w' /\ wx.1.size <= w'.1.size := by
 unfold maxLen at hll hcl
 obtain ⟨h1, h2, h3, v, h4, L, hL, hLr, hLo⟩ := hM
 have hLl : L.length = out.length := by rw [<- hL, Z7]
 rw [hLl] at hLo
 obtain ⟨a, cap, rfl⟩ : ∃ a cap, v = .slice a out.length cap := by
  rcases Joins.ownsRow_forms hLo with ⟨rfl, hp⟩ | ⟨g, cap, rfl⟩
  ·exact ⟨none, 0, by rw [hp]⟩
  ·exact ⟨_, cap, rfl⟩
 obtain ⟨sa, sc, rfl⟩ := OwnsLab.form hsv
 have HRL := Z0 hrl
 have HRC := Z0 hrc
 obtain ⟨la, lc, rfl, _⟩ := hrl
 obtain ⟨ca, cc, rfl, _⟩ := hrc
 have x0 := cell_of_one h2
 have x1 := cell_of_one h3
 have x2 := cell_of_one h4
 obtain ⟨i0, hi⟩ := info_parts Tryz.infoL
 have HI := Z0 hi
 have H1 := Z0 h1
 have H2 := Z0 h2
 have H3 := Z0 h3
 have H4 := Z0 h4
 have HL := Z0 hL
 have HLL := Z0 hLl
 have HLR := Z0 hLr
 have HSV := Z0 hsv
 have HFIN : Hid (∀ m c : Int, m = 1 + ((least.getD out.length 0).toNat : Int) -> c = ((cents.getD out.length 0).toNat : Int) -> ∀ W, MR w (.slice la least.length lc) (.slice ca cents.length cc) (out ++ [{ l with min := m, cents := c }]) W -> MR w (.slice la least.length lc) (.slice ca cents.length cc) (Zbx least cents out l) W) := fun m c hm hc W h => by subst hm hc; exact h
 clear hi h1 h2 h3 h4 hL hLr hsv hLl
 have hx2 : w.1.size + 2 < wx.1.size := by omega
 have hx1 : w.1.size + 1 < wx.1.size := by omega
 have hx0 : w.1.size < wx.1.size := by omega
 unfold lvA
 rw [hc0]
 by_cases k1 : out.length < least.length <;> by_cases k2 : out.length < cents.length
 ·obtain ⟨g1, o1, rfl, gg1, c1⟩ := byte_of HRL.out rfl H1.out k1
  obtain ⟨g2, o2, rfl, gg2, c2⟩ := byte_of HRC.out rfl H1.out k2
  have e1 := Z0 (getD_lt k1)
  have bb1 : (least[out.length].toNat : Int) <= 255 := by have := least[out.length].toNat_lt; omega
  have bb2 : 0 <= (least[out.length].toNat : Int) := by omega
  have e2 := Z0 (getD_lt k2)
  have bb3 : (cents[out.length].toNat : Int) <= 255 := by have := cents[out.length].toNat_lt; omega
  have bb4 : 0 <= (cents[out.length].toNat : Int) := by omega
  go_enter Tryz.func61, Tryz.ntmps61
  go_wp2_with (at_builtin; refine wpList_append_own _ rfl _ _ 31 rfl (w.1.size + 3) 63 i0 (.agg #[.string ⟨#[]⟩, .int .i64 0, .slice none 0 0, .int .i64 0, .int .i64 0]) 5 64 Tryz.underlying31 HI.out.1 HI.out.2.1 HI.out.2.2.1 HI.out.2.2.2 rfl (by decide) _ _ _ rfl ((hLo.alloc _).alloc _) ⟨wx.1.size + 1, 0, none⟩ 1 1 (Z1U ({ l with min := 1 + (least[out.length].toNat : Int), cents := (cents[out.length].toNat : Int) }, .slice sa l.labs.length sc)) rfl rfl (Z2a _ _ (by simp) _ _) (by simp [Value.oneCell', Z1U]) (by unfold maxLen; omega) (by omega) (by simp; omega) ?_; intro v' w2 hown' hgrow _; obtain ⟨gv, cv, rfl⟩ := Joins.ownsRow_form hown' (by omega); obtain ⟨hMR, hc, hfz⟩ := Zcx (L := L) (l := { l with min := 1 + (least[out.length].toNat : Int), cents := (cents[out.length].toNat : Int) }) (h1 := by exact (H1.out.alloc H1.out.size _).alloc (by simp; omega) _) (h2 := by exact ZdE H2.out) (h3 := by exact ZdE H3.out) (h4 := by exact ZdE H4.out) (hL := HL.out) (hLr := by exact fun p hp => ((HLR.out p hp).alloc _).alloc _) (hLo := by rw [HLL.out]; exact (hLo.alloc _).alloc _) (hsv := by exact (HSV.out.alloc _).alloc _) (hg := hgrow) (ho := by rw [HLL.out]; exact hown'); have HMR := Z0 hMR; have hgs := hgrow.size; clear hMR)
  go_end0
  exact ⟨rfl, HFIN.out _ _ (by rw [e1.out]) (by rw [e2.out]) _ HMR.out, by simp at hgs ⊢; omega⟩
 ·obtain ⟨g1, o1, rfl, gg1, c1⟩ := byte_of HRL.out rfl H1.out k1
  have e1 := Z0 (getD_lt k1)
  have bb1 : (least[out.length].toNat : Int) <= 255 := by have := least[out.length].toNat_lt; omega
  have bb2 : 0 <= (least[out.length].toNat : Int) := by omega
  have e2 := Z0 (Z74 k2)
  go_enter Tryz.func61, Tryz.ntmps61
  go_wp2_with (at_builtin; refine wpList_append_own _ rfl _ _ 31 rfl (w.1.size + 3) 63 i0 (.agg #[.string ⟨#[]⟩, .int .i64 0, .slice none 0 0, .int .i64 0, .int .i64 0]) 5 64 Tryz.underlying31 HI.out.1 HI.out.2.1 HI.out.2.2.1 HI.out.2.2.2 rfl (by decide) _ _ _ rfl ((hLo.alloc _).alloc _) ⟨wx.1.size + 1, 0, none⟩ 1 1 (Z1U ({ l with min := 1 + (least[out.length].toNat : Int), cents := 0 }, .slice sa l.labs.length sc)) rfl rfl (Z2a _ _ (by simp) _ _) (by simp [Value.oneCell', Z1U]) (by unfold maxLen; omega) (by omega) (by simp; omega) ?_; intro v' w2 hown' hgrow _; obtain ⟨gv, cv, rfl⟩ := Joins.ownsRow_form hown' (by omega); obtain ⟨hMR, hc, hfz⟩ := Zcx (L := L) (l := { l with min := 1 + (least[out.length].toNat : Int), cents := 0 }) (h1 := by exact (H1.out.alloc H1.out.size _).alloc (by simp; omega) _) (h2 := by exact ZdE H2.out) (h3 := by exact ZdE H3.out) (h4 := by exact ZdE H4.out) (hL := HL.out) (hLr := by exact fun p hp => ((HLR.out p hp).alloc _).alloc _) (hLo := by rw [HLL.out]; exact (hLo.alloc _).alloc _) (hsv := by exact (HSV.out.alloc _).alloc _) (hg := hgrow) (ho := by rw [HLL.out]; exact hown'); have HMR := Z0 hMR; have hgs := hgrow.size; clear hMR)
  go_end0
  exact ⟨rfl, HFIN.out _ _ (by rw [e1.out]) (by rw [e2.out]; rfl) _ HMR.out, by simp at hgs ⊢; omega⟩
 ·obtain ⟨g2, o2, rfl, gg2, c2⟩ := byte_of HRC.out rfl H1.out k2
  have e1 := Z0 (Z74 k1)
  have e2 := Z0 (getD_lt k2)
  have bb3 : (cents[out.length].toNat : Int) <= 255 := by have := cents[out.length].toNat_lt; omega
  have bb4 : 0 <= (cents[out.length].toNat : Int) := by omega
  go_enter Tryz.func61, Tryz.ntmps61
  go_wp2_with (at_builtin; refine wpList_append_own _ rfl _ _ 31 rfl (w.1.size + 3) 63 i0 (.agg #[.string ⟨#[]⟩, .int .i64 0, .slice none 0 0, .int .i64 0, .int .i64 0]) 5 64 Tryz.underlying31 HI.out.1 HI.out.2.1 HI.out.2.2.1 HI.out.2.2.2 rfl (by decide) _ _ _ rfl ((hLo.alloc _).alloc _) ⟨wx.1.size + 1, 0, none⟩ 1 1 (Z1U ({ l with min := 1, cents := (cents[out.length].toNat : Int) }, .slice sa l.labs.length sc)) rfl rfl (Z2a _ _ (by simp) _ _) (by simp [Value.oneCell', Z1U]) (by unfold maxLen; omega) (by omega) (by simp; omega) ?_; intro v' w2 hown' hgrow _; obtain ⟨gv, cv, rfl⟩ := Joins.ownsRow_form hown' (by omega); obtain ⟨hMR, hc, hfz⟩ := Zcx (L := L) (l := { l with min := 1, cents := (cents[out.length].toNat : Int) }) (h1 := by exact (H1.out.alloc H1.out.size _).alloc (by simp; omega) _) (h2 := by exact ZdE H2.out) (h3 := by exact ZdE H3.out) (h4 := by exact ZdE H4.out) (hL := HL.out) (hLr := by exact fun p hp => ((HLR.out p hp).alloc _).alloc _) (hLo := by rw [HLL.out]; exact (hLo.alloc _).alloc _) (hsv := by exact (HSV.out.alloc _).alloc _) (hg := hgrow) (ho := by rw [HLL.out]; exact hown'); have HMR := Z0 hMR; have hgs := hgrow.size; clear hMR)
  go_end0
  exact ⟨rfl, HFIN.out _ _ (by rw [e1.out]; rfl) (by rw [e2.out]) _ HMR.out, by simp at hgs ⊢; omega⟩
 ·have e1 := Z0 (Z74 k1)
  have e2 := Z0 (Z74 k2)
  go_enter Tryz.func61, Tryz.ntmps61
  go_wp2_with (at_builtin; refine wpList_append_own _ rfl _ _ 31 rfl (w.1.size + 3) 63 i0 (.agg #[.string ⟨#[]⟩, .int .i64 0, .slice none 0 0, .int .i64 0, .int .i64 0]) 5 64 Tryz.underlying31 HI.out.1 HI.out.2.1 HI.out.2.2.1 HI.out.2.2.2 rfl (by decide) _ _ _ rfl ((hLo.alloc _).alloc _) ⟨wx.1.size + 1, 0, none⟩ 1 1 (Z1U ({ l with min := 1, cents := 0 }, .slice sa l.labs.length sc)) rfl rfl (Z2a _ _ (by simp) _ _) (by simp [Value.oneCell', Z1U]) (by unfold maxLen; omega) (by omega) (by simp; omega) ?_; intro v' w2 hown' hgrow _; obtain ⟨gv, cv, rfl⟩ := Joins.ownsRow_form hown' (by omega); obtain ⟨hMR, hc, hfz⟩ := Zcx (L := L) (l := { l with min := 1, cents := 0 }) (h1 := by exact (H1.out.alloc H1.out.size _).alloc (by simp; omega) _) (h2 := by exact ZdE H2.out) (h3 := by exact ZdE H3.out) (h4 := by exact ZdE H4.out) (hL := HL.out) (hLr := by exact fun p hp => ((HLR.out p hp).alloc _).alloc _) (hLo := by rw [HLL.out]; exact (hLo.alloc _).alloc _) (hsv := by exact (HSV.out.alloc _).alloc _) (hg := hgrow) (ho := by rw [HLL.out]; exact hown'); have HMR := Z0 hMR; have hgs := hgrow.size; clear hMR)
  go_end0
  exact ⟨rfl, HFIN.out _ _ (by rw [e1.out]; rfl) (by rw [e2.out]; rfl) _ HMR.out, by simp at hgs ⊢; omega⟩
end Go.Proofs.YtlgajongmkhcnaaGreatDoor
namespace Go.Proofs.YtlgajongmkhcnaaGreatDoor
open Go.RowKit
set_option linter.unusedVariables false
def sel (cands : List ByteArray) (f : ByteArray -> Lab) (b : Nat -> Bool) (k : Nat) : List Lab := ((List.range k).filter b).map (fun i => f (cands.getD i ⟨#[]⟩))
theorem Z8z (cands : List ByteArray) (f : ByteArray -> Lab) (b : Nat -> Bool) (k : Nat) (h : k < cands.length) : sel cands f b (k + 1) = if b k then sel cands f b k ++ [f cands[k]] else sel cands f b k := by
 unfold sel
 rw [List.range_succ, List.filter_append, ZD]
 cases hb : b k
 ·rw [List.filter_cons_of_neg (by simpa using hb), List.filter_nil, List.map_nil, List.append_nil]; simp
 ·rw [List.filter_cons_of_pos (by simpa using hb), List.filter_nil, if_pos rfl]
  have : cands.getD k ⟨#[]⟩ = cands[k] := by rw [Z2, Z3 h]; rfl
  rw [List.map_cons, List.map_nil, this]
theorem Z5a (cands : List ByteArray) (f : ByteArray -> Lab) (b : Nat -> Bool) (k : Nat) : (sel cands f b k).length <= k := by
 unfold sel
 rw [Z7]
 have := List.length_filter_le b (List.range k)
 rw [List.length_range] at this
 exact this
def bt (n m : Int) : Bool := decide (0 < bits BinOp.and IntKind.u32 n m)
structure Bits where
 f5 : Bool
 f3 : Bool
 f1 : Bool
 b5 : Nat -> Bool
 b3 : Nat -> Bool
 b1 : Nat -> Bool
def bitsOf (n : Int) : Bits := ⟨bt n 1, bt n 2, bt n 4, fun k => bt (n / 2 ^ (3 + k)) 1, fun k => bt (n / 2 ^ (8 + k)) 1, fun k => bt (n / 2 ^ (14 + k)) 1⟩
def pre5 : List ByteArray := [⟨#[49, 48, 48, 48, 48]⟩, ⟨#[49, 48, 48, 48, 49]⟩, ⟨#[49, 48, 48, 49, 48]⟩, ⟨#[49, 49, 48, 48, 48]⟩, ⟨#[50, 48, 48, 48, 48]⟩]
def pre3 : List ByteArray := [⟨#[49, 48, 48]⟩, ⟨#[49, 48, 49]⟩, ⟨#[49, 49, 48]⟩, ⟨#[50, 48, 48]⟩, ⟨#[50, 48, 49]⟩, ⟨#[51, 48, 48]⟩]
def pre1 : List ByteArray := [⟨#[49]⟩, ⟨#[50]⟩, ⟨#[51]⟩]
def Z9Y (p : ByteArray) : Lab := ⟨p, ⟨#[72]⟩ ++ p.extract 0 3⟩
def Z9Z (p : ByteArray) : Lab := ⟨p, ⟨#[71]⟩ ++ p.extract 0 1⟩
def Za0 (p : ByteArray) : Lab := ⟨p, ⟨#[90]⟩⟩
def Zjy (B : Bits) : Lev := ⟨⟨#[102, 105, 118, 101]⟩, 5, sel pre5 Z9Y B.b5 5, 0, 0⟩
def Zjz (B : Bits) : Lev := ⟨⟨#[116, 104, 114, 101, 101]⟩, 3, sel pre3 Z9Z B.b3 6, 0, 0⟩
def ZjA (B : Bits) : Lev := ⟨⟨#[111, 110, 101]⟩, 1, sel pre1 Za0 B.b1 3, 0, 0⟩
def mk1 (B : Bits) (least cents : List UInt8) : List Lev := if B.f5 then Zbx least cents [] (Zjy B) else []
def mk2 (B : Bits) (least cents : List UInt8) : List Lev := if B.f3 then Zbx least cents (mk1 B least cents) (Zjz B) else mk1 B least cents
def mk3 (B : Bits) (least cents : List UInt8) : List Lev := if B.f1 then Zbx least cents (mk2 B least cents) (ZjA B) else mk2 B least cents
def Z1G (B : Bits) (least cents : List UInt8) : List Lev := mk3 B least cents ++ [⟨⟨#[97, 108, 108]⟩, 0, [], 0, ((cents.getD (mk3 B least cents).length 0).toNat : Int)⟩]
theorem ZiX (B : Bits) (least cents : List UInt8) : (mk1 B least cents).length <= 1 /\ (mk2 B least cents).length <= 2 /\ (mk3 B least cents).length <= 3 := by
 have h1 : (mk1 B least cents).length <= 1 := by unfold mk1 Zbx; split <;> simp
 have h2 : (mk2 B least cents).length <= 2 := by unfold mk2 Zbx; split <;> (try simp) <;> omega
 have h3 : (mk3 B least cents).length <= 3 := by unfold mk3 Zbx; split <;> (try simp) <;> omega
 exact ⟨h1, h2, h3⟩
def SR (wa : World) (nm : ByteArray) (pre : Int) (strs : Array Value) (labs : List Lab) (wr : World) : Prop :=
 Below wa.1.size wa wr /\ (∃ sv, wr.1[wa.1.size]? = some (.cells #[.string nm, .int .i64 pre, sv, .int .i64 0, .int .i64 0] 63 (0, 0)) /\ OwnsLab wr (wa.1.size + 1) sv labs) /\ wr.1[wa.1.size + 1]? = some (.cells strs 9 (0, 0))
theorem Z9a (wa : World) (nm : ByteArray) (pre : Int) (strs : Array Value) : SR wa nm pre strs [] ((wa.alloc (.cells #[.string nm, .int .i64 pre, .slice none 0 0, .int .i64 0, .int .i64 0] 63)).alloc (.cells strs 9)) := by
 have h := fun j o => @Z5M wa [.cells #[.string nm, .int .i64 pre, .slice none 0 0, .int .i64 0, .int .i64 0] 63, .cells strs 9] j o
 exact ⟨((Z9 _ wa).alloc (Z1 _) _).alloc (by simp) _, ⟨_, h 0 _ rfl, OwnsLab.nil _ _⟩, h 1 _ rfl⟩
theorem Zbz {wa wr W : World} {nm : ByteArray} {pre : Int} {strs : Array Value} {labs : List Lab} (h : SR wa nm pre strs labs wr) (x : Lab) (hl : labs.length <= 100) {i0 : TypeInfo} (hbW : Below wr.1.size wr W) (hszW : wr.1.size < W.1.size) (hcW : ∀ j u, (Z2h x)[j]? = some u -> W.cell? ((⟨wr.1.size, 0, none⟩ : Addr).add j) = some u) (hi : Tryz.prog.info? 150 = some i0 /\ i0.zero = some (.agg #[.string ⟨#[]⟩, .string ⟨#[]⟩]) /\ i0.size = 2 /\ i0.bytes = 32) :
 ∃ sa sc gv cv w1, wr.cell? ⟨wa.1.size, 2, none⟩ = some (.slice sa labs.length sc) /\ wa.1.size < wr.1.size /\
  (Builtin.append_ #[61, 61] 61 #[.slice sa labs.length sc, .slice (some ⟨wr.1.size, 0, none⟩) 1 1]).run Tryz.prog W = .ok (.slice (some ⟨gv, 0, none⟩) (labs.length + 1) cv) w1 /\
  w1.cell? ⟨wa.1.size, 2, none⟩ = some (.slice sa labs.length sc) /\ w1.frozen? ⟨wa.1.size, 2, none⟩ = false /\
  SR wa nm pre strs (labs ++ [x]) (w1.setCell ⟨wa.1.size, 2, none⟩ (.slice (some ⟨gv, 0, none⟩) (labs.length + 1) cv)) := by
 obtain ⟨h1, ⟨sv, h2, h3⟩, h4⟩ := h
 obtain ⟨sa, sc, rfl⟩ := OwnsLab.form h3
 have hlt := (Z5.1 h2).1
 have h3W : OwnsLab W (wa.1.size + 1) (.slice sa labs.length sc) labs := h3.kept (Z0a hbW) (Classical.em _)
 obtain ⟨v', w1, hr, ho, hg, _⟩ := run_append_own (P := Tryz.prog) W (wa.1.size + 1) 61 61 150 i0 (.agg #[.string ⟨#[]⟩, .string ⟨#[]⟩]) 2 32 Tryz.underlying61 hi.1 hi.2.1 hi.2.2.1 hi.2.2.2 rfl (by decide) (.slice sa labs.length sc) labs.length (labs.flatMap Z2h) h3W ⟨wr.1.size, 0, none⟩ 1 1 (Z2h x) rfl hcW (by simp [Value.oneCell', Z2h]) (by unfold maxLen; omega) (by omega) (by omega)
 obtain ⟨gv, cv, rfl⟩ := Joins.ownsRow_form ho (by omega)
 have nL := Z0s h3W (T := 63) (by decide)
 have nS := Z0s h3W (T := 9) (by decide)
 have k2 : W.1[wa.1.size]? = _ := (hbW.block _ hlt).trans h2
 have k4 : W.1[wa.1.size + 1]? = _ := (hbW.block _ (Z5.1 h4).1).trans h4
 have m2 := Z10 hg k2 (fun g e => nL g e _ _)
 have m4 := Z10 hg k4 (fun g e => nS g e _ _)
 refine ⟨sa, sc, gv, cv, w1, cell_of_row _ _ 2 _ _ _ h2, hlt, hr, cell_of_row _ _ 2 _ _ _ m2, frozen_of_row _ _ 2 _ _ m2, ?_, ⟨.slice (some ⟨gv, 0, none⟩) (labs.length + 1) cv, ?_, ?_⟩, ?_⟩
 ·have b1 : Below wa.1.size wa w1 := (Z00 h1 h1.size hbW).grown hg (by have := h1.size; have := hbW.size; omega) (fun r e => by have := (h3W.lt r e).1; omega)
  exact Z1d b1 (Z0J w1 ⟨wa.1.size, 2, none⟩ _) b1.size (Z1 _)
 ·exact heap_setCell_same w1 wa.1.size 2 _ _ _ m2
 ·have hno : ∀ g, some wa.1.size = some g -> ∀ cur fr, w1.1[g]? ≠ some (.cells cur 150 fr) := by
   intro g e cur fr e'
   injection e with e
   subst e
   rw [m2] at e'
   injection e' with e'
   injection e' with _ e' _
   exact absurd e' (by decide)
  have := Z0x ho (Z0J w1 ⟨wa.1.size, 2, none⟩ (.slice (some ⟨gv, 0, none⟩) (labs.length + 1) cv)) hno
  show (w1.setCell _ _).ownsRow _ _ _ _ _ _
  rw [List.flatMap_append, ZC]
  simpa using this
 ·exact (ZA _ _ _ _ (by show wa.1.size + 1 ≠ wa.1.size; omega)).trans m4
theorem wpList_append_run {P : Program} {ops : Array Oper} {rest : List Oper} {o : Oper} {a : Act} {w : World} {Q : Exit -> Act -> World -> Prop} (hgd : o.guard = none) (s x : Operand) (t : TypeId)
 (ho : o.op = .call { callee := .builtin .append, args := #[s, x], argTypes := #[t, t] }) {v u r : Value} {w' : World} (hr : (Builtin.append_ #[t, t] o.type #[v, u]).run P w = .ok r w') (hs : a.eval s = v) (hx : a.eval x = u)
 (h : wpList P ops Q rest (a.put o.dst r) w') : wpList P ops Q (o :: rest) a w := by
 refine wpList_plain hgd fun K hK => ?_
 unfold Oper.wp execOp
 simp only [ho, resolve, invoke, builtin, Sem.run_bind, Sem.run_pure, Result.andThen_ok, List.map_toArray, List.map_cons, List.map_nil, hs, hx, hr]
 exact hK _ _ h
theorem Z3m {P : Program} {ops : Array Oper} {o : Oper} {a : Act} {w : World} {K : Act -> World -> Prop} {Q : Exit -> Act -> World -> Prop} {E : Prop} (hgd : o.guard = none) (s x : Operand) (t : TypeId)
 (ho : o.op = .call { callee := .builtin .append, args := #[s, x], argTypes := #[t, t] }) {v u r : Value} {w' : World} (hr : (Builtin.append_ #[t, t] o.type #[v, u]).run P w = .ok r w') (hs : a.eval s = v) (hx : a.eval x = u)
 (h : K (a.put o.dst r) w') : if Region.wanted o (yielded ops a.tmps) = true then o.wp P a w K Q else E := by
 rw [if_pos (by simp [Region.wanted, hgd])]
 unfold Oper.wp execOp
 simp only [ho, resolve, invoke, builtin, Sem.run_bind, Sem.run_pure, Result.andThen_ok, List.map_toArray, List.map_cons, List.map_nil, hs, hx, hr]
 exact h
theorem Z3q {w : World} {b b' : Nat} {e : TypeId} {size : Nat} {v : Value} {n : Nat} {xs : List Value} (h : w.ownsRow b e size v n xs) (hb : b' <= b) : w.ownsRow b' e size v n xs := by
 obtain ⟨h1, h2 | ⟨g, cap, cur, hv, hg, r⟩⟩ := h
 ·exact ⟨h1, .inl h2⟩
 ·exact ⟨h1, .inr ⟨g, cap, cur, hv, Nat.le_trans hb hg, r⟩⟩
end Go.Proofs.YtlgajongmkhcnaaGreatDoor
namespace Go.Proofs.YtlgajongmkhcnaaGreatDoor
open Go.RowKit
set_option linter.unusedVariables false
set_option maxRecDepth 100000
theorem Z5w {n m : Int} (h : bt n m = true) : 0 < bits BinOp.and IntKind.u32 n m := by unfold bt at h; simpa using h
theorem Z3O {n m : Int} (h : bt n m = false) : bits BinOp.and IntKind.u32 n m <= 0 := by unfold bt at h; simpa using h
theorem ZgJ (n : Int) (vl vc : Value) (least cents : List UInt8) (w : World) (hn0 : 0 <= n) (hn1 : n < 4294967296) (hrl : RdBytes w vl least) (hrc : RdBytes w vc cents) (hll : least.length <= maxLen) (hcl : cents.length <= maxLen) :
 Calls Tryz.prog 25 #[.int .u32 n, vl, vc] w fun e w' => ∃ v, e = .returned v /\ Below w.1.size w w' /\ OwnsLv w' w.1.size v (Z1G (bitsOf n) least cents) := by
 obtain ⟨B, hB⟩ : ∃ B, bitsOf n = B := ⟨_, rfl⟩
 rw [hB]
 have HB := Z0 hB
 have HLN := Z0 (ZiX B least cents)
 have HADD := Z0 (fun l sv out wx hM hsv hc0 ho3 hx => ZeR l sv vl vc least cents out w wx hrl hrc hll hcl hM hsv hc0 ho3 hx)
 unfold lvA at HADD
 have HRC := Z0 hrc
 unfold maxLen at hcl hll
 obtain ⟨la, lc, rfl, _⟩ := hrl
 obtain ⟨ca, cc, rfl, _⟩ := hrc
 obtain ⟨i0, hi⟩ := info_parts Tryz.infoB
 have HI := Z0 hi
 obtain ⟨i1, hi1⟩ := info_parts Tryz.infoL
 have HI1 := Z0 hi1
 clear hi hi1 hB
 go_enter Tryz.func25, Tryz.ntmps25
 go_upto_if 22 with fail
 generalize hwa : ((w.alloc (.cells #[.slice la least.length lc] 23)).alloc (.cells #[.slice ca cents.length cc] 23)).alloc (.cells #[.slice none 0 0] 31) = wa
 have hM : MR w (.slice la least.length lc) (.slice ca cents.length cc) [] wa := by
  rw [<- hwa]
  have h := fun j o => @Z5M w [.cells #[.slice la least.length lc] 23, .cells #[.slice ca cents.length cc] 23, .cells #[.slice none 0 0] 31] j o
  exact ⟨(((Z9 _ w).alloc (Z1 _) _).alloc (by simp) _).alloc (by simp; omega) _, h 0 _ rfl, h 1 _ rfl, _, h 2 _ rfl, OwnsLv.nil _ _⟩
 have hx : w.1.size + 3 <= wa.1.size := by rw [<- hwa]; simp
 clear hwa
 go_cut [9] (fun _ wx => MR w (.slice la least.length lc) (.slice ca cents.length cc) (mk1 B least cents) wx /\ w.1.size + 3 <= wx.1.size)
 case first =>
  cases hf : bt n 1
  ·have HM : Hid (MR w (.slice la least.length lc) (.slice ca cents.length cc) (mk1 B least cents) wa) := by
    have e : B.f5 = false := by rw [<- HB.out]; exact hf
    unfold mk1; rw [e]; exact hM
   have hf' := Z3O hf
   have hfd : decide (0 < bits BinOp.and IntKind.u32 n 1) = false := hf
   rw [hfd]
   clear hf hfd
   go_wp2_with fail
   go_meet
   exact ⟨HM.out, hx⟩
  ·have hfe : B.f5 = true := by rw [<- HB.out]; exact hf
   have HFE := Z0 hfe
   have hf' := Z5w hf
   have hfd : decide (0 < bits BinOp.and IntKind.u32 n 1) = true := hf
   rw [hfd]
   clear hf hfe hfd
   go_wp2_with fail
   go_loopw [26] (fun i wr => ∃ k : Nat, k <= 5 /\ i = .int .i64 k /\ SR wa ⟨#[102, 105, 118, 101]⟩ 5 (pre5.map Value.string).toArray (sel pre5 Z9Y B.b5 k) wr) (fun i _ => 5 - (intOf i).toNat)
   case atStart => exact ⟨0, ZE _, rfl, Z9a wa _ _ _⟩
   case round =>
    obtain ⟨k, hk, rfl, hS⟩ := hrel
    by_cases hlt : k < 5
    ·have hpl : k < pre5.length := hlt
     have HSU := Z0 (Z8z pre5 Z9Y B.b5 k hpl)
     have hsl : (sel pre5 Z9Y B.b5 k).length <= 100 := by have := Z5a pre5 Z9Y B.b5 k; omega
     obtain ⟨sa, sc, gv, cv, w1, c2, hlw, hrun, d2, dz, hS2⟩ := Zbz (W := (wr.alloc (.cells #[.string (Z9Y pre5[k]).pre, .string (Z9Y pre5[k]).grp] 150)).drew) hS (Z9Y pre5[k]) hsl ((Z9 _ wr).alloc (Z1 _) _).drew (by simp) (by exact Z0f wr (Z2h (Z9Y pre5[k])) _) HI.out
     have cp : wr.cell? ⟨wa.1.size + 1, k, none⟩ = some (.string pre5[k]) := by
      rw [cell_of_row _ _ k _ _ _ hS.2.2]; simp [hpl]
     have hly : wa.1.size + 1 < wr.1.size := (Z5.1 hS.2.2).1
     have hps : pre5[k].size = 5 := by
      have : k = 0 \/ k = 1 \/ k = 2 \/ k = 3 \/ k = 4 := by omega
      rcases this with rfl | rfl | rfl | rfl | rfl <;> rfl
     have hps1 : pre5[k].size <= 5 := by omega
     have hps2 : 5 <= pre5[k].size := by omega
     have HBK : Hid (B.b5 k = bt (n / 2 ^ (3 + k)) 1) := by rw [<- HB.out]; exact rfl
     have HS := Z0 hS
     have HS2 := Z0 hS2
     clear hS hS2 hps
     generalize sel pre5 Z9Y B.b5 k = labs at HSU hsl c2 hrun d2 HS HS2
     dsimp only [Z9Y] at hrun
     generalize pre5[k] = p at cp hps1 hps2 hrun HSU HS2
     cases hb : bt (n / 2 ^ (3 + k)) 1
     ·have hb' := Z3O hb
      have HE : Hid (sel pre5 Z9Y B.b5 (k + 1) = labs) := by rw [HSU.out, HBK.out, hb]; exact rfl
      clear hb hrun
      go_wp2_with fail
      go_roundw
      case rel => exact ⟨k + 1, by omega, by go_num, by rw [HE.out]; exact HS.out⟩
      case measure => simp [intOf]; omega
     ·have hb' := Z5w hb
      have hp3 : (3 : Int) <= (p.size : Int) := by omega
      have hp4 : ¬ 9223372036854775807 < 1 + min 3 p.size := by omega
      have HE : Hid (sel pre5 Z9Y B.b5 (k + 1) = labs ++ [Z9Y p]) := by rw [HSU.out, HBK.out, hb]; exact rfl
      clear hb
      go_wp2_with fail
      go_region_law (refine Z3m rfl (.tmp 38) (.tmp 44) 61 rfl hrun (by simp [Act.eval]) (by simp [Act.eval]) ?_)
      all_goals
       go_wp2_with fail
       go_roundw
       case rel => exact ⟨k + 1, by omega, by go_num, by rw [HE.out]; exact HS2.out⟩
       case measure => simp [intOf]; omega
    ·have hke : k = 5 := by omega
     obtain ⟨s1, ⟨sv, s2, s3⟩, s4⟩ := hS
     rw [hke] at s3
     have hM2 := hM.below s1
     have hww := s1.size
     have hA := HADD.out (Zjy B) sv _ wr hM2 (Z3q s3 (by omega)) rfl (by simp) (by omega)
     obtain ⟨sa, sc, rfl⟩ := OwnsLab.form s3
     have y0 : wr.cell? ⟨wa.1.size, 0, none⟩ = _ := cell_of_row _ _ 0 _ _ _ s2
     have y1 : wr.cell? ⟨wa.1.size, 1, none⟩ = _ := cell_of_row _ _ 1 _ _ _ s2
     have y2 : wr.cell? ⟨wa.1.size, 2, none⟩ = _ := cell_of_row _ _ 2 _ _ _ s2
     have y3 : wr.cell? ⟨wa.1.size, 3, none⟩ = _ := cell_of_row _ _ 3 _ _ _ s2
     have y4 : wr.cell? ⟨wa.1.size, 4, none⟩ = _ := cell_of_row _ _ 4 _ _ _ s2
     simp at y0 y1 y2 y3 y4
     have HA := Z0 hA
     clear hA hM2 s2 s3 s4 hke
     go_wp2_with (go_at_call 61; refine HA.out.mono ?_; rintro e w2 ⟨rfl, hm2, hz2⟩; have HM2 := Z0 hm2; clear hm2)
     go_meet
     exact ⟨by unfold mk1; rw [HFE.out]; exact HM2.out, by omega⟩
 case rest =>
  clear hM hx
  obtain ⟨hM, hx⟩ := hcut
  clear wa
  obtain ⟨wa, hwa⟩ : ∃ wa : World, wa = wc := ⟨_, rfl⟩
  rw [<- hwa] at hM hx ⊢
  clear hwa
  clear wc
  go_upto_if 53 with fail
  go_cut [12] (fun _ wx => MR w (.slice la least.length lc) (.slice ca cents.length cc) (mk2 B least cents) wx /\ w.1.size + 3 <= wx.1.size)
  case first =>
   cases hf : bt n 2
   ·have HM : Hid (MR w (.slice la least.length lc) (.slice ca cents.length cc) (mk2 B least cents) wa) := by
     have e : B.f3 = false := by rw [<- HB.out]; exact hf
     unfold mk2; rw [e]; exact hM
    have hf' := Z3O hf
    have hfd : decide (0 < bits BinOp.and IntKind.u32 n 2) = false := hf
    rw [hfd]
    clear hf hfd
    go_wp2_with fail
    go_meet
    exact ⟨HM.out, hx⟩
   ·have hfe : B.f3 = true := by rw [<- HB.out]; exact hf
    have HFE := Z0 hfe
    have hf' := Z5w hf
    have hfd : decide (0 < bits BinOp.and IntKind.u32 n 2) = true := hf
    rw [hfd]
    clear hf hfe hfd
    go_wp2_with fail
    go_loopw [57] (fun i wr => ∃ k : Nat, k <= 6 /\ i = .int .i64 k /\ SR wa ⟨#[116, 104, 114, 101, 101]⟩ 3 (pre3.map Value.string).toArray (sel pre3 Z9Z B.b3 k) wr) (fun i _ => 6 - (intOf i).toNat)
    case atStart => exact ⟨0, ZE _, rfl, Z9a wa _ _ _⟩
    case round =>
     obtain ⟨k, hk, rfl, hS⟩ := hrel
     by_cases hlt : k < 6
     ·have hpl : k < pre3.length := hlt
      have HSU := Z0 (Z8z pre3 Z9Z B.b3 k hpl)
      have hsl : (sel pre3 Z9Z B.b3 k).length <= 100 := by have := Z5a pre3 Z9Z B.b3 k; omega
      obtain ⟨sa, sc, gv, cv, w1, c2, hlw, hrun, d2, dz, hS2⟩ := Zbz (W := (wr.alloc (.cells #[.string (Z9Z pre3[k]).pre, .string (Z9Z pre3[k]).grp] 150)).drew) hS (Z9Z pre3[k]) hsl ((Z9 _ wr).alloc (Z1 _) _).drew (by simp) (by exact Z0f wr (Z2h (Z9Z pre3[k])) _) HI.out
      have cp : wr.cell? ⟨wa.1.size + 1, k, none⟩ = some (.string pre3[k]) := by
       rw [cell_of_row _ _ k _ _ _ hS.2.2]; simp [hpl]
      have hly : wa.1.size + 1 < wr.1.size := (Z5.1 hS.2.2).1
      have hps : pre3[k].size = 3 := by
       have : k = 0 \/ k = 1 \/ k = 2 \/ k = 3 \/ k = 4 \/ k = 5 := by omega
       rcases this with rfl | rfl | rfl | rfl | rfl | rfl <;> rfl
      have hps1 : pre3[k].size <= 3 := by omega
      have hps2 : 3 <= pre3[k].size := by omega
      have HBK : Hid (B.b3 k = bt (n / 2 ^ (8 + k)) 1) := by rw [<- HB.out]; exact rfl
      have HS := Z0 hS
      have HS2 := Z0 hS2
      clear hS hS2 hps
      generalize sel pre3 Z9Z B.b3 k = labs at HSU hsl c2 hrun d2 HS HS2
      dsimp only [Z9Z] at hrun
      generalize pre3[k] = p at cp hps1 hps2 hrun HSU HS2
      cases hb : bt (n / 2 ^ (8 + k)) 1
      ·have hb' := Z3O hb
       have HE : Hid (sel pre3 Z9Z B.b3 (k + 1) = labs) := by rw [HSU.out, HBK.out, hb]; exact rfl
       clear hb hrun
       go_wp2_with fail
       go_roundw
       case rel => exact ⟨k + 1, by omega, by go_num, by rw [HE.out]; exact HS.out⟩
       case measure => simp [intOf]; omega
      ·have hb' := Z5w hb
       have hp3 : (1 : Int) <= (p.size : Int) := by omega
       have hp4 : ¬ 9223372036854775807 < 1 + min 1 p.size := by omega
       have HE : Hid (sel pre3 Z9Z B.b3 (k + 1) = labs ++ [Z9Z p]) := by rw [HSU.out, HBK.out, hb]; exact rfl
       clear hb
       go_wp2_with fail
       go_region_law (refine Z3m rfl (.tmp 69) (.tmp 75) 61 rfl hrun (by simp [Act.eval]) (by simp [Act.eval]) ?_)
       all_goals
        go_wp2_with fail
        go_roundw
        case rel => exact ⟨k + 1, by omega, by go_num, by rw [HE.out]; exact HS2.out⟩
        case measure => simp [intOf]; omega
     ·have hke : k = 6 := by omega
      obtain ⟨s1, ⟨sv, s2, s3⟩, s4⟩ := hS
      rw [hke] at s3
      have hM2 := hM.below s1
      have hww := s1.size
      have hA := HADD.out (Zjz B) sv _ wr hM2 (Z3q s3 (by omega)) rfl (by have := HLN.out; omega) (by omega)
      obtain ⟨sa, sc, rfl⟩ := OwnsLab.form s3
      have y0 : wr.cell? ⟨wa.1.size, 0, none⟩ = _ := cell_of_row _ _ 0 _ _ _ s2
      have y1 : wr.cell? ⟨wa.1.size, 1, none⟩ = _ := cell_of_row _ _ 1 _ _ _ s2
      have y2 : wr.cell? ⟨wa.1.size, 2, none⟩ = _ := cell_of_row _ _ 2 _ _ _ s2
      have y3 : wr.cell? ⟨wa.1.size, 3, none⟩ = _ := cell_of_row _ _ 3 _ _ _ s2
      have y4 : wr.cell? ⟨wa.1.size, 4, none⟩ = _ := cell_of_row _ _ 4 _ _ _ s2
      simp at y0 y1 y2 y3 y4
      have HA := Z0 hA
      clear hA hM2 s2 s3 s4 hke
      go_wp2_with (go_at_call 61; refine HA.out.mono ?_; rintro e w2 ⟨rfl, hm2, hz2⟩; have HM2 := Z0 hm2; clear hm2)
      go_meet
      exact ⟨by unfold mk2; rw [HFE.out]; exact HM2.out, by omega⟩
  case rest =>
   clear hM hx
   obtain ⟨hM, hx⟩ := hcut
   clear wa
   obtain ⟨wa, hwa⟩ : ∃ wa : World, wa = wc := ⟨_, rfl⟩
   rw [<- hwa] at hM hx ⊢
   clear hwa
   clear wc
   go_upto_if 84 with fail
   go_cut [15] (fun _ wx => MR w (.slice la least.length lc) (.slice ca cents.length cc) (mk3 B least cents) wx /\ w.1.size + 3 <= wx.1.size)
   case first =>
    cases hf : bt n 4
    ·have HM : Hid (MR w (.slice la least.length lc) (.slice ca cents.length cc) (mk3 B least cents) wa) := by
      have e : B.f1 = false := by rw [<- HB.out]; exact hf
      unfold mk3; rw [e]; exact hM
     have hf' := Z3O hf
     have hfd : decide (0 < bits BinOp.and IntKind.u32 n 4) = false := hf
     rw [hfd]
     clear hf hfd
     go_wp2_with fail
     go_meet
     exact ⟨HM.out, hx⟩
    ·have hfe : B.f1 = true := by rw [<- HB.out]; exact hf
     have HFE := Z0 hfe
     have hf' := Z5w hf
     have hfd : decide (0 < bits BinOp.and IntKind.u32 n 4) = true := hf
     rw [hfd]
     clear hf hfe hfd
     go_wp2_with fail
     go_loopw [88] (fun i wr => ∃ k : Nat, k <= 3 /\ i = .int .i64 k /\ SR wa ⟨#[111, 110, 101]⟩ 1 (pre1.map Value.string).toArray (sel pre1 Za0 B.b1 k) wr) (fun i _ => 3 - (intOf i).toNat)
     case atStart => exact ⟨0, ZE _, rfl, Z9a wa _ _ _⟩
     case round =>
      obtain ⟨k, hk, rfl, hS⟩ := hrel
      by_cases hlt : k < 3
      ·have hpl : k < pre1.length := hlt
       have HSU := Z0 (Z8z pre1 Za0 B.b1 k hpl)
       have hsl : (sel pre1 Za0 B.b1 k).length <= 100 := by have := Z5a pre1 Za0 B.b1 k; omega
       obtain ⟨sa, sc, gv, cv, w1, c2, hlw, hrun, d2, dz, hS2⟩ := Zbz (W := (wr.alloc (.cells #[.string (Za0 pre1[k]).pre, .string (Za0 pre1[k]).grp] 150))) hS (Za0 pre1[k]) hsl ((Z9 _ wr).alloc (Z1 _) _) (by simp) (by exact Z0f wr (Z2h (Za0 pre1[k])) _) HI.out
       have cp : wr.cell? ⟨wa.1.size + 1, k, none⟩ = some (.string pre1[k]) := by
        rw [cell_of_row _ _ k _ _ _ hS.2.2]; simp [hpl]
       have hly : wa.1.size + 1 < wr.1.size := (Z5.1 hS.2.2).1
       have hps : pre1[k].size = 1 := by
        have : k = 0 \/ k = 1 \/ k = 2 := by omega
        rcases this with rfl | rfl | rfl <;> rfl
       have hps1 : pre1[k].size <= 1 := by omega
       have hps2 : 1 <= pre1[k].size := by omega
       have HBK : Hid (B.b1 k = bt (n / 2 ^ (14 + k)) 1) := by rw [<- HB.out]; exact rfl
       have HS := Z0 hS
       have HS2 := Z0 hS2
       clear hS hS2 hps
       generalize sel pre1 Za0 B.b1 k = labs at HSU hsl c2 hrun d2 HS HS2
       dsimp only [Za0] at hrun
       generalize pre1[k] = p at cp hps1 hps2 hrun HSU HS2
       cases hb : bt (n / 2 ^ (14 + k)) 1
       ·have hb' := Z3O hb
        have HE : Hid (sel pre1 Za0 B.b1 (k + 1) = labs) := by rw [HSU.out, HBK.out, hb]; exact rfl
        clear hb hrun
        go_wp2_with fail
        go_roundw
        case rel => exact ⟨k + 1, by omega, by go_num, by rw [HE.out]; exact HS.out⟩
        case measure => simp [intOf]; omega
       ·have hb' := Z5w hb
        have HE : Hid (sel pre1 Za0 B.b1 (k + 1) = labs ++ [Za0 p]) := by rw [HSU.out, HBK.out, hb]; exact rfl
        clear hb
        go_wp2_with (at_builtin; refine wpList_append_run rfl (.tmp 100) (.tmp 103) 61 rfl hrun rfl rfl ?_)
        go_roundw
        case rel => exact ⟨k + 1, by omega, by go_num, by rw [HE.out]; exact HS2.out⟩
        case measure => simp [intOf]; omega
      ·have hke : k = 3 := by omega
       obtain ⟨s1, ⟨sv, s2, s3⟩, s4⟩ := hS
       rw [hke] at s3
       have hM2 := hM.below s1
       have hww := s1.size
       have hA := HADD.out (ZjA B) sv _ wr hM2 (Z3q s3 (by omega)) rfl (by have := HLN.out; omega) (by omega)
       obtain ⟨sa, sc, rfl⟩ := OwnsLab.form s3
       have y0 : wr.cell? ⟨wa.1.size, 0, none⟩ = _ := cell_of_row _ _ 0 _ _ _ s2
       have y1 : wr.cell? ⟨wa.1.size, 1, none⟩ = _ := cell_of_row _ _ 1 _ _ _ s2
       have y2 : wr.cell? ⟨wa.1.size, 2, none⟩ = _ := cell_of_row _ _ 2 _ _ _ s2
       have y3 : wr.cell? ⟨wa.1.size, 3, none⟩ = _ := cell_of_row _ _ 3 _ _ _ s2
       have y4 : wr.cell? ⟨wa.1.size, 4, none⟩ = _ := cell_of_row _ _ 4 _ _ _ s2
       simp at y0 y1 y2 y3 y4
       have HA := Z0 hA
       clear hA hM2 s2 s3 s4 hke
       go_wp2_with (go_at_call 61; refine HA.out.mono ?_; rintro e w2 ⟨rfl, hm2, hz2⟩; have HM2 := Z0 hm2; clear hm2)
       go_meet
       exact ⟨by unfold mk3; rw [HFE.out]; exact HM2.out, by omega⟩
   case rest =>
    clear hM hx
    obtain ⟨hM, hx⟩ := hcut
    clear wa
    obtain ⟨wa, hwa⟩ : ∃ wa : World, wa = wc := ⟨_, rfl⟩
    rw [<- hwa] at hM hx ⊢
    clear hwa
    clear wc
    obtain ⟨h1, h2, h3, v, h4, L, hL, hLr, hLo⟩ := hM
    have hL3 := HLN.out.2.2
    have hLl : L.length = (mk3 B least cents).length := by rw [<- hL, Z7]
    rw [hLl] at hLo
    obtain ⟨a, cap, rfl⟩ : ∃ a cap, v = .slice a (mk3 B least cents).length cap := by
     rcases Joins.ownsRow_forms hLo with ⟨rfl, hp⟩ | ⟨g, cap, rfl⟩
     ·exact ⟨none, 0, by rw [hp]⟩
     ·exact ⟨_, cap, rfl⟩
    have x1 := cell_of_one h3
    have x2 := cell_of_one h4
    have hx2 : w.1.size + 2 < wa.1.size := by omega
    have hx1 : w.1.size + 1 < wa.1.size := by omega
    have H1 := Z0 h1
    have HL := Z0 hL
    have HLL := Z0 hLl
    have HLR := Z0 hLr
    have FIN : Hid (∀ (c : Int) (v' : Value) (w2 : World) (o1 o2 : Obj), c = ((cents.getD (mk3 B least cents).length 0).toNat : Int) -> w2.ownsRow (w.1.size + 3) 63 5 v' ((mk3 B least cents).length + 1) (L.flatMap Z1U ++ Z1U (⟨⟨#[97, 108, 108]⟩, 0, [], 0, c⟩, .slice none 0 0)) -> ((wa.alloc o1).alloc o2).grownBy w2 (Value.slice a (mk3 B least cents).length cap).ownBlock -> Below w.1.size w w2 /\ OwnsLv w2 w.1.size v' (Z1G B least cents)) := by
     intro c v' w2 o1 o2 hc ho hg
     have hLo2 := (hLo.alloc o1).alloc o2
     refine ⟨((h1.alloc h1.size o1).alloc (by have := h1.size; simp; omega) o2).grown hg (by have := h1.size; simp; omega) (fun r e => by have := (hLo.lt r e).1; omega), L ++ [(⟨⟨#[97, 108, 108]⟩, 0, [], 0, c⟩, .slice none 0 0)], ?_, ?_, ?_⟩
     ·rw [ZD, hL]; unfold Z1G; rw [hc]; rfl
     ·intro p hp
      have nA := Z0s hLo2 (T := 150) (by decide)
      rcases ZG.1 hp with hp | hp
      ·exact Z3q (Z0x (((hLr p hp).alloc o1).alloc o2) hg (fun g e => nA g e)) (by omega)
      ·rw [ZI.1 hp]; exact OwnsLab.nil _ _
     ·rw [List.flatMap_append, ZC, hLl]
      have := Z3q ho (b' := w.1.size) (by omega)
      simpa using this
    clear h1 h2 h3 h4 hL hLr hLl
    by_cases k2 : (mk3 B least cents).length < cents.length
    ·obtain ⟨g2, o2, rfl, gg2, c2⟩ := byte_of HRC.out rfl H1.out k2
     have e2 := Z0 (getD_lt k2)
     have bb3 : (cents[(mk3 B least cents).length].toNat : Int) <= 255 := by have := cents[(mk3 B least cents).length].toNat_lt; omega
     have bb4 : 0 <= (cents[(mk3 B least cents).length].toNat : Int) := by omega
     go_wp2_with (at_builtin; refine wpList_append_own _ rfl _ _ 31 rfl (w.1.size + 3) 63 i1 (.agg #[.string ⟨#[]⟩, .int .i64 0, .slice none 0 0, .int .i64 0, .int .i64 0]) 5 64 Tryz.underlying31 HI1.out.1 HI1.out.2.1 HI1.out.2.2.1 HI1.out.2.2.2 rfl (by decide) _ _ _ rfl ((hLo.alloc _).alloc _) ⟨wa.1.size + 1, 0, none⟩ 1 1 (Z1U (⟨⟨#[97, 108, 108]⟩, 0, [], 0, (cents[(mk3 B least cents).length].toNat : Int)⟩, .slice none 0 0)) rfl rfl (Z2a _ _ (by simp) _ _) (by simp [Value.oneCell', Z1U]) (by unfold maxLen; omega) (by omega) (by simp; omega) ?_; intro v' w2 hown' hgrow _)
     go_ret
     obtain ⟨f1, f2⟩ := FIN.out _ _ _ _ _ (by rw [e2.out]) hown' hgrow
     exact ⟨_, rfl, f1, f2⟩
    ·have e2 := Z0 (Z74 k2)
     go_wp2_with (at_builtin; refine wpList_append_own _ rfl _ _ 31 rfl (w.1.size + 3) 63 i1 (.agg #[.string ⟨#[]⟩, .int .i64 0, .slice none 0 0, .int .i64 0, .int .i64 0]) 5 64 Tryz.underlying31 HI1.out.1 HI1.out.2.1 HI1.out.2.2.1 HI1.out.2.2.2 rfl (by decide) _ _ _ rfl ((hLo.alloc _).alloc _) ⟨wa.1.size + 1, 0, none⟩ 1 1 (Z1U (⟨⟨#[97, 108, 108]⟩, 0, [], 0, 0⟩, .slice none 0 0)) rfl rfl (Z2a _ _ (by simp) _ _) (by simp [Value.oneCell', Z1U]) (by unfold maxLen; omega) (by omega) (by simp; omega) ?_; intro v' w2 hown' hgrow _)
     go_ret
     obtain ⟨f1, f2⟩ := FIN.out _ _ _ _ _ (by rw [e2.out]; rfl) hown' hgrow
     exact ⟨_, rfl, f1, f2⟩
end Go.Proofs.YtlgajongmkhcnaaGreatDoor
namespace Go.Proofs.YtlgajongmkhcnaaGreatDoor
open Go.RowKit
set_option linter.unusedVariables false
def ZfI : Nat -> List (List Bool)
 | 0 => [[]]
 | n + 1 => (ZfI n).flatMap (fun l => [false :: l, true :: l])
theorem Z9P : ∀ l : List Bool, l ∈ ZfI l.length
 | [] => by simp [ZfI]
 | b :: l => by
  rw [List.length_cons]
  unfold ZfI
  rw [List.mem_flatMap]
  refine ⟨l, Z9P l, ?_⟩
  cases b <;> simp
def ZiE (f : ByteArray -> Lab) : List ByteArray -> List Bool -> List Lab
 | c :: cs, b :: bs => if b then f c :: ZiE f cs bs else ZiE f cs bs
 | _, _ => []
theorem ZbO (f : ByteArray -> Lab) (b : Nat -> Bool) : ∀ (cands : List ByteArray) (s : Nat) (all : List ByteArray), (∀ i, cands[i]? = all[s + i]?) ->
 (((List.range' s cands.length).filter b).map (fun i => f (all.getD i ⟨#[]⟩))) = ZiE f cands ((List.range' s cands.length).map b)
 | [], s, all, h => rfl
 | c :: cs, s, all, h => by
  rw [List.length_cons, List.range'_succ, List.map_cons]
  have hc : all.getD s ⟨#[]⟩ = c := by
   have := h 0
   rw [Z2, <- show all[s + 0]? = all[s]? from rfl, <- this]; rfl
  have ih := ZbO f b cs (s + 1) all (fun i => by have := h (i + 1); rw [List.getElem?_cons_succ] at this; rw [this]; congr 1; omega)
  unfold ZiE
  cases hb : b s
  ·rw [List.filter_cons_of_neg (by simpa using hb), if_neg (by simp)]; exact ih
  ·rw [List.filter_cons_of_pos (by simpa using hb), if_pos rfl, List.map_cons, hc, ih]
theorem ZiO (f : ByteArray -> Lab) (b : Nat -> Bool) (cands : List ByteArray) : sel cands f b cands.length = ZiE f cands ((List.range cands.length).map b) := by
 unfold sel
 have := ZbO f b cands 0 cands (fun i => by rw [Nat.zero_add])
 rw [List.range_eq_range']
 exact this
theorem ZaE {P : List Lab -> Bool} (f : ByteArray -> Lab) (cands : List ByteArray) (k : Nat) (hk : k = cands.length) (h : (ZfI k).all (fun bs => P (ZiE f cands bs)) = true) (b : Nat -> Bool) : P (sel cands f b k) = true := by
 subst hk
 rw [ZiO]
 refine List.all_eq_true.1 h _ ?_
 have := Z9P ((List.range cands.length).map b)
 simpa using this
def Z9X (p : Int) (labs : List Lab) : Bool := labs.all (fun x => decide ((x.pre.size : Int) = p) && Z1u x.pre && Z2N x.grp) && Z57 labs
def Z2y (p : Int) (m : Nat) (labs : List Lab) : Bool :=
 (labs.flatMap (Z0K ⟨⟨#[]⟩, p, labs, 0, 0⟩)).all (fun x => (labs.flatMap (Z0K ⟨⟨#[]⟩, p, labs, 0, 0⟩)).all (fun y => !decide (x.1 = y.1) || decide (x.2.extract 0 m = y.2.extract 0 m)))
def Zjk (labs : List Lab) : Bool := Z9X 5 labs && Z2y 5 3 labs && Z2y 5 1 labs && Z2y 5 0 labs
def Zjl (labs : List Lab) : Bool := Z9X 3 labs && Z2y 3 1 labs && Z2y 3 0 labs
def Zjm (labs : List Lab) : Bool := Z9X 1 labs && Z2y 1 0 labs
theorem ok5 (b : Nat -> Bool) : Zjk (sel pre5 Z9Y b 5) = true := ZaE Z9Y pre5 5 rfl (by kernel_rfl) b
theorem ok3 (b : Nat -> Bool) : Zjl (sel pre3 Z9Z b 6) = true := ZaE Z9Z pre3 6 rfl (by kernel_rfl) b
theorem ok1 (b : Nat -> Bool) : Zjm (sel pre1 Za0 b 3) = true := ZaE Za0 pre1 3 rfl (by kernel_rfl) b
theorem Zex (l : Lev) : Z0K l = Z0K ⟨⟨#[]⟩, l.pre, l.labs, 0, 0⟩ := rfl
theorem Z29 {l next : Lev} (h : Z2y l.pre next.pre.toNat l.labs = true) : Z6G l next = true := by
 rw [Z9L]
 unfold Z2y at h
 rw [<- Zex] at h
 simp only [List.all_eq_true, Bool.or_eq_true, Bool.not_eq_true', decide_eq_false_iff_not, decide_eq_true_eq] at h
 intro x hx y hy e
 rcases h x hx y hy with h' | h'
 ·exact absurd e h'
 ·unfold Z0e; rw [h']
theorem Z5m {l : Lev} (hn : Z2N l.name = true) (hp : 0 <= l.pre /\ l.pre <= 10) (hm : 1 <= l.min /\ l.min <= 2000) (hc : 0 <= l.cents /\ l.cents <= 1000000) (hl : Z9X l.pre l.labs = true) : Z3f l false = true := by
 unfold Z9X at hl
 rw [ZF] at hl
 unfold Z3f Z46
 rw [hn]
 simp only [Bool.true_and, ZF, decide_eq_true_eq, Bool.false_eq_true, if_false]
 exact ⟨⟨hp.1, hp.2, hc.1, hc.2⟩, ⟨⟨hm.1, hm.2⟩, hl.1⟩, hl.2⟩
theorem Zdt {labs : List Lab} (h : Zjk labs = true) : Z9X 5 labs = true /\ Z2y 5 3 labs = true /\ Z2y 5 1 labs = true /\ Z2y 5 0 labs = true := by unfold Zjk at h; simpa [ZF, and_assoc] using h
theorem Zdu {labs : List Lab} (h : Zjl labs = true) : Z9X 3 labs = true /\ Z2y 3 1 labs = true /\ Z2y 3 0 labs = true := by unfold Zjl at h; simpa [ZF, and_assoc] using h
theorem Zdv {labs : List Lab} (h : Zjm labs = true) : Z9X 1 labs = true /\ Z2y 1 0 labs = true := by unfold Zjm at h; simpa [ZF, and_assoc] using h
theorem Zbt (x : UInt8) : 0 <= (x.toNat : Int) /\ (x.toNat : Int) <= 255 := by have := x.toNat_lt; omega
theorem ZgI (f5 f3 f1 : Bool) (labs5 labs3 labs1 : List Lab) (h5 : Zjk labs5 = true) (h3 : Zjl labs3 = true) (h1 : Zjm labs1 = true) (s5 : labs5.length <= 5) (s3 : labs3.length <= 6) (s1 : labs1.length <= 3) (m5 m3 m1 c5 c3 c1 c0 : Int) (hm5 : 1 <= m5 /\ m5 <= 2000) (hm3 : 1 <= m3 /\ m3 <= 2000) (hm1 : 1 <= m1 /\ m1 <= 2000) (hc5 : 0 <= c5 /\ c5 <= 1000000) (hc3 : 0 <= c3 /\ c3 <= 1000000) (hc1 : 0 <= c1 /\ c1 <= 1000000) (hc0 : 0 <= c0 /\ c0 <= 1000000) :
 ZbU ((if f5 then [⟨⟨#[102, 105, 118, 101]⟩, 5, labs5, m5, c5⟩] else []) ++ (if f3 then [⟨⟨#[116, 104, 114, 101, 101]⟩, 3, labs3, m3, c3⟩] else []) ++ (if f1 then [⟨⟨#[111, 110, 101]⟩, 1, labs1, m1, c1⟩] else []) ++ [⟨⟨#[97, 108, 108]⟩, 0, [], 0, c0⟩]) = true := by
 obtain ⟨a0, a1, a2, a3⟩ := Zdt h5
 obtain ⟨b0, b1, b2⟩ := Zdu h3
 obtain ⟨d0, d1⟩ := Zdv h1
 have L5 : Z3f ⟨⟨#[102, 105, 118, 101]⟩, 5, labs5, m5, c5⟩ false = true := Z5m (by kernel_rfl) ⟨by show (0 : Int) <= 5; decide, by show (5 : Int) <= 10; decide⟩ hm5 hc5 a0
 have L3 : Z3f ⟨⟨#[116, 104, 114, 101, 101]⟩, 3, labs3, m3, c3⟩ false = true := Z5m (by kernel_rfl) ⟨by show (0 : Int) <= 3; decide, by show (3 : Int) <= 10; decide⟩ hm3 hc3 b0
 have L1 : Z3f ⟨⟨#[111, 110, 101]⟩, 1, labs1, m1, c1⟩ false = true := Z5m (by kernel_rfl) ⟨by show (0 : Int) <= 1; decide, by show (1 : Int) <= 10; decide⟩ hm1 hc1 d0
 have L0 : Z3f ⟨⟨#[97, 108, 108]⟩, 0, [], 0, c0⟩ true = true := by
  unfold Z3f Z46
  have : Z2N ⟨#[97, 108, 108]⟩ = true := by kernel_rfl
  simp [this, hc0.1, hc0.2]
 have N53 : Z6G ⟨⟨#[102, 105, 118, 101]⟩, 5, labs5, m5, c5⟩ ⟨⟨#[116, 104, 114, 101, 101]⟩, 3, labs3, m3, c3⟩ = true := Z29 a1
 have N51 : Z6G ⟨⟨#[102, 105, 118, 101]⟩, 5, labs5, m5, c5⟩ ⟨⟨#[111, 110, 101]⟩, 1, labs1, m1, c1⟩ = true := Z29 a2
 have N50 : Z6G ⟨⟨#[102, 105, 118, 101]⟩, 5, labs5, m5, c5⟩ ⟨⟨#[97, 108, 108]⟩, 0, [], 0, c0⟩ = true := Z29 a3
 have N31 : Z6G ⟨⟨#[116, 104, 114, 101, 101]⟩, 3, labs3, m3, c3⟩ ⟨⟨#[111, 110, 101]⟩, 1, labs1, m1, c1⟩ = true := Z29 b1
 have N30 : Z6G ⟨⟨#[116, 104, 114, 101, 101]⟩, 3, labs3, m3, c3⟩ ⟨⟨#[97, 108, 108]⟩, 0, [], 0, c0⟩ = true := Z29 b2
 have N10 : Z6G ⟨⟨#[111, 110, 101]⟩, 1, labs1, m1, c1⟩ ⟨⟨#[97, 108, 108]⟩, 0, [], 0, c0⟩ = true := Z29 d1
 have e1 : decide ((⟨#[102, 105, 118, 101]⟩ : ByteArray) = ⟨#[116, 104, 114, 101, 101]⟩) = false := by kernel_rfl
 have e2 : decide ((⟨#[102, 105, 118, 101]⟩ : ByteArray) = ⟨#[111, 110, 101]⟩) = false := by kernel_rfl
 have e3 : decide ((⟨#[102, 105, 118, 101]⟩ : ByteArray) = ⟨#[97, 108, 108]⟩) = false := by kernel_rfl
 have e4 : decide ((⟨#[116, 104, 114, 101, 101]⟩ : ByteArray) = ⟨#[111, 110, 101]⟩) = false := by kernel_rfl
 have e5 : decide ((⟨#[116, 104, 114, 101, 101]⟩ : ByteArray) = ⟨#[97, 108, 108]⟩) = false := by kernel_rfl
 have e6 : decide ((⟨#[111, 110, 101]⟩ : ByteArray) = ⟨#[97, 108, 108]⟩) = false := by kernel_rfl
 cases f5 <;> cases f3 <;> cases f1
 all_goals
  simp only [Bool.false_eq_true, if_false, if_true, List.nil_append, List.cons_append]
  unfold ZbU
  simp only [Z5l, Z9M, Zak, L5, L3, L1, L0, N53, N51, N50, N31, N30, N10, e1, e2, e3, e4, e5, e6, List.all_cons, List.all_nil, Bool.not_false, Bool.and_true, Bool.and_self]
  simp
  try omega
theorem Zdb (B : Bits) (least cents : List UInt8) : Z0i (Z1G B least cents) = true := by
 rw [Z9u]
 have hb : ∀ l : List UInt8, ∀ i, 1 <= 1 + ((l.getD i 0).toNat : Int) /\ 1 + ((l.getD i 0).toNat : Int) <= 2000 := fun l i => by have := Zbt (l.getD i 0); omega
 have hc : ∀ l : List UInt8, ∀ i, 0 <= ((l.getD i 0).toNat : Int) /\ ((l.getD i 0).toNat : Int) <= 1000000 := fun l i => by have := Zbt (l.getD i 0); omega
 obtain ⟨m5, c5, e1⟩ : ∃ i j : Nat, mk1 B least cents = if B.f5 then [⟨⟨#[102, 105, 118, 101]⟩, 5, sel pre5 Z9Y B.b5 5, 1 + ((least.getD i 0).toNat : Int), ((cents.getD j 0).toNat : Int)⟩] else [] := ⟨0, 0, by unfold mk1 Zbx Zjy; rfl⟩
 obtain ⟨m3, c3, e2⟩ : ∃ i j : Nat, mk2 B least cents = mk1 B least cents ++ if B.f3 then [⟨⟨#[116, 104, 114, 101, 101]⟩, 3, sel pre3 Z9Z B.b3 6, 1 + ((least.getD i 0).toNat : Int), ((cents.getD j 0).toNat : Int)⟩] else [] := ⟨(mk1 B least cents).length, (mk1 B least cents).length, by unfold mk2 Zbx Zjz; split <;> simp⟩
 obtain ⟨m1, c1, e3⟩ : ∃ i j : Nat, mk3 B least cents = mk2 B least cents ++ if B.f1 then [⟨⟨#[111, 110, 101]⟩, 1, sel pre1 Za0 B.b1 3, 1 + ((least.getD i 0).toNat : Int), ((cents.getD j 0).toNat : Int)⟩] else [] := ⟨(mk2 B least cents).length, (mk2 B least cents).length, by unfold mk3 Zbx ZjA; split <;> simp⟩
 unfold Z1G
 generalize (mk3 B least cents).length = n0
 rw [e3, e2, e1]
 exact ZgI B.f5 B.f3 B.f1 _ _ _ (ok5 _) (ok3 _) (ok1 _) (Z5a _ _ _ _) (Z5a _ _ _ _) (Z5a _ _ _ _) _ _ _ _ _ _ _ (hb _ _) (hb _ _) (hb _ _) (hc _ _) (hc _ _) (hc _ _) (hc _ _)
theorem extract_extract (c : ByteArray) {n m : Nat} (h : m <= n) : (c.extract 0 n).extract 0 m = c.extract 0 m := by
 apply Z7e
 simp
 omega
theorem Z4x {c : ByteArray} (h : Z1u c = true) (n : Nat) : Z1u (c.extract 0 n) = true := by
 unfold Z1u ZfP at *
 rw [List.all_eq_true] at *
 intro x hx
 refine h x ?_
 have : (c.extract 0 n).data.toList = c.data.toList.take n := by simp
 rw [this] at hx
 exact List.mem_of_mem_take hx
theorem Zd7 {l next : Lev} (hn : Z5i l next) (h0 : 0 <= next.pre) (h1 : next.pre <= l.pre) {c d : ByteArray} (hpc : Z1u c = true) (hpd : Z1u d = true) (hc : l.pre <= c.size) (hd : l.pre <= d.size) (h : Z0e l c = Z0e l d) : Z0e next c = Z0e next d := by
 have up : ∀ x : ByteArray, Z0e next (x.extract 0 l.pre.toNat) = Z0e next x := fun x => by unfold Z0e; rw [extract_extract x (by omega)]
 rw [<- up c, <- up d]
 have sz : ∀ x : ByteArray, l.pre <= x.size -> ((x.extract 0 l.pre.toNat).size : Int) = l.pre := fun x hx => by rw [ByteArray.size_extract]; omega
 have mem : ∀ (x y : ByteArray), Z1z l.labs x = some y -> (y, x) ∈ l.labs.flatMap (Z0K l) := fun x y hxy => by
  unfold Z1z at hxy
  cases hf : l.labs.find? (fun z => decide (z.pre = x)) with
  | none => rw [hf] at hxy; cases hxy
  | some z =>
   rw [hf] at hxy
   have hz := List.mem_of_find?_eq_some hf
   have hzp : z.pre = x := by simpa using List.find?_some hf
   have hzg : z.grp = y := by simpa using hxy
   exact List.mem_flatMap.2 ⟨z, hz, by unfold Z0K; rw [hzp, hzg]; exact List.mem_cons_self⟩
 have own : ∀ (x y : ByteArray), Z1z l.labs x = some y -> (y.size : Int) = l.pre -> Z1u y = true -> Z1z l.labs y = none -> (y, y) ∈ l.labs.flatMap (Z0K l) := fun x y hxy h1 h2 h3 => by
  unfold Z1z at hxy
  cases hf : l.labs.find? (fun z => decide (z.pre = x)) with
  | none => rw [hf] at hxy; cases hxy
  | some z =>
   rw [hf] at hxy
   have hz := List.mem_of_find?_eq_some hf
   have hzg : z.grp = y := by simpa using hxy
   refine List.mem_flatMap.2 ⟨z, hz, ?_⟩
   unfold Z0K ownB
   rw [hzg, h3, h2]
   simp [h1]
 unfold Z0e at h
 have sc := sz c hc
 have sd := sz d hd
 have pc := Z4x hpc l.pre.toNat
 have pd := Z4x hpd l.pre.toNat
 generalize c.extract 0 l.pre.toNat = x at h sc pc
 generalize d.extract 0 l.pre.toNat = y at h sd pd
 clear sz up
 cases e1 : Z1z l.labs x with
 | some a =>
  rw [e1] at h
  cases e2 : Z1z l.labs y with
  | some b =>
   rw [e2, Option.getD_some, Option.getD_some] at h
   subst h
   exact hn (a, x) (mem x a e1) (a, y) (mem y a e2) rfl
  | none =>
   rw [e2, Option.getD_some, Option.getD_none] at h
   subst h
   exact hn (a, x) (mem x a e1) (a, a) (own x a e1 sd pd e2) rfl
 | none =>
  rw [e1] at h
  cases e2 : Z1z l.labs y with
  | some b =>
   rw [e2, Option.getD_some, Option.getD_none] at h
   subst h
   exact hn (x, x) (own y x e2 sc pc e1) (x, y) (mem y x e2) rfl
  | none =>
   rw [e2, Option.getD_none, Option.getD_none] at h
   rw [h]
end Go.Proofs.YtlgajongmkhcnaaGreatDoor
namespace Go.Proofs.YtlgajongmkhcnaaGreatDoor
open Go.RowKit
set_option linter.unusedVariables false
set_option maxRecDepth 100000
theorem Z1e {ls : List Lev} (h : Z0i ls = true) : ∀ l ∈ ls, Z0G l := by
 intro l hl
 obtain ⟨i, hi, rfl⟩ := List.mem_iff_getElem.1 hl
 obtain ⟨_, _, ⟨hs, hlv, _, _⟩, _⟩ := Z0F.1 h
 obtain ⟨hh, hr⟩ := Z14.1 (hlv i hi hi)
 obtain ⟨hn, _⟩ := Z1L hh
 have nm : ∀ s : ByteArray, Z2N s = true -> s.size <= maxLen := fun s hs => by
  unfold Z2N at hs
  simp at hs
  unfold maxLen
  omega
 have hlen : ls[i].labs.length <= 200 := by
  have h1 := Z55 ls i hi
  have h2 := Z7H ls (show i + 1 <= ls.length from hi)
  omega
 refine ⟨nm _ hn, by omega, fun x hx => ?_⟩
 obtain ⟨k, hk, rfl⟩ := List.mem_iff_getElem.1 hx
 cases hb : decide (i + 1 = ls.length)
 ·rw [hb] at hr
  simp only [Bool.false_eq_true, if_false] at hr
  have := (hr.2 k hk hk).1
  have hf := (Z2X h i hi).2.1 _ (Z4 hk)
  have hf2 := (Z2X h i hi).2.2.2
  unfold Z6O at this
  simp only [ZF] at this
  exact ⟨by unfold maxLen; omega, nm _ this.2⟩
 ·rw [hb] at hr
  simp only [if_true] at hr
  omega
theorem Zh0 (x : UInt8) : Z0B (Z3B x) = true := by
 have h : (List.range 256).all (fun n => Z0B (Z3B (UInt8.ofNat n))) = true := by kernel_rfl
 have := List.all_eq_true.1 h x.toNat (List.mem_range.2 x.toNat_lt)
 simpa using this
theorem Z99 {least cents : List UInt8} {out : List Lev} {l : Lev} (h : ∀ x ∈ out, x.pre <= 5) (hl : l.pre <= 5) : ∀ x ∈ Zbx least cents out l, x.pre <= 5 := by
 unfold Zbx
 intro x hx
 rcases ZG.1 hx with hx | hx
 ·exact h x hx
 ·rw [ZI.1 hx]; exact hl
theorem ZgH (B : Bits) (least cents : List UInt8) : ∀ l ∈ Z1G B least cents, l.pre <= 5 := by
 have h1 : ∀ x ∈ mk1 B least cents, x.pre <= 5 := by
  unfold mk1
  split
  ·exact Z99 (by simp) (by show (5 : Int) <= 5; decide)
  ·simp
 have h2 : ∀ x ∈ mk2 B least cents, x.pre <= 5 := by
  unfold mk2
  split
  ·exact Z99 h1 (by show (3 : Int) <= 5; decide)
  ·exact h1
 have h3 : ∀ x ∈ mk3 B least cents, x.pre <= 5 := by
  unfold mk3
  split
  ·exact Z99 h2 (by show (1 : Int) <= 5; decide)
  ·exact h2
 intro l hl
 unfold Z1G at hl
 rcases ZG.1 hl with hl | hl
 ·exact h3 l hl
 ·rw [ZI.1 hl]; show (0 : Int) <= 5; decide
theorem Z7c {c : ByteArray} (h : Z0B c = true) : Z1u c = true := by unfold Z0B at h; simp at h; exact h.2
theorem Z7V {ls : List Lev} {c d : ByteArray} (h : Z0i ls = true) (hc : Z0B c = true) (hd : Z0B d = true) (hpc : ∀ l ∈ ls, l.pre <= c.size) (hpd : ∀ l ∈ ls, l.pre <= d.size) (i : Nat) (hi : i + 1 < ls.length) (e : Z0e ls[i] c = Z0e ls[i] d) : Z0e ls[i + 1] c = Z0e ls[i + 1] d := by
 obtain ⟨_, _, ⟨_, _, _, hm⟩, hn⟩ := Z0F.1 h
 exact Zd7 (Z42.1 (hn i hi)) (Z2X h (i + 1) hi).2.2.1 (hm (i + 1) hi hi i rfl (by omega)) (Z7c hc) (Z7c hd) (hpc _ (Z4 _)) (hpd _ (Z4 _)) e
end Go.Proofs.YtlgajongmkhcnaaGreatDoor
namespace Go.Proofs.YtlgajongmkhcnaaGreatDoor
open Go.RowKit
set_option linter.unusedVariables false
set_option maxRecDepth 100000
theorem Zf8 (ls : List Lev) (cs : List ByteArray) (hl : ls.length <= 6) (hc : cs.length <= 2000) : (gTo ls cs ls.length).1.length <= 12000 := by
 have := (Zbi ls cs ls.length (Z1 _)).1
 exact Nat.le_trans this (Nat.le_trans (Nat.mul_le_mul hl hc) (by decide))
theorem Zhw (ls : List Lev) (cs : List ByteArray) : ∀ k, k <= ls.length -> ∀ g ∈ (gTo ls cs k).1, g.items.length <= cs.length := by
 intro k
 induction k with
 | zero => intro _ g hg; cases hg
 | succ k ih =>
  intro h
  rw [Z3L ls cs k h]
  intro g hg
  unfold Z8U at hg
  simp only [List.append_assoc, ZG, List.mem_map] at hg
  rcases hg with hg | ⟨g', hg, rfl⟩ | ⟨n, hn, rfl⟩
  ·exact ih (by omega) g (List.mem_of_mem_take hg)
  ·exact ih (by omega) g' (List.mem_of_mem_drop hg)
  ·exact Z6R _ _ _ _
end Go.Proofs.YtlgajongmkhcnaaGreatDoor
namespace Go.Proofs.YtlgajongmkhcnaaGreatDoor
open Go.RowKit
set_option linter.unusedVariables false
set_option maxRecDepth 100000
def lv (ls : List Lev) (m : Nat) : Lev := ls.getD m ⟨⟨#[]⟩, 0, [], 0, 0⟩
theorem Z9S {ls : List Lev} {m : Nat} (h : m < ls.length) : lv ls m = ls[m] := by
 unfold lv; rw [Z2, Z3 h]; rfl
def nm (ls : List Lev) (cs : List ByteArray) (m : Nat) : List ByteArray := Z1q (lv ls m) cs
def Z0g (ls : List Lev) (cs : List ByteArray) : Nat -> Nat
 | 0 => 0
 | m + 1 => Z0g ls cs m + (nm ls cs m).length
def itm (ls : List Lev) (cs : List ByteArray) (m : Nat) (n : ByteArray) : List Int := Z0o (lv ls m) cs cs.length n
def Z6Y (ls : List Lev) (cs : List ByteArray) (m : Nat) (n : ByteArray) : ByteArray := cs.getD ((itm ls cs m n).headD 0).toNat ⟨#[]⟩
def Zhm (ls : List Lev) (cs : List ByteArray) (m : Nat) (n : ByteArray) : Nat := Z0g ls cs (m + 1) + idx (Z0e (lv ls (m + 1)) (Z6Y ls cs m n)) (nm ls cs (m + 1))
def gAt (ls : List Lev) (cs : List ByteArray) (k m : Nat) (n : ByteArray) : Grp := ⟨m, n, if m + 1 < k then (Zhm ls cs m n : Int) else -1, itm ls cs m n⟩
def Z0P (ls : List Lev) (cs : List ByteArray) (k : Nat) : List Grp := (List.range k).flatMap (fun m => (nm ls cs m).map (gAt ls cs k m))
theorem Z8X {α : Type} (f : Nat -> List α) (s : Nat -> Nat) (h0 : s 0 = 0) (hs : ∀ m, s (m + 1) = s m + (f m).length) : ∀ k, ((List.range k).flatMap f).length = s k := by
 intro k
 induction k with
 | zero => rw [h0]; rfl
 | succ k ih => rw [List.range_succ, List.flatMap_append, ZC, ih, hs]; simp
theorem flat_get {α : Type} (f : Nat -> List α) (s : Nat -> Nat) (h0 : s 0 = 0) (hs : ∀ m, s (m + 1) = s m + (f m).length) : ∀ k m j, m < k -> j < (f m).length -> ((List.range k).flatMap f)[s m + j]? = (f m)[j]? := by
 intro k
 induction k with
 | zero => intro m j h; omega
 | succ k ih =>
  intro m j hm hj
  have hl := Z8X f s h0 hs k
  rw [List.range_succ, List.flatMap_append]
  by_cases e : m = k
  ·subst e
   rw [List.getElem?_append_right (by omega), hl]
   simp
  ·have hlt : m < k := by omega
   have := ih m j hlt hj
   rw [List.getElem?_append_left]
   ·exact this
   ·rw [Z3 hj] at this
    exact (List.getElem?_eq_some_iff.1 this).1
theorem Z8V (ls : List Lev) (cs : List ByteArray) (k : Nat) : (Z0P ls cs k).length = Z0g ls cs k :=
 Z8X _ _ rfl (fun m => by simp [Z0g]) k
theorem Zcj (ls : List Lev) (cs : List ByteArray) (k m j : Nat) (hm : m < k) (hj : j < (nm ls cs m).length) : (Z0P ls cs k)[Z0g ls cs m + j]? = some (gAt ls cs k m (nm ls cs m)[j]) := by
 unfold Z0P
 rw [flat_get (fun m => (nm ls cs m).map (gAt ls cs k m)) (Z0g ls cs) rfl (fun m => by simp [Z0g]) k m j hm (by simpa using hj)]
 simp [hj]
theorem Z3M (ls : List Lev) (cs : List ByteArray) : ∀ k, k <= ls.length -> gTo ls cs k = (Z0P ls cs k, Z0g ls cs (k - 1), k) := by
 intro k
 induction k with
 | zero => intro _; rfl
 | succ k ih =>
  intro h
  rw [Z3L ls cs k h, ih (by omega)]
  unfold Z8U
  simp only [Prod.mk.injEq, Nat.add_sub_cancel, and_true]
  refine ⟨?_, Z8V ls cs k⟩
  rw [Z8V, <- Z9S h]
  have e3 : (Z1q (lv ls k) cs).map (mkG k (lv ls k) cs) = (nm ls cs k).map (gAt ls cs (k + 1) k) := by
   refine List.map_congr_left (fun n _ => ?_)
   unfold mkG gAt itm
   rw [if_neg (by omega)]
  rw [e3]
  have e4 : Z0P ls cs (k + 1) = ((List.range k).flatMap (fun m => (nm ls cs m).map (gAt ls cs (k + 1) m))) ++ (nm ls cs k).map (gAt ls cs (k + 1) k) := by
   unfold Z0P
   rw [List.range_succ, List.flatMap_append]
   simp
  rw [e4]
  congr 1
  cases k with
  | zero => rfl
  | succ j =>
   simp only [Nat.add_sub_cancel]
   have e5 : Z0P ls cs (j + 1) = ((List.range j).flatMap (fun m => (nm ls cs m).map (gAt ls cs (j + 1) m))) ++ (nm ls cs j).map (gAt ls cs (j + 1) j) := by
    unfold Z0P
    rw [List.range_succ, List.flatMap_append]
    simp
   have hl : ((List.range j).flatMap (fun m => (nm ls cs m).map (gAt ls cs (j + 1) m))).length = Z0g ls cs j := Z8X _ _ rfl (fun m => by simp [Z0g]) j
   rw [e5, List.take_append_of_le_length (by omega), List.drop_append_of_le_length (by omega), List.take_of_length_le (by omega), List.drop_eq_nil_of_le (by omega), List.nil_append, List.range_succ, List.flatMap_append, List.map_map]
   have e6 : (List.range j).flatMap (fun m => (nm ls cs m).map (gAt ls cs (j + 1) m)) = (List.range j).flatMap (fun m => (nm ls cs m).map (gAt ls cs (j + 1 + 1) m)) := by
    rw [List.flatMap_def, List.flatMap_def]
    congr 1
    refine List.map_congr_left (fun m hm => List.map_congr_left (fun n _ => ?_))
    have := List.mem_range.1 hm
    unfold gAt
    rw [if_pos (by omega), if_pos (by omega)]
   rw [e6]
   congr 1
   simp only [List.flatMap_cons, List.flatMap_nil, List.append_nil]
   refine List.map_congr_left (fun n _ => ?_)
   unfold gAt ZcB Zhm Z6Y nm
   simp
theorem Z25 {ls : List Lev} {cs : List ByteArray} {k : Nat} {g : Grp} : g ∈ Z0P ls cs k ↔ ∃ m n, m < k /\ n ∈ nm ls cs m /\ g = gAt ls cs k m n := by
 unfold Z0P
 simp only [List.mem_flatMap, List.mem_range, List.mem_map]
 exact ⟨fun ⟨m, hm, n, hn, he⟩ => ⟨m, n, hm, hn, he.symm⟩, fun ⟨m, n, hm, hn, he⟩ => ⟨m, hm, n, hn, he.symm⟩⟩
theorem Zdp (ls : List Lev) (cs : List ByteArray) (k : Nat) : (Z0P ls cs k).Pairwise (fun g h => g.lvl < h.lvl \/ g.lvl = h.lvl /\ ltB g.name h.name = true) := by
 unfold Z0P
 rw [List.pairwise_flatMap]
 refine ⟨fun m _ => ?_, ?_⟩
 ·rw [List.pairwise_map]
  refine List.Pairwise.imp ?_ (Z3l (cs.map (Z0e (lv ls m))))
  intro a b h
  exact Or.inr ⟨rfl, h⟩
 ·refine List.Pairwise.imp ?_ List.pairwise_lt_range
  intro a b hab x hx y hy
  obtain ⟨n, _, rfl⟩ := List.mem_map.1 hx
  obtain ⟨n', _, rfl⟩ := List.mem_map.1 hy
  left
  show (a : Int) < (b : Int)
  omega
theorem Z3t {ls : List Lev} {cs : List ByteArray} {m : Nat} {n : ByteArray} {x : Int} : x ∈ itm ls cs m n ↔ ∃ i : Nat, ∃ h : i < cs.length, Z0e (lv ls m) cs[i] = n /\ x = i := by
 unfold itm
 rw [Z32]
 constructor
 ·rintro ⟨i, hi, he, rfl⟩
  refine ⟨i, hi, ?_, rfl⟩
  rw [Z2, Z3 hi] at he
  exact he
 ·rintro ⟨i, hi, he, rfl⟩
  refine ⟨i, hi, ?_, rfl⟩
  rw [Z2, Z3 hi]
  exact he
theorem Z6P (ls : List Lev) (cs : List ByteArray) (m : Nat) (n : ByteArray) : (itm ls cs m n).Pairwise (· < ·) := by
 unfold itm Z0o
 rw [List.pairwise_map]
 refine List.Pairwise.imp ?_ (List.Pairwise.filter _ List.pairwise_lt_range)
 intro a b h
 exact Int.ofNat_lt.2 h
theorem Z8S {ls : List Lev} {cs : List ByteArray} {m : Nat} {n : ByteArray} (h : n ∈ nm ls cs m) : itm ls cs m n ≠ [] := ((Z3H (lv ls m) cs).2 n).1 h
theorem ZeD {ls : List Lev} {cs : List ByteArray} {m i : Nat} (h : i < cs.length) : Z0e (lv ls m) cs[i] ∈ nm ls cs m := by
 unfold nm Z1q
 rw [Z6H]
 exact List.mem_map.2 ⟨_, Z4 h, rfl⟩
theorem Z6X {ls : List Lev} {cs : List ByteArray} {m : Nat} {n : ByteArray} (h : n ∈ nm ls cs m) : ∃ i : Nat, ∃ hi : i < cs.length, Z6Y ls cs m n = cs[i] /\ Z0e (lv ls m) cs[i] = n := by
 cases he : itm ls cs m n with
 | nil => exact absurd he (Z8S h)
 | cons x r =>
  have hx : x ∈ itm ls cs m n := by rw [he]; exact List.mem_cons_self
  obtain ⟨i, hi, h1, rfl⟩ := Z3t.1 hx
  refine ⟨i, hi, ?_, h1⟩
  unfold Z6Y
  rw [he]
  simp [hi]
end Go.Proofs.YtlgajongmkhcnaaGreatDoor
namespace Go.Proofs.YtlgajongmkhcnaaGreatDoor
open Go.RowKit
set_option linter.unusedVariables false
set_option maxRecDepth 100000
structure PartAt (ls : List Lev) (cs : List ByteArray) (gs : List Grp) (g : Grp) (m : Nat) : Prop where
 hm : m < ls.length
 lvl : g.lvl = m
 some_ : 0 < g.items.length
 few : g.items.length <= cs.length
 item : ∀ p (hp : p < g.items.length), ∃ q : Nat, ∃ hq : q < cs.length, g.items[p] = q /\ Z0e (lv ls m) cs[q] = g.name
 order : g.items.Pairwise (· < ·)
 up : (g.up = -1 /\ m + 1 = ls.length) \/ (m + 1 < ls.length /\ ∃ u : Nat, ∃ hu : u < gs.length, g.up = u /\ gs[u].lvl = m + 1 /\ ∀ p (hp : p < g.items.length) (q : Nat) (hq : q < cs.length), g.items[p] = q -> Z0e (lv ls (m + 1)) cs[q] = gs[u].name)
theorem Z6Q (ls : List Lev) (cs : List ByteArray) (m : Nat) (n : ByteArray) : (itm ls cs m n).length <= cs.length := Z6R _ _ _ _
theorem ZhW {ls : List Lev} {cs : List ByteArray} (h : Z0i ls = true) (hc : ∀ c ∈ cs, Z0B c = true) (hp : ∀ l ∈ ls, ∀ c ∈ cs, l.pre <= c.size) {g : Grp} (hg : g ∈ Z0P ls cs ls.length) : ∃ m, PartAt ls cs (Z0P ls cs ls.length) g m := by
 obtain ⟨m, n, hm, hn, rfl⟩ := Z25.1 hg
 have hit : ∀ p (hp : p < (itm ls cs m n).length), ∃ q : Nat, ∃ hq : q < cs.length, (itm ls cs m n)[p] = q /\ Z0e (lv ls m) cs[q] = n := fun p hp => by
  obtain ⟨q, hq, h1, h2⟩ := Z3t.1 (Z4 hp)
  exact ⟨q, hq, h2, h1⟩
 refine ⟨m, ⟨hm, rfl, List.length_pos_iff.2 (Z8S hn), Z6Q ls cs m n, hit, Z6P ls cs m n, ?_⟩⟩
 by_cases hk : m + 1 < ls.length
 ·right
  refine ⟨hk, ?_⟩
  obtain ⟨i, hi, hh, hgr⟩ := Z6X hn
  have hmem : Z0e (lv ls (m + 1)) (Z6Y ls cs m n) ∈ nm ls cs (m + 1) := by rw [hh]; exact ZeD hi
  have hlt := Z3g hmem
  have hget := Zcj ls cs ls.length (m + 1) _ hk hlt
  obtain ⟨hu, hge⟩ := List.getElem?_eq_some_iff.1 hget
  have hnm : (nm ls cs (m + 1))[idx (Z0e (lv ls (m + 1)) (Z6Y ls cs m n)) (nm ls cs (m + 1))] = Z0e (lv ls (m + 1)) (Z6Y ls cs m n) := by
   have := ZeZ hmem
   rw [Z3 hlt] at this
   exact Option.some.inj this
  refine ⟨Zhm ls cs m n, hu, ?_, ?_, ?_⟩
  ·unfold gAt
   dsimp only
   rw [if_pos hk]
  ·have : (Z0P ls cs ls.length)[Zhm ls cs m n] = gAt ls cs ls.length (m + 1) (nm ls cs (m + 1))[idx (Z0e (lv ls (m + 1)) (Z6Y ls cs m n)) (nm ls cs (m + 1))] := hge
   rw [this]
   rfl
  ·intro p hp' q hq he
   have : (Z0P ls cs ls.length)[Zhm ls cs m n] = gAt ls cs ls.length (m + 1) (nm ls cs (m + 1))[idx (Z0e (lv ls (m + 1)) (Z6Y ls cs m n)) (nm ls cs (m + 1))] := hge
   rw [this, hnm]
   show Z0e (lv ls (m + 1)) cs[q] = Z0e (lv ls (m + 1)) (Z6Y ls cs m n)
   rw [hh]
   obtain ⟨q', hq', h1, h2⟩ := hit p hp'
   have e : q = q' := by
    have : ((q : Nat) : Int) = q' := he.symm.trans h1
    omega
   subst e
   rw [Z9S hk]
   rw [Z9S hm] at h2 hgr
   exact Z7V h (hc _ (Z4 hq)) (hc _ (Z4 hi)) (fun l hl => hp l hl _ (Z4 hq)) (fun l hl => hp l hl _ (Z4 hi)) m hk (h2.trans hgr.symm)
 ·left
  unfold gAt
  dsimp only
  rw [if_neg hk]
  exact ⟨rfl, by omega⟩
end Go.Proofs.YtlgajongmkhcnaaGreatDoor
namespace Go.Proofs.YtlgajongmkhcnaaGreatDoor
structure PGrp where
 lvl : Int
 up : Int
 items : List Int
def Z4O (i : Nat) (x : Int) (b : List Int) (k : Nat) (l : List Int) : List Int :=
 (List.range k).foldl (fun l j => if b.getD j (-1) = -1 then l else l.set (i + j) (max (l.getD (i + j) (-1)) (x + b.getD j (-1)))) l
def Z2t (a b : List Int) (k : Nat) : List Int :=
 (List.range k).foldl (fun l i => if a.getD i (-1) = -1 then l else Z4O i (a.getD i (-1)) b b.length l) (List.replicate (a.length + b.length - 1) (-1))
def Z2S (a b : List Int) : List Int := Z2t a b a.length
def Z07 (ts : List (List Int)) : Nat -> List Int
 | 0 => [0]
 | k + 1 => Z2S (ts.getD (ts.length - 1 - k) []) (Z07 ts k)
def Z1W (lvl : Int) (items : Nat) (ts : List (List Int)) : List Int :=
 if lvl = 0 then List.replicate items (-1) ++ [0] else if ts.length = 0 then [] else Z07 ts ts.length
def Z0h (mn cents passes come : Int) : Int := if come - passes < 0 \/ (0 < come - passes /\ come - passes < mn) then -1 else (come - passes) * cents
def Z0V (come : List Int) (mn cents : Int) (p k : Nat) : Int :=
 (List.range k).foldl (fun acc j => if Z0h mn cents (p : Nat) (p + j : Nat) ≠ -1 /\ come.getD (p + j) (-1) ≠ -1 then max acc (come.getD (p + j) (-1) + Z0h mn cents (p : Nat) (p + j : Nat)) else acc) (-1)
def Z1j (come : List Int) (last : Bool) (mn cents : Int) : List Int := (List.range (if last then 1 else come.length)).map (fun p => Z0V come mn cents p (come.length - p))
def Z04 (gs : List PGrp) (g : Nat) : List Nat := (List.range gs.length).filter (fun h => decide ((gs.getD h ⟨0, 0, []⟩).up = (g : Int)))
def Z0c (gs : List PGrp) (g : Nat) : PGrp := gs.getD g ⟨0, 0, []⟩
def Z0A (ls : List (Int × Int)) (gs : List PGrp) : Nat -> List (List Int)
 | 0 => []
 | g + 1 => let ts := Z0A ls gs g
  let l := ls.getD (Z0c gs g).lvl.toNat (0, 0)
  ts ++ [Z1j (Z1W (Z0c gs g).lvl (Z0c gs g).items.length ((Z04 gs g).map (fun h => ts.getD h []))) (decide ((Z0c gs g).lvl = (ls.length : Int) - 1)) l.1 l.2]
def Z8h (a rest : List Int) (fits : Int -> Int -> Bool) : Nat :=
 ((List.range a.length).find? (fun i => decide (a.getD i (-1) ≠ -1) && (List.range rest.length).any (fun j => decide (rest.getD j (-1) ≠ -1) && fits (i + j : Nat) (a.getD i (-1) + rest.getD j (-1))))).getD (a.length - 1)
def Z1g (mn cents : Int) (passes : Int) (most : Int) (ts : List (List Int)) : Nat -> (Nat × Int × List Nat)
 | 0 => (0, 0, [])
 | k + 1 => let (come, saved, out) := Z1g mn cents passes most ts k
  let t := ts.getD k []
  let p := Z8h t (Z07 ts (ts.length - 1 - k)) (fun q below => let own := Z0h mn cents passes (come + q); decide (own ≠ -1) && decide (saved + below + own = most))
  (come + p, saved + t.getD p (-1), out ++ [p])
def Z1C (ls : List (Int × Int)) (gs : List PGrp) (tabs : List (List Int)) : Nat -> (Nat -> Int)
 | 0 => fun _ => 0
 | k + 1 => let f := Z1C ls gs tabs k
  let g := gs.length - 1 - k
  let l := ls.getD (Z0c gs g).lvl.toNat (0, 0)
  let subs := Z04 gs g
  let ps := (Z1g l.1 l.2 (f g) ((tabs.getD g []).getD (f g).toNat (-1)) (subs.map (fun h => tabs.getD h [])) subs.length).2.2
  fun h => match subs.idxOf? h with | some i => (ps.getD i 0 : Nat) | none => f h
def Zhv (x : Int) : List Int -> List Int
 | [] => [x]
 | y :: r => if x <= y then x :: y :: r else y :: Zhv x r
def Z1i (l : List Int) : List Int := l.foldr Zhv []
def Z0H (gs : List PGrp) (f : Nat -> Int) : Nat -> List Int -> (List Int × List (List Int))
 | 0, p => (p, [])
 | g + 1, p => let (q, passed) := Z0H gs f g p
  let come := Z1i ((if (Z0c gs g).lvl = 0 then (Z0c gs g).items else []) ++ (Z04 gs g).flatMap (fun h => passed.getD h []))
  let takes := come.length - (f g).toNat
  ((come.take takes).foldl (fun q i => q.set i.toNat (Z0c gs g).lvl) q, passed ++ [come.drop takes])
def Zgn (ls : List (Int × Int)) (gs : List PGrp) (n : Nat) : List Int :=
 let tabs := Z0A ls gs gs.length
 (Z0H gs (Z1C ls gs tabs gs.length) gs.length (List.replicate n 0)).1
end Go.Proofs.YtlgajongmkhcnaaGreatDoor
namespace Go.Proofs.YtlgajongmkhcnaaGreatDoor
open Go.RowKit Go.Sort
set_option linter.unusedVariables false
def Z0R (n : Nat) (zs : List Int) : Bool := zs.all (fun z => decide (0 <= z) && decide (z < (n : Int)))
def Z4c (ls : List Lev) (z : Int) : Int := (ls.getD z.toNat ⟨⟨#[]⟩, 0, [], 0, 0⟩).cents
def Z1o (ls : List Lev) (zs : List Int) (k : Nat) : Int := ((zs.take k).map (Z4c ls)).sum
theorem Z9o (ls : List Lev) (zs : List Int) (k : Nat) (h : k < zs.length) : Z1o ls zs (k + 1) = Z1o ls zs k + Z4c ls zs[k] := by
 unfold Z1o; rw [Z8 h, ZD, List.sum_append]; simp
theorem Z3r {n : Nat} {zs : List Int} (h : Z0R n zs = true) (k : Nat) (hk : k < zs.length) : 0 <= zs[k] /\ zs[k] < (n : Int) := by
 unfold Z0R at h
 have := List.all_eq_true.1 h _ (Z4 hk)
 simpa using this
theorem Zd2 {n : Nat} {zs : List Int} {k : Nat} (hk : k < zs.length) (h : zs[k] < 0 \/ (n : Int) <= zs[k]) : Z0R n zs = false := by
 unfold Z0R
 rw [List.all_eq_false]
 refine ⟨_, Z4 hk, ?_⟩
 simp
 omega
theorem Z4F {n : Nat} {zs : List Int} (h : ∀ k (hk : k < zs.length), 0 <= zs[k] /\ zs[k] < (n : Int)) : Z0R n zs = true := by
 unfold Z0R
 rw [List.all_eq_true]
 intro z hz
 obtain ⟨k, hk, rfl⟩ := List.mem_iff_getElem.1 hz
 have := h k hk
 simp
 exact this
theorem Zbr {ls : List Lev} (hr : Z0i ls = true) {z : Int} (h0 : 0 <= z) (h1 : z < (ls.length : Int)) : 0 <= Z4c ls z /\ Z4c ls z <= 1000000 := by
 have hi : z.toNat < ls.length := by omega
 have hl := (Z0F.1 hr).2.2.1.2.1 z.toNat hi hi
 obtain ⟨_, _, _, h2, h3⟩ := Z1L (Z14.1 hl).1
 unfold Z4c
 rw [Z2, Z3 hi]
 exact ⟨h2, h3⟩
theorem ZaF {ls : List Lev} (hr : Z0i ls = true) {zs : List Int} (h : Z0R ls.length zs = true) : ∀ k, k <= zs.length -> 0 <= Z1o ls zs k /\ Z1o ls zs k <= k * 1000000
 | 0, _ => by simp [Z1o]
 | k + 1, hk => by
  obtain ⟨a, b⟩ := ZaF hr h k (by omega)
  obtain ⟨c, d⟩ := Z3r h k hk
  obtain ⟨e, f⟩ := Zbr hr c d
  rw [Z9o ls zs k hk]
  omega
end Go.Proofs.YtlgajongmkhcnaaGreatDoor
namespace Go.Proofs.YtlgajongmkhcnaaGreatDoor
set_option linter.unusedVariables false
def ent (l : List Int) (i : Nat) : Int := l.getD i (-1)
def ZiH (a b : List Int) (i j : Nat) : Prop := i < a.length /\ j < b.length /\ ent a i ≠ -1 /\ ent b j ≠ -1
structure JoinInv (a b l : List Int) (S : Nat -> Nat -> Prop) : Prop where
 len : l.length = a.length + b.length - 1
 up : ∀ i j, S i j -> ZiH a b i j -> ent a i + ent b j <= ent l (i + j)
 at_ : ∀ n, ent l n = -1 \/ ∃ i j, S i j /\ ZiH a b i j /\ i + j = n /\ ent l n = ent a i + ent b j
theorem Zfk (l : List Int) (k : Nat) (x : Int) (n : Nat) : ent (l.set k x) n = if n = k /\ k < l.length then x else ent l n := by
 unfold ent
 rw [Z2, Z2, List.getElem?_set]
 by_cases h : k = n
 ·subst h
  by_cases hl : k < l.length
  ·rw [if_pos rfl, if_pos hl, if_pos ⟨rfl, hl⟩]; rfl
  ·rw [if_pos rfl, if_neg hl, if_neg (fun h => hl h.2), List.getElem?_eq_none (by omega)]
 ·rw [if_neg h, if_neg (fun h' => h h'.1.symm)]
theorem Z1M {a : List Int} (h : ∀ x ∈ a, -1 <= x) {i : Nat} (hi : ent a i ≠ -1) : 0 <= ent a i := by
 by_cases hl : i < a.length
 ·have hm : ent a i ∈ a := by unfold ent; rw [Z2, Z3 hl]; exact Z4 hl
  have := h _ hm
  omega
 ·exfalso; apply hi; unfold ent; rw [Z2, List.getElem?_eq_none (by omega)]; rfl
theorem join_step {a b l : List Int} {S : Nat -> Nat -> Prop} (ha : ∀ x ∈ a, -1 <= x) (hb : ∀ x ∈ b, -1 <= x) (h : JoinInv a b l S) {i j : Nat} (hp : ZiH a b i j) :
 JoinInv a b (l.set (i + j) (max (ent l (i + j)) (ent a i + ent b j))) (fun p q => S p q \/ (p = i /\ q = j)) := by
 obtain ⟨h1, h2, h3⟩ := h
 have hij : i + j < l.length := by have := hp.1; have := hp.2.1; omega
 refine ⟨by rw [List.length_set]; exact h1, fun p q hs hpq => ?_, fun n => ?_⟩
 ·rw [Zfk]
  rcases hs with hs | ⟨rfl, rfl⟩
  ·have := h2 p q hs hpq
   split
   ·rename_i he; rw [he.1] at this; omega
   ·exact this
  ·rw [if_pos ⟨rfl, hij⟩]; omega
 ·rw [Zfk]
  by_cases he : n = i + j
  ·subst he
   rw [if_pos ⟨rfl, hij⟩]
   rcases h3 (i + j) with h4 | ⟨p, q, hs, hpq, he, hv⟩
   ·right
    refine ⟨i, j, .inr ⟨rfl, rfl⟩, hp, rfl, ?_⟩
    have := Z1M ha hp.2.2.1
    have := Z1M hb hp.2.2.2
    rw [h4]; omega
   ·right
    by_cases hm : ent a i + ent b j <= ent l (i + j)
    ·exact ⟨p, q, .inl hs, hpq, he, by rw [<- hv]; omega⟩
    ·exact ⟨i, j, .inr ⟨rfl, rfl⟩, hp, rfl, by omega⟩
  ·rw [if_neg (fun h => he h.1)]
   rcases h3 n with h4 | ⟨p, q, hs, hpq, he', hv⟩
   ·exact .inl h4
   ·exact .inr ⟨p, q, .inl hs, hpq, he', hv⟩
theorem Z3x {a b l : List Int} {S S' : Nat -> Nat -> Prop} (h : JoinInv a b l S) (h1 : ∀ i j, S i j -> S' i j) (h2 : ∀ i j, S' i j -> ZiH a b i j -> S i j) : JoinInv a b l S' :=
 ⟨h.len, fun i j hs hp => h.up i j (h2 i j hs hp) hp, fun n => by
  rcases h.at_ n with h4 | ⟨p, q, hs, hpq, he, hv⟩
  ·exact .inl h4
  ·exact .inr ⟨p, q, h1 p q hs, hpq, he, hv⟩⟩
theorem Z45 (i : Nat) (x : Int) (b : List Int) (k : Nat) (l : List Int) : Z4O i x b (k + 1) l = (fun l => if ent b k = -1 then l else l.set (i + k) (max (ent l (i + k)) (x + ent b k))) (Z4O i x b k l) := by
 unfold Z4O; rw [List.range_succ, List.foldl_append]; rfl
theorem Z44 (a b : List Int) (k : Nat) : Z2t a b (k + 1) = (if ent a k = -1 then Z2t a b k else Z4O k (ent a k) b b.length (Z2t a b k)) := by
 unfold Z2t; rw [List.range_succ, List.foldl_append]; rfl
theorem Z8b {a b : List Int} (ha : ∀ x ∈ a, -1 <= x) (hb : ∀ x ∈ b, -1 <= x) {l : List Int} {i : Nat} (hi : i < a.length) (hx : ent a i ≠ -1) (h : JoinInv a b l (fun p q => p < i)) :
 ∀ k, k <= b.length -> JoinInv a b (Z4O i (ent a i) b k l) (fun p q => p < i \/ (p = i /\ q < k))
 | 0, _ => Z3x h (fun p q h => .inl h) (fun p q h _ => by rcases h with h | h; exact h; omega)
 | k + 1, hk => by
  have ih := Z8b ha hb hi hx h k (by omega)
  rw [Z45]
  dsimp only
  by_cases hbk : ent b k = -1
  ·rw [if_pos hbk]
   refine Z3x ih (fun p q h => ?_) (fun p q h hp => ?_)
   ·rcases h with h | ⟨h1, h2⟩
    ·exact .inl h
    ·exact .inr ⟨h1, by omega⟩
   ·rcases h with h | ⟨h1, h2⟩
    ·exact .inl h
    ·refine .inr ⟨h1, ?_⟩
     by_cases e : q = k
     ·subst e; exact absurd hbk hp.2.2.2
     ·omega
  ·rw [if_neg hbk]
   refine Z3x (join_step ha hb ih ⟨hi, by omega, hx, hbk⟩) (fun p q h => ?_) (fun p q h hp => ?_)
   ·rcases h with (h | ⟨h1, h2⟩) | ⟨h1, h2⟩
    ·exact .inl h
    ·exact .inr ⟨h1, by omega⟩
    ·exact .inr ⟨h1, by omega⟩
   ·rcases h with h | ⟨h1, h2⟩
    ·exact .inl (.inl h)
    ·by_cases e : q = k
     ·exact .inr ⟨h1, e⟩
     ·exact .inl (.inr ⟨h1, by omega⟩)
theorem Z3J {a b : List Int} (ha : ∀ x ∈ a, -1 <= x) (hb : ∀ x ∈ b, -1 <= x) : ∀ k, k <= a.length -> JoinInv a b (Z2t a b k) (fun p q => p < k)
 | 0, _ => by
  refine ⟨by simp [Z2t], fun i j h => absurd h (Nat.not_lt_zero _), fun n => .inl ?_⟩
  unfold Z2t ent
  rw [Z2]
  simp only [List.range_zero, List.foldl_nil, List.getElem?_replicate]
  split <;> rfl
 | k + 1, hk => by
  have ih := Z3J ha hb k (by omega)
  rw [Z44]
  by_cases hak : ent a k = -1
  ·rw [if_pos hak]
   refine Z3x ih (fun p q h => by omega) (fun p q h hp => ?_)
   by_cases e : p = k
   ·subst e; exact absurd hak hp.2.2.1
   ·omega
  ·rw [if_neg hak]
   refine Z3x (Z8b ha hb (by omega) hak ih b.length (Z1 _)) (fun p q h => by omega) (fun p q h hp => ?_)
   by_cases e : p = k
   ·exact .inr ⟨e, hp.2.1⟩
   ·exact .inl (by omega)
theorem Za1 {a b : List Int} (ha : ∀ x ∈ a, -1 <= x) (hb : ∀ x ∈ b, -1 <= x) : (Z2S a b).length = a.length + b.length - 1 := (Z3J ha hb a.length (Z1 _)).len
theorem ZgO {a b : List Int} (ha : ∀ x ∈ a, -1 <= x) (hb : ∀ x ∈ b, -1 <= x) {i j : Nat} (hp : ZiH a b i j) : ent a i + ent b j <= ent (Z2S a b) (i + j) := (Z3J ha hb a.length (Z1 _)).up i j hp.1 hp
theorem Z8R {a b : List Int} (ha : ∀ x ∈ a, -1 <= x) (hb : ∀ x ∈ b, -1 <= x) (n : Nat) : ent (Z2S a b) n = -1 \/ ∃ i j, ZiH a b i j /\ i + j = n /\ ent (Z2S a b) n = ent a i + ent b j := by
 rcases (Z3J ha hb a.length (Z1 _)).at_ n with h | ⟨i, j, _, hp, he, hv⟩
 ·exact .inl h
 ·exact .inr ⟨i, j, hp, he, hv⟩
theorem Zcd {a b : List Int} (ha : ∀ x ∈ a, -1 <= x) (hb : ∀ x ∈ b, -1 <= x) : ∀ x ∈ Z2S a b, -1 <= x := fun x hx => by
 obtain ⟨n, hn, rfl⟩ := List.mem_iff_getElem.1 hx
 have e : ent (Z2S a b) n = (Z2S a b)[n] := by unfold ent; rw [Z2, Z3 hn]; rfl
 rw [<- e]
 rcases Z8R ha hb n with h | ⟨i, j, hp, _, hv⟩
 ·omega
 ·have := Z1M ha hp.2.2.1
  have := Z1M hb hp.2.2.2
  omega
end Go.Proofs.YtlgajongmkhcnaaGreatDoor
namespace Go.Proofs.YtlgajongmkhcnaaGreatDoor
set_option linter.unusedVariables false
def Z0C (ts : List (List Int)) (i : Nat) : List Int := ts.getD i []
def sQ (N : Nat) (q : Nat -> Nat) : Nat -> Nat
 | 0 => 0
 | k + 1 => sQ N q k + q (N - 1 - k)
def sE (ts : List (List Int)) (q : Nat -> Nat) : Nat -> Int
 | 0 => 0
 | k + 1 => sE ts q k + ent (Z0C ts (ts.length - 1 - k)) (q (ts.length - 1 - k))
def ZjJ (ts : List (List Int)) (q : Nat -> Nat) (k : Nat) : Prop := ∀ j, j < k -> q (ts.length - 1 - j) < (Z0C ts (ts.length - 1 - j)).length /\ ent (Z0C ts (ts.length - 1 - j)) (q (ts.length - 1 - j)) ≠ -1
def Z7g (ts : List (List Int)) : Prop := ∀ t ∈ ts, (∀ x ∈ t, -1 <= x) /\ 0 < t.length
theorem ZdR {ts : List (List Int)} (h : Z7g ts) {i : Nat} (hi : i < ts.length) : (∀ x ∈ Z0C ts i, -1 <= x) /\ 0 < (Z0C ts i).length := by
 have : Z0C ts i ∈ ts := by unfold Z0C; rw [Z2, Z3 hi]; exact Z4 hi
 exact h _ this
theorem Z4I {ts : List (List Int)} (h : Z7g ts) : ∀ k, k <= ts.length -> (∀ x ∈ Z07 ts k, -1 <= x) /\ 0 < (Z07 ts k).length
 | 0, _ => ⟨by simp [Z07], by simp [Z07]⟩
 | k + 1, hk => by
  obtain ⟨a, b⟩ := Z4I h k (by omega)
  obtain ⟨c, d⟩ := ZdR h (i := ts.length - 1 - k) (by omega)
  have e : Z07 ts (k + 1) = Z2S (Z0C ts (ts.length - 1 - k)) (Z07 ts k) := rfl
  rw [e]
  exact ⟨Zcd c a, by rw [Za1 c a]; omega⟩
theorem Z4T {l : List Int} {i : Nat} (h : ent l i ≠ -1) : i < l.length := by
 by_cases hl : i < l.length
 ·exact hl
 ·exfalso; apply h; unfold ent; rw [Z2, List.getElem?_eq_none (by omega)]; rfl
theorem Z9N {ts : List (List Int)} (h : Z7g ts) (q : Nat -> Nat) : ∀ k, k <= ts.length -> ZjJ ts q k -> 0 <= sE ts q k /\ sE ts q k <= ent (Z07 ts k) (sQ ts.length q k)
 | 0, _, _ => ⟨Int.le_refl _, (by decide : (0 : Int) <= ent [0] 0)⟩
 | k + 1, hk, hp => by
  obtain ⟨a, b⟩ := Z9N h q k (by omega) (fun j hj => hp j (by omega))
  obtain ⟨m1, m2⟩ := Z4I h k (by omega)
  obtain ⟨c, d⟩ := ZdR h (i := ts.length - 1 - k) (by omega)
  obtain ⟨p1, p2⟩ := hp k (by omega)
  have e0 := Z1M c p2
  have hne : ent (Z07 ts k) (sQ ts.length q k) ≠ -1 := by omega
  have := ZgO c m1 (i := q (ts.length - 1 - k)) (j := sQ ts.length q k) ⟨p1, Z4T hne, p2, hne⟩
  have e : Z07 ts (k + 1) = Z2S (Z0C ts (ts.length - 1 - k)) (Z07 ts k) := rfl
  rw [e]
  unfold sE sQ
  rw [Nat.add_comm (sQ ts.length q k)]
  omega
theorem Z39 (come : List Int) (mn cents : Int) (p k : Nat) : Z0V come mn cents p (k + 1) = (fun acc => if Z0h mn cents (p : Nat) (p + k : Nat) ≠ -1 /\ ent come (p + k) ≠ -1 then max acc (ent come (p + k) + Z0h mn cents (p : Nat) (p + k : Nat)) else acc) (Z0V come mn cents p k) := by
 unfold Z0V; rw [List.range_succ, List.foldl_append]; rfl
theorem Zfz (come : List Int) (mn cents : Int) (p : Nat) : ∀ k j, j < k -> Z0h mn cents (p : Nat) (p + j : Nat) ≠ -1 -> ent come (p + j) ≠ -1 -> ent come (p + j) + Z0h mn cents (p : Nat) (p + j : Nat) <= Z0V come mn cents p k
 | 0, j, h, _, _ => absurd h (Nat.not_lt_zero _)
 | k + 1, j, h, h1, h2 => by
  rw [Z39]
  dsimp only
  by_cases e : j = k
  ·subst e
   rw [if_pos ⟨h1, h2⟩]; omega
  ·have := Zfz come mn cents p k j (by omega) h1 h2
   split <;> omega
theorem Z7d (come : List Int) (mn cents : Int) (p : Nat) (hc : ∀ x ∈ come, -1 <= x) (h0 : 0 <= cents) : ∀ k, Z0V come mn cents p k = -1 \/ ∃ j, j < k /\ Z0h mn cents (p : Nat) (p + j : Nat) ≠ -1 /\ ent come (p + j) ≠ -1 /\ Z0V come mn cents p k = ent come (p + j) + Z0h mn cents (p : Nat) (p + j : Nat)
 | 0 => .inl (by simp [Z0V])
 | k + 1 => by
  rw [Z39]
  dsimp only
  by_cases e : Z0h mn cents (p : Nat) (p + k : Nat) ≠ -1 /\ ent come (p + k) ≠ -1
  ·rw [if_pos e]
   rcases Z7d come mn cents p hc h0 k with h | ⟨j, hj, h1, h2, h3⟩
   ·right
    refine ⟨k, by omega, e.1, e.2, ?_⟩
    have := Z1M hc e.2
    have hs : 0 <= Z0h mn cents (p : Nat) (p + k : Nat) := by
     have h := e.1
     unfold Z0h at h ⊢
     split at h
     ·exact absurd rfl h
     ·rename_i hn
      rw [if_neg hn]
      exact Int.mul_nonneg (by omega) h0
    rw [h]; omega
   ·by_cases hm : ent come (p + k) + Z0h mn cents (p : Nat) (p + k : Nat) <= Z0V come mn cents p k
    ·exact .inr ⟨j, by omega, h1, h2, by omega⟩
    ·exact .inr ⟨k, by omega, e.1, e.2, by omega⟩
  ·rw [if_neg e]
   rcases Z7d come mn cents p hc h0 k with h | ⟨j, hj, h1, h2, h3⟩
   ·exact .inl h
   ·exact .inr ⟨j, by omega, h1, h2, h3⟩
end Go.Proofs.YtlgajongmkhcnaaGreatDoor
namespace Go.Proofs.YtlgajongmkhcnaaGreatDoor
set_option linter.unusedVariables false
theorem Z79 (come : List Int) (last : Bool) (mn cents : Int) {q : Nat} (h : q < (if last then 1 else come.length)) : ent (Z1j come last mn cents) q = Z0V come mn cents q (come.length - q) := by
 unfold Z1j ent
 rw [Z2, List.getElem?_map, List.getElem?_range h]
 rfl
theorem Z6h (come : List Int) (last : Bool) (mn cents : Int) : (Z1j come last mn cents).length = if last then 1 else come.length := by simp [Z1j]
theorem Z9p {mn cents p c : Int} (h0 : 0 <= cents) (h : Z0h mn cents p c ≠ -1) : 0 <= Z0h mn cents p c := by
 unfold Z0h at h ⊢
 split at h
 ·exact absurd rfl h
 ·rename_i hn
  rw [if_neg hn]
  exact Int.mul_nonneg (by omega) h0
theorem Ziq (come : List Int) (mn cents : Int) (p : Nat) (hc : ∀ x ∈ come, -1 <= x) (h0 : 0 <= cents) (k : Nat) : -1 <= Z0V come mn cents p k := by
 rcases Z7d come mn cents p hc h0 k with h | ⟨j, hj, h1, h2, h3⟩
 ·omega
 ·have := Z1M hc h2
  have := Z9p h0 h1
  omega
theorem ZbF (come : List Int) (last : Bool) (mn cents : Int) (hc : ∀ x ∈ come, -1 <= x) (hl : 0 < come.length) (h0 : 0 <= cents) : (∀ x ∈ Z1j come last mn cents, -1 <= x) /\ 0 < (Z1j come last mn cents).length := by
 refine ⟨fun x hx => ?_, by rw [Z6h]; split <;> omega⟩
 unfold Z1j at hx
 obtain ⟨p, _, rfl⟩ := List.mem_map.1 hx
 exact Ziq come mn cents p hc h0 _
def sS (s : Nat -> Int) (N : Nat) : Nat -> Int
 | 0 => 0
 | k + 1 => sS s N k + s (N - 1 - k)
theorem ZiP {ts : List (List Int)} {q : Nat -> Nat} {s : Nat -> Int} : ∀ k, k <= ts.length -> (∀ i, i < ts.length -> s i <= ent (Z0C ts i) (q i)) -> sS s ts.length k <= sE ts q k
 | 0, _, _ => Int.le_refl _
 | k + 1, hk, h => by
  have := ZiP k (by omega) h
  have := h (ts.length - 1 - k) (by omega)
  unfold sS sE
  omega
theorem ZdT (come : List Int) (last : Bool) (mn cents : Int) (h0 : 0 <= cents) (hc : ∀ x ∈ come, -1 <= x) {Q t : Nat} {s : Int} (hs : s <= ent come Q) (hs0 : 0 <= s) (ht : t <= Q) (hv : t = 0 \/ mn <= (t : Int)) (hlast : last = true -> Q - t = 0) :
 s + (t : Int) * cents <= ent (Z1j come last mn cents) (Q - t) := by
 have hne : ent come Q ≠ -1 := by omega
 have hQ := Z4T hne
 have hq : Q - t < (if last then 1 else come.length) := by
  cases last
  ·simp; omega
  ·have := hlast rfl; simp; omega
 rw [Z79 come last mn cents hq]
 have hsv : Z0h mn cents ((Q - t : Nat) : Int) ((Q - t + t : Nat) : Int) = (t : Int) * cents := by
  unfold Z0h
  have e : ((Q - t + t : Nat) : Int) - ((Q - t : Nat) : Int) = (t : Int) := by omega
  rw [e, if_neg (by omega)]
 have hsn : Z0h mn cents ((Q - t : Nat) : Int) ((Q - t + t : Nat) : Int) ≠ -1 := by
  rw [hsv]
  have : 0 <= (t : Int) * cents := Int.mul_nonneg (by omega) h0
  omega
 have e : Q - t + t = Q := by omega
 have := Zfz come mn cents (Q - t) (come.length - (Q - t)) t (by omega) hsn (by rw [e]; exact hne)
 rw [hsv, e] at this
 omega
end Go.Proofs.YtlgajongmkhcnaaGreatDoor
namespace Go.Proofs.YtlgajongmkhcnaaGreatDoor
set_option linter.unusedVariables false
theorem ZgU (a rest : List Int) (fits : Int -> Int -> Bool) (h : ∃ i j, ent a i ≠ -1 /\ ent rest j ≠ -1 /\ fits ((i + j : Nat) : Int) (ent a i + ent rest j) = true) :
 (∃ j, ent a (Z8h a rest fits) ≠ -1 /\ ent rest j ≠ -1 /\ fits ((Z8h a rest fits + j : Nat) : Int) (ent a (Z8h a rest fits) + ent rest j) = true) /\
 ∀ i j, i < Z8h a rest fits -> ent a i ≠ -1 -> ent rest j ≠ -1 -> fits ((i + j : Nat) : Int) (ent a i + ent rest j) = false := by
 obtain ⟨i, j, h1, h2, h3⟩ := h
 have hi := Z4T h1
 have hj := Z4T h2
 unfold Z8h
 have hs : ∃ x, (List.range a.length).find? (fun i => decide (a.getD i (-1) ≠ -1) && (List.range rest.length).any (fun j => decide (rest.getD j (-1) ≠ -1) && fits (i + j : Nat) (a.getD i (-1) + rest.getD j (-1)))) = some x := by
  rw [<- Option.isSome_iff_exists, List.find?_isSome]
  refine ⟨i, List.mem_range.2 hi, ?_⟩
  rw [ZF, decide_eq_true_eq, List.any_eq_true]
  exact ⟨h1, j, List.mem_range.2 hj, by rw [ZF, decide_eq_true_eq]; exact ⟨h2, h3⟩⟩
 obtain ⟨x, hx⟩ := hs
 rw [hx]
 show (∃ j, ent a x ≠ -1 /\ ent rest j ≠ -1 /\ fits ((x + j : Nat) : Int) (ent a x + ent rest j) = true) /\ _
 constructor
 ·have := List.find?_some hx
  rw [ZF, decide_eq_true_eq, List.any_eq_true] at this
  obtain ⟨k1, j', _, hj'⟩ := this
  rw [ZF, decide_eq_true_eq] at hj'
  exact ⟨j', k1, hj'.1, hj'.2⟩
 ·intro i' j' hlt g1 g2
  have hlt' : i' < x := hlt
  rw [List.find?_eq_some_iff_getElem] at hx
  obtain ⟨_, n, hn, he, hbefore⟩ := hx
  rw [List.getElem_range] at he
  subst he
  have hb := hbefore i' hlt'
  rw [List.getElem_range] at hb
  cases hf : fits ((i' + j' : Nat) : Int) (ent a i' + ent rest j')
  ·rfl
  ·exfalso
   have : (decide (a.getD i' (-1) ≠ -1) && (List.range rest.length).any (fun j => decide (rest.getD j (-1) ≠ -1) && fits (i' + j : Nat) (a.getD i' (-1) + rest.getD j (-1)))) = true := by
    rw [ZF, decide_eq_true_eq, List.any_eq_true]
    exact ⟨g1, j', List.mem_range.2 (Z4T g2), by rw [ZF, decide_eq_true_eq]; exact ⟨g2, hf⟩⟩
   rw [this] at hb
   cases hb
structure DivInv (mn cents P most : Int) (ts : List (List Int)) (k : Nat) (come : Nat) (saved : Int) (out : List Nat) : Prop where
 len : out.length = k
 sum : come = out.sum
 ok : ∀ i, i < k -> ent (Z0C ts i) (out.getD i 0) ≠ -1
 sv : saved = ((List.range k).map (fun i => ent (Z0C ts i) (out.getD i 0))).sum
 rest : ∃ r, ent (Z07 ts (ts.length - k)) r ≠ -1 /\ Z0h mn cents P ((come + r : Nat) : Int) ≠ -1 /\ saved + ent (Z07 ts (ts.length - k)) r + Z0h mn cents P ((come + r : Nat) : Int) = most
theorem Z3z {l : List Nat} {x i : Nat} (h : i < l.length) : (l ++ [x]).getD i 0 = l.getD i 0 := by
 simp only [Z2, List.getElem?_append_left h]
theorem Z3A {l : List Nat} {x k : Nat} (h : l.length = k) : (l ++ [x]).getD k 0 = x := by
 simp [Z2, <- h]
theorem Zfm {mn cents P most : Int} {ts : List (List Int)} (hts : Z7g ts)
 (h0 : ∃ r, ent (Z07 ts ts.length) r ≠ -1 /\ Z0h mn cents P (r : Nat) ≠ -1 /\ ent (Z07 ts ts.length) r + Z0h mn cents P (r : Nat) = most) :
 ∀ k, k <= ts.length -> DivInv mn cents P most ts k (Z1g mn cents P most ts k).1 (Z1g mn cents P most ts k).2.1 (Z1g mn cents P most ts k).2.2
 | 0, _ => by
  obtain ⟨r, h1, h2, h3⟩ := h0
  refine ⟨rfl, rfl, fun i h => absurd h (Nat.not_lt_zero _), rfl, r, h1, ?_, ?_⟩
  ·show Z0h mn cents P ((0 + r : Nat) : Int) ≠ -1
   rw [Nat.zero_add]; exact h2
  ·show 0 + ent (Z07 ts ts.length) r + Z0h mn cents P ((0 + r : Nat) : Int) = most
   rw [Nat.zero_add]; omega
 | k + 1, hk => by
  have ih := Zfm hts h0 k (by omega)
  generalize hd : Z1g mn cents P most ts k = d at ih
  obtain ⟨come, saved, out⟩ := d
  obtain ⟨i1, i2, i3, i4, r, r1, r2, r3⟩ := ih
  dsimp only at i1 i2 i3 i4 r1 r2 r3
  obtain ⟨c, dd⟩ := ZdR hts (i := k) (by omega)
  obtain ⟨m1, m2⟩ := Z4I hts (ts.length - 1 - k) (by omega)
  have e1 : ts.length - k = (ts.length - 1 - k) + 1 := by omega
  have e2 : Z07 ts (ts.length - k) = Z2S (Z0C ts k) (Z07 ts (ts.length - 1 - k)) := by
   rw [e1]
   show Z2S (ts.getD (ts.length - 1 - (ts.length - 1 - k)) []) _ = _
   rw [show ts.length - 1 - (ts.length - 1 - k) = k by omega]; rfl
  rw [e2] at r1 r3
  have hex : ∃ i j, ent (Z0C ts k) i ≠ -1 /\ ent (Z07 ts (ts.length - 1 - k)) j ≠ -1 /\
   (fun (q below : Int) => decide (Z0h mn cents P (come + q) ≠ -1) && decide (saved + below + Z0h mn cents P (come + q) = most)) ((i + j : Nat) : Int) (ent (Z0C ts k) i + ent (Z07 ts (ts.length - 1 - k)) j) = true := by
   rcases Z8R c m1 r with h | ⟨i, j, hp, hij, hv⟩
   ·exact absurd h r1
   ·refine ⟨i, j, hp.2.2.1, hp.2.2.2, ?_⟩
    have e3 : ((come : Int) + ((i + j : Nat) : Int)) = ((come + r : Nat) : Int) := by omega
    dsimp only
    rw [e3, ZF, decide_eq_true_eq, decide_eq_true_eq]
    exact ⟨r2, by rw [<- hv]; exact r3⟩
  obtain ⟨⟨j, f1, f2, f3⟩, _⟩ := ZgU (Z0C ts k) (Z07 ts (ts.length - 1 - k)) (fun (q below : Int) => decide (Z0h mn cents P (come + q) ≠ -1) && decide (saved + below + Z0h mn cents P (come + q) = most)) hex
  have hstep : Z1g mn cents P most ts (k + 1) = (come + Z8h (Z0C ts k) (Z07 ts (ts.length - 1 - k)) (fun q below => decide (Z0h mn cents P (come + q) ≠ -1) && decide (saved + below + Z0h mn cents P (come + q) = most)),
   saved + ent (Z0C ts k) (Z8h (Z0C ts k) (Z07 ts (ts.length - 1 - k)) (fun q below => decide (Z0h mn cents P (come + q) ≠ -1) && decide (saved + below + Z0h mn cents P (come + q) = most))),
   out ++ [Z8h (Z0C ts k) (Z07 ts (ts.length - 1 - k)) (fun q below => decide (Z0h mn cents P (come + q) ≠ -1) && decide (saved + below + Z0h mn cents P (come + q) = most))]) := by
   rw [Z1g, hd]; rfl
  rw [hstep]
  generalize Z8h (Z0C ts k) (Z07 ts (ts.length - 1 - k)) (fun q below => decide (Z0h mn cents P (come + q) ≠ -1) && decide (saved + below + Z0h mn cents P (come + q) = most)) = p at f1 f3
  rw [ZF, decide_eq_true_eq, decide_eq_true_eq] at f3
  have e4 : ((come : Int) + ((p + j : Nat) : Int)) = ((come + p + j : Nat) : Int) := by omega
  rw [e4] at f3
  refine ⟨by rw [ZC, i1]; rfl, by dsimp only; rw [List.sum_append, i2]; simp, fun i hi => ?_, ?_, j, ?_, ?_, ?_⟩
  ·by_cases e : i = k
   ·subst e; rw [Z3A i1]; exact f1
   ·rw [Z3z (by omega)]; exact i3 i (by omega)
  ·dsimp only
   rw [List.range_succ, ZD, List.sum_append, i4]
   congr 1
   ·congr 1
    refine List.map_congr_left (fun i hi => ?_)
    rw [Z3z (by have := List.mem_range.1 hi; omega)]
   ·rw [List.map_cons, List.map_nil, Z3A i1]; simp
  ·rw [show ts.length - (k + 1) = ts.length - 1 - k by omega]; exact f2
  ·exact f3.1
  ·rw [show ts.length - (k + 1) = ts.length - 1 - k by omega]
   dsimp only
   have := f3.2
   omega
end Go.Proofs.YtlgajongmkhcnaaGreatDoor
namespace Go.Proofs.YtlgajongmkhcnaaGreatDoor
set_option linter.unusedVariables false
structure Forest (ls : List (Int × Int)) (gs : List PGrp) : Prop where
 lvl : ∀ g, g < gs.length -> 0 <= (Z0c gs g).lvl /\ (Z0c gs g).lvl < (ls.length : Int)
 below : ∀ g, g < gs.length -> ∀ h ∈ Z04 gs g, h < g
 parts : ∀ g, g < gs.length -> 0 < (Z0c gs g).lvl -> ((Z04 gs g).flatMap (fun h => (Z0c gs h).items)).Perm (Z0c gs g).items /\ Z04 gs g ≠ []
 sub : ∀ g, g < gs.length -> ∀ h ∈ Z04 gs g, (Z0c gs h).lvl + 1 = (Z0c gs g).lvl
 some_ : ∀ g, g < gs.length -> (Z0c gs g).items ≠ []
 cents : ∀ l ∈ ls, 0 <= l.2
def Z2C (ls : List (Int × Int)) (gs : List PGrp) (g : Nat) : Int × Int := ls.getD (Z0c gs g).lvl.toNat (0, 0)
theorem ZbE (ls : List (Int × Int)) (gs : List PGrp) : ∀ k, (Z0A ls gs k).length = k
 | 0 => rfl
 | k + 1 => by
  have : Z0A ls gs (k + 1) = Z0A ls gs k ++ [Z1j (Z1W (Z0c gs k).lvl (Z0c gs k).items.length ((Z04 gs k).map (fun h => (Z0A ls gs k).getD h []))) (decide ((Z0c gs k).lvl = (ls.length : Int) - 1)) (Z2C ls gs k).1 (Z2C ls gs k).2] := rfl
  rw [this, ZC, ZbE ls gs k]; rfl
theorem Z5V (ls : List (Int × Int)) (gs : List PGrp) : ∀ k g, g < k -> Z0C (Z0A ls gs k) g = Z1j (Z1W (Z0c gs g).lvl (Z0c gs g).items.length ((Z04 gs g).map (fun h => (Z0A ls gs g).getD h []))) (decide ((Z0c gs g).lvl = (ls.length : Int) - 1)) (Z2C ls gs g).1 (Z2C ls gs g).2
 | 0, g, h => absurd h (Nat.not_lt_zero _)
 | k + 1, g, h => by
  have e : Z0A ls gs (k + 1) = Z0A ls gs k ++ [Z1j (Z1W (Z0c gs k).lvl (Z0c gs k).items.length ((Z04 gs k).map (fun h => (Z0A ls gs k).getD h []))) (decide ((Z0c gs k).lvl = (ls.length : Int) - 1)) (Z2C ls gs k).1 (Z2C ls gs k).2] := rfl
  have hl := ZbE ls gs k
  by_cases hg : g = k
  ·subst hg
   rw [e]
   unfold Z0C
   rw [Z2, List.getElem?_append_right (by omega), hl, Nat.sub_self]
   rfl
  ·have := Z5V ls gs k g (by omega)
   rw [<- this, e]
   unfold Z0C
   rw [Z2, Z2, List.getElem?_append_left (by omega)]
theorem ZdP (ls : List (Int × Int)) (gs : List PGrp) {g k m : Nat} (h1 : g < k) (h2 : g < m) : Z0C (Z0A ls gs k) g = Z0C (Z0A ls gs m) g := by rw [Z5V ls gs k g h1, Z5V ls gs m g h2]
def Z0W (ls : List (Int × Int)) (gs : List PGrp) (g : Nat) : List Int := Z0C (Z0A ls gs gs.length) g
def Z0b (ls : List (Int × Int)) (gs : List PGrp) (g : Nat) : List (List Int) := (Z04 gs g).map (Z0W ls gs)
def Z17 (ls : List (Int × Int)) (gs : List PGrp) (g : Nat) : List Int := Z1W (Z0c gs g).lvl (Z0c gs g).items.length (Z0b ls gs g)
theorem Z4m {ls : List (Int × Int)} {gs : List PGrp} (hF : Forest ls gs) {g : Nat} (hg : g < gs.length) : Z0W ls gs g = Z1j (Z17 ls gs g) (decide ((Z0c gs g).lvl = (ls.length : Int) - 1)) (Z2C ls gs g).1 (Z2C ls gs g).2 := by
 unfold Z0W Z17 Z0b
 rw [Z5V ls gs _ g hg]
 congr 2
 refine List.map_congr_left (fun h hh => ?_)
 have hlt := hF.below g hg h hh
 exact ZdP ls gs hlt (by omega)
theorem Z3I {ls : List (Int × Int)} {gs : List PGrp} (hF : Forest ls gs) {g : Nat} (hg : g < gs.length) : 0 <= (Z2C ls gs g).2 := by
 obtain ⟨a, b⟩ := hF.lvl g hg
 have hi : (Z0c gs g).lvl.toNat < ls.length := by omega
 unfold Z2C
 rw [Z2, Z3 hi]
 exact hF.cents _ (Z4 hi)
theorem Zbp {ls : List (Int × Int)} {gs : List PGrp} (hF : Forest ls gs) {g : Nat} (hg : g < gs.length) (hs : Z7g (Z0b ls gs g)) : (∀ x ∈ Z17 ls gs g, -1 <= x) /\ 0 < (Z17 ls gs g).length := by
 unfold Z17 Z1W
 by_cases h0 : (Z0c gs g).lvl = 0
 ·rw [if_pos h0]
  refine ⟨fun x hx => ?_, by simp⟩
  rcases ZG.1 hx with hx | hx
  ·rw [(List.mem_replicate.1 hx).2]; decide
  ·obtain rfl := ZI.1 hx; decide
 ·rw [if_neg h0]
  have hne := (hF.parts g hg (by have := (hF.lvl g hg).1; omega)).2
  have hl : (Z0b ls gs g).length ≠ 0 := by unfold Z0b; rw [Z7]; exact fun h => hne (List.length_eq_zero_iff.1 h)
  rw [if_neg hl]
  exact Z4I hs _ (Z1 _)
theorem ZbG {ls : List (Int × Int)} {gs : List PGrp} (hF : Forest ls gs) : ∀ g, g < gs.length -> (∀ x ∈ Z0W ls gs g, -1 <= x) /\ 0 < (Z0W ls gs g).length := by
 intro g
 induction g using Nat.strongRecOn with
 | ind g ih =>
  intro hg
  have hs : Z7g (Z0b ls gs g) := fun t ht => by
   obtain ⟨h, hh, rfl⟩ := List.mem_map.1 ht
   have := hF.below g hg h hh
   exact ih h this (by omega)
  obtain ⟨a, b⟩ := Zbp hF hg hs
  rw [Z4m hF hg]
  exact ZbF _ _ _ _ a b (Z3I hF hg)
theorem Z4n {ls : List (Int × Int)} {gs : List PGrp} (hF : Forest ls gs) {g : Nat} (hg : g < gs.length) : Z7g (Z0b ls gs g) := fun t ht => by
 obtain ⟨h, hh, rfl⟩ := List.mem_map.1 ht
 have := hF.below g hg h hh
 exact ZbG hF h (by omega)
def takeN (p : Int -> Int) (g : PGrp) : Nat := g.items.countP (fun i => decide (p i = g.lvl))
def Z2A (p : Int -> Int) (g : PGrp) : Nat := g.items.countP (fun i => decide (g.lvl < p i))
def Z2D (ls : List (Int × Int)) (z : Int) : Int := (ls.getD z.toNat (0, 0)).2
def Z2l (ls : List (Int × Int)) (p : Int -> Int) (g : PGrp) : Int := (g.items.map (fun i => if p i <= g.lvl then Z2D ls (p i) else 0)).sum
end Go.Proofs.YtlgajongmkhcnaaGreatDoor
namespace Go.Proofs.YtlgajongmkhcnaaGreatDoor
set_option linter.unusedVariables false
theorem Ze9 (N : Nat) (q : Nat -> Nat) : ∀ k, k <= N -> sQ N q k + ((List.range (N - k)).map q).sum = ((List.range N).map q).sum
 | 0, _ => by show 0 + _ = _; rw [Nat.zero_add]; rfl
 | k + 1, hk => by
  have ih := Ze9 N q k (by omega)
  rw [show N - k = (N - (k + 1)) + 1 by omega, List.range_succ, ZD, List.sum_append] at ih
  simp only [List.map_cons, List.map_nil, List.sum_cons, List.sum_nil] at ih
  unfold sQ
  rw [show N - 1 - k = N - (k + 1) by omega]
  omega
theorem Zho (N : Nat) (s : Nat -> Int) : ∀ k, k <= N -> sS s N k + ((List.range (N - k)).map s).sum = ((List.range N).map s).sum
 | 0, _ => by show 0 + _ = _; rw [Int.zero_add]; rfl
 | k + 1, hk => by
  have ih := Zho N s k (by omega)
  rw [show N - k = (N - (k + 1)) + 1 by omega, List.range_succ, ZD, List.sum_append] at ih
  simp only [List.map_cons, List.map_nil, List.sum_cons, List.sum_nil] at ih
  unfold sS
  rw [show N - 1 - k = N - (k + 1) by omega]
  omega
theorem Z13 {β : Type} (l : List Nat) (f : Nat -> β) : (List.range l.length).map (fun i => f (l.getD i 0)) = l.map f := by
 apply List.ext_getElem
 ·simp
 ·intro i h1 h2
  have hi : i < l.length := by simpa using h2
  simp only [List.getElem_map, List.getElem_range, Z2, Z3 hi]
  rfl
theorem Z8E {l l' : List Int} (h : l.Perm l') : l.sum = l'.sum := by
 induction h with
 | nil => rfl
 | cons x _ ih => simp only [List.sum_cons, ih]
 | swap x y l => simp only [List.sum_cons]; omega
 | trans _ _ ih1 ih2 => rw [ih1, ih2]
theorem Z49 {α : Type} (l : List α) (f : α -> List Int) (w : Int -> Int) : ((l.flatMap f).map w).sum = (l.map (fun a => ((f a).map w).sum)).sum := by
 induction l with
 | nil => rfl
 | cons a r ih => rw [List.flatMap_cons, ZD, List.sum_append, ih, List.map_cons, List.sum_cons]
theorem Z8Z {α : Type} (l : List α) (f : α -> List Int) (w : Int -> Bool) : (l.flatMap f).countP w = (l.map (fun a => (f a).countP w)).sum := by
 induction l with
 | nil => rfl
 | cons a r ih => rw [List.flatMap_cons, List.countP_append, ih, List.map_cons, List.sum_cons]
structure PlanOk (ls : List (Int × Int)) (gs : List PGrp) (p : Int -> Int) : Prop where
 num : ∀ g, g < gs.length -> ∀ i ∈ (Z0c gs g).items, 0 <= p i /\ p i < (ls.length : Int)
 enough : ∀ g, g < gs.length -> takeN p (Z0c gs g) = 0 \/ (Z2C ls gs g).1 <= (takeN p (Z0c gs g) : Int)
theorem Zbn (p : Int -> Int) (m : Int) (l : List Int) : l.countP (fun i => decide (m - 1 < p i)) = l.countP (fun i => decide (p i = m)) + l.countP (fun i => decide (m < p i)) := by
 induction l with
 | nil => rfl
 | cons x r ih =>
  simp only [List.countP_cons, ih, decide_eq_true_eq]
  by_cases h1 : p x = m
  ·rw [if_pos (show m - 1 < p x by omega), if_pos h1, if_neg (show ¬ m < p x by omega)]; omega
  ·rw [if_neg h1]
   by_cases h2 : m < p x
   ·rw [if_pos (show m - 1 < p x by omega), if_pos h2]; omega
   ·rw [if_neg (show ¬ m - 1 < p x by omega), if_neg h2]; omega
theorem Z7K (ls : List (Int × Int)) (p : Int -> Int) (m : Int) (l : List Int) : (l.map (fun i => if p i <= m then Z2D ls (p i) else 0)).sum = (l.map (fun i => if p i <= m - 1 then Z2D ls (p i) else 0)).sum + (l.countP (fun i => decide (p i = m)) : Int) * Z2D ls m := by
 induction l with
 | nil => simp
 | cons x r ih =>
  simp only [List.map_cons, List.sum_cons, List.countP_cons, ih, decide_eq_true_eq]
  generalize r.countP (fun i => decide (p i = m)) = n
  generalize (r.map (fun i => if p i <= m - 1 then Z2D ls (p i) else 0)).sum = t
  by_cases h1 : p x = m
  ·rw [if_pos h1, if_pos (by omega), if_neg (by omega), h1]
   have e : ((n + 1 : Nat) : Int) * Z2D ls m = (n : Int) * Z2D ls m + Z2D ls m := by rw [Int.natCast_add, Int.add_mul]; simp
   rw [e]
   generalize (n : Int) * Z2D ls m = z
   omega
  ·rw [if_neg h1, Nat.add_zero]
   generalize (n : Int) * Z2D ls m = z
   by_cases h2 : p x <= m - 1
   ·rw [if_pos h2, if_pos (by omega)]; omega
   ·rw [if_neg h2, if_neg (by omega)]; omega
theorem Zbs {ls : List (Int × Int)} {gs : List PGrp} (hF : Forest ls gs) (z : Int) : 0 <= Z2D ls z := by
 unfold Z2D
 by_cases h : z.toNat < ls.length
 ·rw [Z2, Z3 h]; exact hF.cents _ (Z4 h)
 ·rw [Z2, List.getElem?_eq_none (by omega)]; exact Int.le_refl _
theorem Z3X {ls : List (Int × Int)} {gs : List PGrp} (hF : Forest ls gs) (p : Int -> Int) (g : PGrp) : 0 <= Z2l ls p g := by
 unfold Z2l
 generalize g.items = l
 induction l with
 | nil => simp
 | cons x r ih =>
  rw [List.map_cons, List.sum_cons]
  have := Zbs hF (p x)
  split <;> omega
theorem ZeS (ls : List (Int × Int)) (gs : List PGrp) (g : Nat) : (Z2C ls gs g).2 = Z2D ls (Z0c gs g).lvl := rfl
theorem Z7T {ls : List (Int × Int)} {gs : List PGrp} (hF : Forest ls gs) {p : Int -> Int} (hp : PlanOk ls gs p) : ∀ g, g < gs.length -> Z2l ls p (Z0c gs g) <= ent (Z0W ls gs g) (Z2A p (Z0c gs g)) := by
 intro g
 induction g using Nat.strongRecOn with
 | ind g ih =>
  intro hg
  obtain ⟨l0, l1⟩ := hF.lvl g hg
  have hc0 := Z3I hF hg
  have hgood := Zbp hF hg (Z4n hF hg)
  rw [Z4m hF hg]
  have hsplit : Z2l ls p (Z0c gs g) = ((Z0c gs g).items.map (fun i => if p i <= (Z0c gs g).lvl - 1 then Z2D ls (p i) else 0)).sum + (takeN p (Z0c gs g) : Int) * (Z2C ls gs g).2 := by
   unfold Z2l takeN; rw [ZeS]; exact Z7K ls p _ _
  have hcnt : (Z0c gs g).items.countP (fun i => decide ((Z0c gs g).lvl - 1 < p i)) = takeN p (Z0c gs g) + Z2A p (Z0c gs g) := Zbn p _ _
  obtain ⟨Q, hQ⟩ : ∃ Q, (Z0c gs g).items.countP (fun i => decide ((Z0c gs g).lvl - 1 < p i)) = Q := ⟨_, rfl⟩
  obtain ⟨s, hs⟩ : ∃ s, ((Z0c gs g).items.map (fun i => if p i <= (Z0c gs g).lvl - 1 then Z2D ls (p i) else 0)).sum = s := ⟨_, rfl⟩
  rw [hQ] at hcnt
  rw [hs] at hsplit
  have hlast : decide ((Z0c gs g).lvl = (ls.length : Int) - 1) = true -> Q - takeN p (Z0c gs g) = 0 := fun h => by
   have hl : (Z0c gs g).lvl = (ls.length : Int) - 1 := of_decide_eq_true h
   have : Z2A p (Z0c gs g) = 0 := by
    unfold Z2A
    rw [List.countP_eq_zero]
    intro i hi
    have := (hp.num g hg i hi).2
    simp; omega
   omega
  have key : s <= ent (Z17 ls gs g) Q /\ 0 <= s := by
   by_cases h0 : (Z0c gs g).lvl = 0
   ·have hs0 : s = 0 := by
     rw [<- hs]
     have : (Z0c gs g).items.map (fun i => if p i <= (Z0c gs g).lvl - 1 then Z2D ls (p i) else 0) = (Z0c gs g).items.map (fun _ => (0 : Int)) := List.map_congr_left (fun i hi => by
      have := (hp.num g hg i hi).1
      rw [if_neg (by omega)])
     rw [this]
     generalize (Z0c gs g).items = l
     induction l with
     | nil => rfl
     | cons x r ih => simpa using ih
    have hQ0 : Q = (Z0c gs g).items.length := by
     rw [<- hQ, List.countP_eq_length]
     intro i hi
     have := (hp.num g hg i hi).1
     simp; omega
    have he : ent (Z17 ls gs g) Q = 0 := by
     unfold Z17 Z1W
     rw [if_pos h0, hQ0]
     unfold ent
     rw [Z2, List.getElem?_append_right (by simp)]
     simp
    omega
   ·have hpos : 0 < (Z0c gs g).lvl := by omega
    obtain ⟨hperm, hne⟩ := hF.parts g hg hpos
    have hl : (Z0b ls gs g).length = (Z04 gs g).length := by unfold Z0b; rw [Z7]
    have hce : Z17 ls gs g = Z07 (Z0b ls gs g) (Z0b ls gs g).length := by
     unfold Z17 Z1W
     rw [if_neg h0, if_neg (by rw [hl]; exact fun h => hne (List.length_eq_zero_iff.1 h))]
    have hsub : ∀ i, i < (Z04 gs g).length -> (Z04 gs g).getD i 0 ∈ Z04 gs g := fun i hi => by
     rw [Z2, Z3 hi]; exact Z4 hi
    have htab : ∀ i, i < (Z04 gs g).length -> Z0C (Z0b ls gs g) i = Z0W ls gs ((Z04 gs g).getD i 0) := fun i hi => by
     unfold Z0C Z0b
     rw [Z2, List.getElem?_map, Z2, Z3 hi]; rfl
    have hih : ∀ i, i < (Z0b ls gs g).length -> Z2l ls p (Z0c gs ((Z04 gs g).getD i 0)) <= ent (Z0C (Z0b ls gs g) i) (Z2A p (Z0c gs ((Z04 gs g).getD i 0))) := fun i hi => by
     rw [hl] at hi
     have hb := hF.below g hg _ (hsub i hi)
     rw [htab i hi]
     exact ih _ hb (by omega)
    have hposs : ZjJ (Z0b ls gs g) (fun i => Z2A p (Z0c gs ((Z04 gs g).getD i 0))) (Z0b ls gs g).length := fun j hj => by
     have := hih ((Z0b ls gs g).length - 1 - j) (by omega)
     have h2 := Z3X hF p (Z0c gs ((Z04 gs g).getD ((Z0b ls gs g).length - 1 - j) 0))
     have hne' : ent (Z0C (Z0b ls gs g) ((Z0b ls gs g).length - 1 - j)) (Z2A p (Z0c gs ((Z04 gs g).getD ((Z0b ls gs g).length - 1 - j) 0))) ≠ -1 := by omega
     exact ⟨Z4T hne', hne'⟩
    obtain ⟨b1, b2⟩ := Z9N (Z4n hF hg) (fun i => Z2A p (Z0c gs ((Z04 gs g).getD i 0))) _ (Z1 _) hposs
    have b3 := ZiP (ts := Z0b ls gs g) (q := fun i => Z2A p (Z0c gs ((Z04 gs g).getD i 0))) (s := fun i => Z2l ls p (Z0c gs ((Z04 gs g).getD i 0))) _ (Z1 _) hih
    have q1 := Ze9 (Z0b ls gs g).length (fun i => Z2A p (Z0c gs ((Z04 gs g).getD i 0))) _ (Z1 _)
    have s1 := Zho (Z0b ls gs g).length (fun i => Z2l ls p (Z0c gs ((Z04 gs g).getD i 0))) _ (Z1 _)
    rw [Nat.sub_self, hl] at q1 s1
    rw [Z13 (Z04 gs g) (fun h => Z2A p (Z0c gs h))] at q1
    rw [Z13 (Z04 gs g) (fun h => Z2l ls p (Z0c gs h))] at s1
    simp only [List.range_zero, List.map_nil, List.sum_nil] at q1 s1
    have hQs : Q = ((Z04 gs g).map (fun h => Z2A p (Z0c gs h))).sum := by
     rw [<- hQ, <- hperm.countP_eq, Z8Z]
     congr 1
     refine List.map_congr_left (fun h hh => ?_)
     unfold Z2A
     have := hF.sub g hg h hh
     rw [show (Z0c gs g).lvl - 1 = (Z0c gs h).lvl by omega]
    have hSs : s = ((Z04 gs g).map (fun h => Z2l ls p (Z0c gs h))).sum := by
     rw [<- hs, <- Z8E (hperm.map _), Z49]
     congr 1
     refine List.map_congr_left (fun h hh => ?_)
     unfold Z2l
     have := hF.sub g hg h hh
     rw [show (Z0c gs g).lvl - 1 = (Z0c gs h).lvl by omega]
    rw [hl] at b2 b3
    rw [hce, hl]
    have e1 : sQ (Z04 gs g).length (fun i => Z2A p (Z0c gs ((Z04 gs g).getD i 0))) (Z04 gs g).length = Q := by omega
    have e2 : sS (fun i => Z2l ls p (Z0c gs ((Z04 gs g).getD i 0))) (Z04 gs g).length (Z04 gs g).length = s := by omega
    rw [e1] at b2
    rw [e2] at b3
    refine ⟨by omega, ?_⟩
    rw [hSs]
    generalize Z04 gs g = l
    induction l with
    | nil => simp
    | cons x r ih' =>
     rw [List.map_cons, List.sum_cons]
     have := Z3X hF p (Z0c gs x)
     have := ih'
     omega
  have := ZdT (Z17 ls gs g) (decide ((Z0c gs g).lvl = (ls.length : Int) - 1)) (Z2C ls gs g).1 (Z2C ls gs g).2 hc0 hgood.1 key.1 key.2 (t := takeN p (Z0c gs g)) (by omega) (hp.enough g hg) hlast
  rw [show Q - takeN p (Z0c gs g) = Z2A p (Z0c gs g) by omega] at this
  rw [hsplit]
  exact this
end Go.Proofs.YtlgajongmkhcnaaGreatDoor
namespace Go.Proofs.YtlgajongmkhcnaaGreatDoor
set_option linter.unusedVariables false
def Z6B (ls : List (Int × Int)) (gs : List PGrp) (tabs : List (List Int)) (g : Nat) (P : Int) : Nat × Int × List Nat :=
 Z1g (Z2C ls gs g).1 (Z2C ls gs g).2 P ((tabs.getD g []).getD P.toNat (-1)) ((Z04 gs g).map (fun h => tabs.getD h [])) (Z04 gs g).length
theorem Z41 (ls : List (Int × Int)) (gs : List PGrp) (tabs : List (List Int)) (k : Nat) : Z1C ls gs tabs (k + 1) = fun h => match (Z04 gs (gs.length - 1 - k)).idxOf? h with
 | some i => (((Z6B ls gs tabs (gs.length - 1 - k) (Z1C ls gs tabs k (gs.length - 1 - k))).2.2.getD i 0 : Nat) : Int)
 | none => Z1C ls gs tabs k h := rfl
theorem Z2O {gs : List PGrp} {g h : Nat} : h ∈ Z04 gs g ↔ h < gs.length /\ (Z0c gs h).up = (g : Int) := by
 unfold Z04 Z0c
 rw [List.mem_filter, List.mem_range, decide_eq_true_eq]
theorem Z1N (gs : List PGrp) (g : Nat) : (Z04 gs g).Nodup := by
 unfold Z04
 exact List.Nodup.sublist List.filter_sublist List.nodup_range
theorem Z4P {l : List Nat} {h : Nat} (hn : h ∉ l) : l.idxOf? h = none := by
 rw [List.idxOf?_eq_none_iff]; exact hn
theorem Z3K {l : List Nat} (hd : l.Nodup) {i : Nat} (hi : i < l.length) : l.idxOf? l[i] = some i := by
 induction l generalizing i with
 | nil => simp at hi
 | cons x r ih =>
  rw [List.nodup_cons] at hd
  cases i with
  | zero => simp [List.idxOf?_cons]
  | succ i =>
   have hi' : i < r.length := by simpa using hi
   have hne : x ≠ r[i] := fun e => hd.1 (by rw [e]; exact Z4 hi')
   rw [List.getElem_cons_succ, List.idxOf?_cons, ih hd.2 hi']
   simp [hne]
theorem Z4D (ls : List (Int × Int)) (gs : List PGrp) (tabs : List (List Int)) (h : Nat) (k : Nat) : ∀ m, k <= m -> (∀ j, k <= j -> j < m -> h ∉ Z04 gs (gs.length - 1 - j)) -> Z1C ls gs tabs m h = Z1C ls gs tabs k h
 | 0, hk, _ => by obtain rfl : k = 0 := (by omega); rfl
 | m + 1, hk, hno => by
  by_cases e : k = m + 1
  ·subst e; rfl
  ·have ih := Z4D ls gs tabs h k m (by omega) (fun j h1 h2 => hno j h1 (by omega))
   rw [Z41]
   dsimp only
   rw [Z4P (hno m (by omega) (by omega))]
   exact ih
def Z0Y (ls : List (Int × Int)) (gs : List PGrp) : Nat -> Int := Z1C ls gs (Z0A ls gs gs.length) gs.length
theorem Zgu {ls : List (Int × Int)} {gs : List PGrp} (hF : Forest ls gs) {g : Nat} (hg : g < gs.length) : Z1C ls gs (Z0A ls gs gs.length) (gs.length - 1 - g) g = Z0Y ls gs g := by
 unfold Z0Y
 refine (Z4D ls gs _ g (gs.length - 1 - g) gs.length (by omega) (fun j h1 h2 hm => ?_)).symm
 have := hF.below (gs.length - 1 - j) (by omega) g hm
 omega
theorem Zc2 {ls : List (Int × Int)} {gs : List PGrp} (hF : Forest ls gs) {g : Nat} (hg : g < gs.length) {i : Nat} (hi : i < (Z04 gs g).length) :
 Z0Y ls gs ((Z04 gs g).getD i 0) = (((Z6B ls gs (Z0A ls gs gs.length) g (Z0Y ls gs g)).2.2.getD i 0 : Nat) : Int) := by
 have e : (Z04 gs g).getD i 0 = (Z04 gs g)[i] := by rw [Z2, Z3 hi]; rfl
 have hm := Z4 hi
 obtain ⟨_, hup⟩ := Z2O.1 hm
 have h1 : Z0Y ls gs (Z04 gs g)[i] = Z1C ls gs (Z0A ls gs gs.length) (gs.length - 1 - g + 1) (Z04 gs g)[i] := by
  unfold Z0Y
  refine Z4D ls gs _ _ (gs.length - 1 - g + 1) gs.length (by omega) (fun j h1 h2 hm2 => ?_)
  obtain ⟨_, hup2⟩ := Z2O.1 hm2
  rw [hup] at hup2
  omega
 rw [e, h1, Z41]
 dsimp only
 rw [show gs.length - 1 - (gs.length - 1 - g) = g by omega, Z3K (Z1N gs g) hi, Zgu hF hg]
theorem Zc1 (ls : List (Int × Int)) (gs : List PGrp) {g : Nat} (h : ∀ p, p < gs.length -> g ∉ Z04 gs p) : Z0Y ls gs g = 0 := by
 unfold Z0Y
 rw [Z4D ls gs _ g 0 gs.length (ZE _) (fun j h1 h2 => h _ (by omega))]
 rfl
end Go.Proofs.YtlgajongmkhcnaaGreatDoor
namespace Go.Proofs.YtlgajongmkhcnaaGreatDoor
set_option linter.unusedVariables false
def pN (ls : List (Int × Int)) (gs : List PGrp) (g : Nat) : Nat := (Z0Y ls gs g).toNat
def qN (ls : List (Int × Int)) (gs : List PGrp) (g : Nat) : Nat := if (Z0c gs g).lvl = 0 then (Z0c gs g).items.length else ((Z04 gs g).map (pN ls gs)).sum
def sN (ls : List (Int × Int)) (gs : List PGrp) (g : Nat) : Int := if (Z0c gs g).lvl = 0 then 0 else ((Z04 gs g).map (fun h => ent (Z0W ls gs h) (pN ls gs h))).sum
structure PassOk (ls : List (Int × Int)) (gs : List PGrp) (g : Nat) : Prop where
 nn : 0 <= Z0Y ls gs g
 poss : ent (Z0W ls gs g) (pN ls gs g) ≠ -1
structure PassEq (ls : List (Int × Int)) (gs : List PGrp) (g : Nat) : Prop where
 le : pN ls gs g <= qN ls gs g
 enough : qN ls gs g - pN ls gs g = 0 \/ (Z2C ls gs g).1 <= ((qN ls gs g - pN ls gs g : Nat) : Int)
 val : ent (Z0W ls gs g) (pN ls gs g) = sN ls gs g + ((qN ls gs g - pN ls gs g : Nat) : Int) * (Z2C ls gs g).2
theorem Z6p {mn cents : Int} {P c : Nat} (h : Z0h mn cents (P : Nat) (c : Nat) ≠ -1) : P <= c /\ (c - P = 0 \/ mn <= ((c - P : Nat) : Int)) /\ Z0h mn cents (P : Nat) (c : Nat) = ((c - P : Nat) : Int) * cents := by
 unfold Z0h at h ⊢
 split at h
 ·exact absurd rfl h
 ·rename_i hn
  rw [if_neg hn]
  refine ⟨by omega, by omega, ?_⟩
  congr 1; omega
theorem Zad (n k : Nat) : ent (List.replicate n (-1) ++ [0]) k ≠ -1 -> k = n /\ ent (List.replicate n (-1) ++ [0]) k = 0 := by
 intro h
 unfold ent at h ⊢
 rw [Z2] at h ⊢
 by_cases h1 : k < n
 ·rw [List.getElem?_append_left (by simpa using h1), List.getElem?_replicate, if_pos h1] at h
  exact absurd rfl h
 ·by_cases h2 : k = n
  ·subst h2
   rw [List.getElem?_append_right (by simp)]
   simp
  ·rw [List.getElem?_eq_none (by simp; omega)] at h
   exact absurd rfl h
theorem Z28 {ls : List (Int × Int)} {gs : List PGrp} (hF : Forest ls gs) {g : Nat} (hg : g < gs.length) (hp : PassOk ls gs g) :
 PassEq ls gs g /\ (0 < (Z0c gs g).lvl -> ∀ h ∈ Z04 gs g, PassOk ls gs h) := by
 obtain ⟨l0, l1⟩ := hF.lvl g hg
 have hc0 := Z3I hF hg
 have hco := Zbp hF hg (Z4n hF hg)
 have hlt := Z4T hp.poss
 have htab := Z4m hF hg
 have hposs := hp.poss
 rw [htab] at hlt hposs
 rw [Z6h] at hlt
 have hent := Z79 (Z17 ls gs g) (decide ((Z0c gs g).lvl = (ls.length : Int) - 1)) (Z2C ls gs g).1 (Z2C ls gs g).2 hlt
 rw [hent] at hposs
 obtain ⟨j, hj, a1, a2, a3⟩ := (Z7d (Z17 ls gs g) (Z2C ls gs g).1 (Z2C ls gs g).2 (pN ls gs g) hco.1 hc0 _).resolve_left hposs
 have hval : ent (Z0W ls gs g) (pN ls gs g) = ent (Z17 ls gs g) (pN ls gs g + j) + Z0h (Z2C ls gs g).1 (Z2C ls gs g).2 (pN ls gs g : Nat) (pN ls gs g + j : Nat) := by rw [htab, hent, a3]
 by_cases h0 : (Z0c gs g).lvl = 0
 ·have hce : Z17 ls gs g = List.replicate (Z0c gs g).items.length (-1) ++ [0] := by unfold Z17 Z1W; rw [if_pos h0]
  rw [hce] at a2 hval
  obtain ⟨e1, e2⟩ := Zad _ _ a2
  have hq : qN ls gs g = pN ls gs g + j := by unfold qN; rw [if_pos h0]; exact e1.symm
  obtain ⟨b1, b2, b3⟩ := Z6p a1
  refine ⟨⟨by omega, by rw [hq]; exact b2, ?_⟩, fun h => by omega⟩
  rw [hval, e2, b3, hq]
  unfold sN
  rw [if_pos h0]
 ·have hpos : 0 < (Z0c gs g).lvl := by omega
  obtain ⟨hperm, hne⟩ := hF.parts g hg hpos
  have hl : (Z0b ls gs g).length = (Z04 gs g).length := by unfold Z0b; rw [Z7]
  have hce : Z17 ls gs g = Z07 (Z0b ls gs g) (Z0b ls gs g).length := by
   unfold Z17 Z1W
   rw [if_neg h0, if_neg (by rw [hl]; exact fun h => hne (List.length_eq_zero_iff.1 h))]
  have hPc : Z0Y ls gs g = (pN ls gs g : Nat) := by unfold pN; have := hp.nn; omega
  have hdiv := Zfm (mn := (Z2C ls gs g).1) (cents := (Z2C ls gs g).2) (P := Z0Y ls gs g) (most := ent (Z0W ls gs g) (pN ls gs g)) (Z4n hF hg)
   ⟨pN ls gs g + j, by rw [<- hce]; exact a2, by rw [hPc]; exact a1, by rw [<- hce, hPc]; exact hval.symm⟩ (Z0b ls gs g).length (Z1 _)
  have hout : Z1g (Z2C ls gs g).1 (Z2C ls gs g).2 (Z0Y ls gs g) (ent (Z0W ls gs g) (pN ls gs g)) (Z0b ls gs g) (Z0b ls gs g).length = Z6B ls gs (Z0A ls gs gs.length) g (Z0Y ls gs g) := by
   unfold Z6B
   rw [hl]
   rfl
  rw [hout] at hdiv
  obtain ⟨d1, d2, d3, d4, r, d5, d6, d7⟩ := hdiv
  have hr0 : r = 0 := by
   rw [Nat.sub_self] at d5
   have := Z4T d5
   simpa [Z07] using this
  subst hr0
  rw [Nat.sub_self] at d5 d7
  have hz : ent (Z07 (Z0b ls gs g) 0) 0 = 0 := rfl
  rw [hz] at d7
  rw [Nat.add_zero] at d6 d7
  rw [hl] at d1 d3 d4
  have hpn : ∀ i, i < (Z04 gs g).length -> pN ls gs ((Z04 gs g).getD i 0) = (Z6B ls gs (Z0A ls gs gs.length) g (Z0Y ls gs g)).2.2.getD i 0 := fun i hi => by
   unfold pN; rw [Zc2 hF hg hi]; rfl
  have htabs : ∀ i, i < (Z04 gs g).length -> Z0C (Z0b ls gs g) i = Z0W ls gs ((Z04 gs g).getD i 0) := fun i hi => by
   unfold Z0C Z0b
   rw [Z2, List.getElem?_map, Z2, Z3 hi]; rfl
  have hcome : (Z6B ls gs (Z0A ls gs gs.length) g (Z0Y ls gs g)).1 = qN ls gs g := by
   rw [d2]
   unfold qN
   rw [if_neg h0, <- Z13 (Z04 gs g) (pN ls gs)]
   have e : (Z6B ls gs (Z0A ls gs gs.length) g (Z0Y ls gs g)).2.2 = (List.range (Z04 gs g).length).map (fun i => (Z6B ls gs (Z0A ls gs gs.length) g (Z0Y ls gs g)).2.2.getD i 0) := by
    rw [<- d1]
    have := Z13 (Z6B ls gs (Z0A ls gs gs.length) g (Z0Y ls gs g)).2.2 (fun x => x)
    rw [this]; simp
   rw [e]
   congr 1
   exact (List.map_congr_left (fun i hi => hpn i (List.mem_range.1 hi))).symm
  have hsave : (Z6B ls gs (Z0A ls gs gs.length) g (Z0Y ls gs g)).2.1 = sN ls gs g := by
   rw [d4]
   unfold sN
   rw [if_neg h0, <- Z13 (Z04 gs g) (fun h => ent (Z0W ls gs h) (pN ls gs h))]
   congr 1
   refine List.map_congr_left (fun i hi => ?_)
   have hi' := List.mem_range.1 hi
   rw [htabs i hi', hpn i hi']
  rw [hcome] at d6 d7
  rw [hsave] at d7
  rw [hPc] at d6 d7
  obtain ⟨b1, b2, b3⟩ := Z6p d6
  refine ⟨⟨b1, b2, ?_⟩, fun _ h hh => ?_⟩
  ·rw [<- d7, b3]; omega
  ·obtain ⟨i, hi, rfl⟩ := List.mem_iff_getElem.1 hh
   have e : (Z04 gs g).getD i 0 = (Z04 gs g)[i] := by rw [Z2, Z3 hi]; rfl
   refine ⟨?_, ?_⟩
   ·rw [<- e, Zc2 hF hg hi]; omega
   ·have := d3 i hi
    rw [htabs i hi, <- hpn i hi, e] at this
    exact this
end Go.Proofs.YtlgajongmkhcnaaGreatDoor
namespace Go.Proofs.YtlgajongmkhcnaaGreatDoor
set_option linter.unusedVariables false
theorem Zc3 {ls : List (Int × Int)} {gs : List PGrp} (hF : Forest ls gs) (htop : ∀ g, g < gs.length -> (∀ p, p < gs.length -> g ∉ Z04 gs p) -> ent (Z0W ls gs g) 0 ≠ -1) : ∀ m g, gs.length - g <= m -> g < gs.length -> PassOk ls gs g
 | 0, g, h, hg => by omega
 | m + 1, g, h, hg => by
  by_cases hex : ∃ p, p < gs.length /\ g ∈ Z04 gs p
  ·obtain ⟨p, hp, hgp⟩ := hex
   have hlt := hF.below p hp g hgp
   have ih := Zc3 hF htop m p (by omega) hp
   have hs := hF.sub p hp g hgp
   have h0 := (hF.lvl g hg).1
   exact (Z28 hF hp ih).2 (by omega) g hgp
  ·have hno : ∀ p, p < gs.length -> g ∉ Z04 gs p := fun p hp hm => hex ⟨p, hp, hm⟩
   have e := Zc1 ls gs hno
   refine ⟨by rw [e]; exact Int.le_refl _, ?_⟩
   unfold pN
   rw [e]
   exact htop g hg hno
theorem Z6U (x : Int) : ∀ l : List Int, (Zhv x l).Perm (x :: l)
 | [] => List.Perm.refl _
 | y :: r => by
  unfold Zhv
  split
  ·exact List.Perm.refl _
  ·exact ((Z6U x r).cons y).trans (List.Perm.swap x y r)
theorem Z0I : ∀ l : List Int, (Z1i l).Perm l
 | [] => List.Perm.refl _
 | x :: l => by
  show (Zhv x (Z1i l)).Perm (x :: l)
  exact (Z6U x _).trans ((Z0I l).cons x)
theorem Z1p (gs : List PGrp) (f : Nat -> Int) (k : Nat) (p : List Int) : Z0H gs f (k + 1) p =
 (((Z1i ((if (Z0c gs k).lvl = 0 then (Z0c gs k).items else []) ++ (Z04 gs k).flatMap (fun h => (Z0H gs f k p).2.getD h []))).take ((Z1i ((if (Z0c gs k).lvl = 0 then (Z0c gs k).items else []) ++ (Z04 gs k).flatMap (fun h => (Z0H gs f k p).2.getD h []))).length - (f k).toNat)).foldl (fun q i => q.set i.toNat (Z0c gs k).lvl) (Z0H gs f k p).1,
  (Z0H gs f k p).2 ++ [(Z1i ((if (Z0c gs k).lvl = 0 then (Z0c gs k).items else []) ++ (Z04 gs k).flatMap (fun h => (Z0H gs f k p).2.getD h []))).drop ((Z1i ((if (Z0c gs k).lvl = 0 then (Z0c gs k).items else []) ++ (Z04 gs k).flatMap (fun h => (Z0H gs f k p).2.getD h []))).length - (f k).toNat)]) := rfl
theorem Z5X (gs : List PGrp) (f : Nat -> Int) (p : List Int) : ∀ k, (Z0H gs f k p).2.length = k
 | 0 => rfl
 | k + 1 => by rw [Z1p]; simp [Z5X gs f p k]
def Z0l (gs : List PGrp) (f : Nat -> Int) (g : Nat) : List Int := (Z0H gs f (g + 1) []).2.getD g []
theorem Z4C (gs : List PGrp) (f : Nat -> Int) (p p' : List Int) : ∀ k, (Z0H gs f k p).2 = (Z0H gs f k p').2
 | 0 => rfl
 | k + 1 => by rw [Z1p, Z1p, Z4C gs f p p' k]
theorem Z7W (gs : List PGrp) (f : Nat -> Int) (p : List Int) : ∀ k g, g < k -> (Z0H gs f k p).2.getD g [] = Z0l gs f g
 | 0, g, h => absurd h (Nat.not_lt_zero _)
 | k + 1, g, h => by
  have hl := Z5X gs f p k
  by_cases e : g = k
  ·subst e
   unfold Z0l
   rw [Z4C gs f p [] (g + 1)]
  ·rw [<- Z7W gs f p k g (by omega), Z1p]
   simp only [Z2]
   rw [List.getElem?_append_left (by omega)]
def Z1m (gs : List PGrp) (f : Nat -> Int) (g : Nat) : List Int := Z1i ((if (Z0c gs g).lvl = 0 then (Z0c gs g).items else []) ++ (Z04 gs g).flatMap (Z0l gs f))
def Z3h (gs : List PGrp) (f : Nat -> Int) (g : Nat) : List Int := (Z1m gs f g).take ((Z1m gs f g).length - (f g).toNat)
theorem Zft {ls : List (Int × Int)} {gs : List PGrp} (hF : Forest ls gs) (f : Nat -> Int) (p : List Int) {g : Nat} (hg : g < gs.length) :
 Z1i ((if (Z0c gs g).lvl = 0 then (Z0c gs g).items else []) ++ (Z04 gs g).flatMap (fun h => (Z0H gs f g p).2.getD h [])) = Z1m gs f g := by
 unfold Z1m
 congr 2
 have : ∀ l : List Nat, (∀ h ∈ l, h < g) -> l.flatMap (fun h => (Z0H gs f g p).2.getD h []) = l.flatMap (Z0l gs f) := fun l => by
  induction l with
  | nil => intro _; rfl
  | cons x r ih =>
   intro hl
   rw [List.flatMap_cons, List.flatMap_cons, ih (fun h hh => hl h (List.mem_cons_of_mem _ hh)), Z7W gs f p g x (hl x List.mem_cons_self)]
 exact this _ (fun h hh => hF.below g hg h hh)
theorem Z3p {ls : List (Int × Int)} {gs : List PGrp} (hF : Forest ls gs) (f : Nat -> Int) {g : Nat} (hg : g < gs.length) : Z0l gs f g = (Z1m gs f g).drop ((Z1m gs f g).length - (f g).toNat) := by
 unfold Z0l
 rw [Z1p, Zft hF f [] hg]
 simp only [Z2]
 rw [List.getElem?_append_right (by rw [Z5X]; exact Z1 _), Z5X, Nat.sub_self]
 rfl
theorem Z9A {ls : List (Int × Int)} {gs : List PGrp} (hF : Forest ls gs) (f : Nat -> Int) (p : List Int) {g : Nat} (hg : g < gs.length) : (Z0H gs f (g + 1) p).1 = (Z3h gs f g).foldl (fun q i => q.set i.toNat (Z0c gs g).lvl) (Z0H gs f g p).1 := by
 rw [Z1p, Zft hF f p hg]; rfl
theorem Z2I (gs : List PGrp) {ls : List (Int × Int)} (hF : Forest ls gs) (f : Nat -> Int) {g : Nat} (hg : g < gs.length) : Z3h gs f g ++ Z0l gs f g = Z1m gs f g := by
 rw [Z3p hF f hg]
 exact List.take_append_drop _ _
theorem Zcq {ls : List (Int × Int)} {gs : List PGrp} (hF : Forest ls gs) (hp : ∀ g, g < gs.length -> PassOk ls gs g) : ∀ g, g < gs.length -> (Z1m gs (Z0Y ls gs) g).length = qN ls gs g /\ (Z0l gs (Z0Y ls gs) g).length = pN ls gs g := by
 intro g
 induction g using Nat.strongRecOn with
 | ind g ih =>
  intro hg
  have hle := (Z28 hF hg (hp g hg)).1.le
  have h1 : (Z1m gs (Z0Y ls gs) g).length = qN ls gs g := by
   unfold Z1m
   rw [(Z0I _).length_eq]
   by_cases h0 : (Z0c gs g).lvl = 0
   ·rw [if_pos h0]
    unfold qN
    rw [if_pos h0]
    have hnil : Z04 gs g = [] := by
     rw [List.eq_nil_iff_forall_not_mem]
     intro h hh
     have := hF.sub g hg h hh
     have h2 := (hF.lvl h (by have := hF.below g hg h hh; omega)).1
     omega
    rw [hnil]; simp
   ·rw [if_neg h0]
    unfold qN
    rw [if_neg h0, List.nil_append, List.length_flatMap]
    congr 1
    refine List.map_congr_left (fun h hh => ?_)
    have hb := hF.below g hg h hh
    exact (ih h hb (by omega)).2
  refine ⟨h1, ?_⟩
  rw [Z3p hF _ hg, List.length_drop, h1]
  show qN ls gs g - (qN ls gs g - pN ls gs g) = _
  omega
end Go.Proofs.YtlgajongmkhcnaaGreatDoor
namespace Go.Proofs.YtlgajongmkhcnaaGreatDoor
set_option linter.unusedVariables false
structure Forest2 (ls : List (Int × Int)) (gs : List PGrp) (n : Nat) : Prop extends Forest ls gs where
 nodup : ∀ g, g < gs.length -> (Z0c gs g).items.Nodup
 alone : ∀ g, g < gs.length -> ∀ g', g' < gs.length -> (Z0c gs g).lvl = (Z0c gs g').lvl -> ∀ i, i ∈ (Z0c gs g).items -> i ∈ (Z0c gs g').items -> g = g'
 range : ∀ g, g < gs.length -> ∀ i ∈ (Z0c gs g).items, 0 <= i /\ i < (n : Int)
variable {ls : List (Int × Int)} {gs : List PGrp} {n : Nat} {f : Nat -> Int}
theorem Z2M (hF : Forest2 ls gs n) {g : Nat} (hg : g < gs.length) {i : Int} (h : i ∈ Z0l gs f g) : i ∈ Z1m gs f g := by
 rw [<- Z2I gs hF.toForest f hg]; exact List.mem_append_right _ h
theorem Z3D (hF : Forest2 ls gs n) {g : Nat} (hg : g < gs.length) {i : Int} (h : i ∈ Z3h gs f g) : i ∈ Z1m gs f g := by
 rw [<- Z2I gs hF.toForest f hg]; exact List.mem_append_left _ h
theorem Zah {g : Nat} {i : Int} (h : i ∈ Z1m gs f g) : ((Z0c gs g).lvl = 0 /\ i ∈ (Z0c gs g).items) \/ ∃ h ∈ Z04 gs g, i ∈ Z0l gs f h := by
 unfold Z1m at h
 rw [(Z0I _).mem_iff, ZG] at h
 rcases h with h | h
 ·by_cases h0 : (Z0c gs g).lvl = 0
  ·rw [if_pos h0] at h; exact .inl ⟨h0, h⟩
  ·rw [if_neg h0] at h; cases h
 ·obtain ⟨x, hx, hi⟩ := List.mem_flatMap.1 h
  exact .inr ⟨x, hx, hi⟩
theorem Z1F (hF : Forest2 ls gs n) : ∀ g, g < gs.length -> ∀ i ∈ Z1m gs f g, i ∈ (Z0c gs g).items := by
 intro g
 induction g using Nat.strongRecOn with
 | ind g ih =>
  intro hg i hi
  rcases Zah hi with ⟨_, h⟩ | ⟨h, hh, hp⟩
  ·exact h
  ·have hb := hF.below g hg h hh
   have hs := hF.sub g hg h hh
   have hl := (hF.lvl h (by omega)).1
   have := ih h hb (by omega) i (Z2M hF (by omega) hp)
   exact (hF.parts g hg (by omega)).1.mem_iff.1 (List.mem_flatMap.2 ⟨h, hh, this⟩)
theorem Z35 {l : List Nat} {F : Nat -> List Int} (hl : l.Nodup) (h1 : ∀ h ∈ l, (F h).Nodup) (h2 : ∀ h ∈ l, ∀ h' ∈ l, ∀ i, i ∈ F h -> i ∈ F h' -> h = h') : (l.flatMap F).Nodup := by
 induction l with
 | nil => simp
 | cons x r ih =>
  rw [List.nodup_cons] at hl
  rw [List.flatMap_cons, List.nodup_append]
  refine ⟨h1 x List.mem_cons_self, ih hl.2 (fun h hh => h1 h (List.mem_cons_of_mem _ hh)) (fun h hh h' hh' => h2 h (List.mem_cons_of_mem _ hh) h' (List.mem_cons_of_mem _ hh')), fun a ha b hb e => ?_⟩
  subst e
  obtain ⟨y, hy, hy'⟩ := List.mem_flatMap.1 hb
  have := h2 x List.mem_cons_self y (List.mem_cons_of_mem _ hy) a ha hy'
  subst this
  exact hl.1 hy
theorem Z8l (hF : Forest2 ls gs n) : ∀ g, g < gs.length -> (Z1m gs f g).Nodup := by
 intro g
 induction g using Nat.strongRecOn with
 | ind g ih =>
  intro hg
  unfold Z1m
  rw [(Z0I _).nodup_iff]
  by_cases h0 : (Z0c gs g).lvl = 0
  ·rw [if_pos h0]
   have hnil : Z04 gs g = [] := by
    rw [List.eq_nil_iff_forall_not_mem]
    intro h hh
    have := hF.sub g hg h hh
    have h2 := (hF.lvl h (by have := hF.below g hg h hh; omega)).1
    omega
   rw [hnil]
   simpa using hF.nodup g hg
  ·rw [if_neg h0, List.nil_append]
   refine Z35 (Z1N gs g) (fun h hh => ?_) (fun h hh h' hh' i hi hi' => ?_)
   ·have hb := hF.below g hg h hh
    rw [Z3p hF.toForest f (by omega)]
    exact (ih h hb (by omega)).sublist (List.drop_sublist _ _)
   ·have hb := hF.below g hg h hh
    have hb' := hF.below g hg h' hh'
    have hs := hF.sub g hg h hh
    have hs' := hF.sub g hg h' hh'
    exact hF.alone h (by omega) h' (by omega) (by omega) i (Z1F hF h (by omega) i (Z2M hF (by omega) hi)) (Z1F hF h' (by omega) i (Z2M hF (by omega) hi'))
theorem Z2d (hF : Forest2 ls gs n) {g : Nat} (hg : g < gs.length) {i : Int} (h1 : i ∈ Z3h gs f g) (h2 : i ∈ Z0l gs f g) : False := by
 have := Z8l (f := f) hF g hg
 rw [<- Z2I gs hF.toForest f hg, List.nodup_append] at this
 exact this.2.2 i h1 i h2 rfl
theorem ZfB (hF : Forest2 ls gs n) : ∀ g', g' < gs.length -> ∀ i ∈ Z1m gs f g', ∀ g, g < gs.length -> (Z0c gs g).lvl < (Z0c gs g').lvl -> i ∈ (Z0c gs g).items -> i ∈ Z0l gs f g := by
 intro g'
 induction g' using Nat.strongRecOn with
 | ind g' ih =>
  intro hg' i hi g hg hlt hig
  rcases Zah hi with ⟨h0, _⟩ | ⟨h, hh, hp⟩
  ·have := (hF.lvl g hg).1
   omega
  ·have hb := hF.below g' hg' h hh
   have hs := hF.sub g' hg' h hh
   have hc := Z2M (f := f) hF (by omega) hp
   by_cases e : (Z0c gs g).lvl = (Z0c gs h).lvl
   ·have := hF.alone g hg h (by omega) e i hig (Z1F hF h (by omega) i hc)
    subst this
    exact hp
   ·exact ih h hb (by omega) i hc g hg (by omega) hig
theorem Z7F (hF : Forest2 ls gs n) {g g' : Nat} (hg : g < gs.length) (hg' : g' < gs.length) {i : Int} (h1 : i ∈ Z3h gs f g) (h2 : i ∈ Z3h gs f g') : g = g' := by
 have c1 := Z3D hF hg h1
 have c2 := Z3D hF hg' h2
 have m1 := Z1F hF g hg i c1
 have m2 := Z1F hF g' hg' i c2
 rcases Int.lt_trichotomy (Z0c gs g).lvl (Z0c gs g').lvl with h | h | h
 ·exact (Z2d hF hg h1 (ZfB hF g' hg' i c2 g hg h m1)).elim
 ·exact hF.alone g hg g' hg' h i m1 m2
 ·exact (Z2d hF hg' h2 (ZfB hF g hg i c1 g' hg' h m2)).elim
theorem Zck (x : Int) : ∀ (l : List Int) (q : List Int), (∀ i ∈ l, 0 <= i) -> (l.foldl (fun q i => q.set i.toNat x) q).length = q.length /\ ∀ i : Int, 0 <= i -> i.toNat < q.length -> (l.foldl (fun q i => q.set i.toNat x) q).getD i.toNat 0 = if i ∈ l then x else q.getD i.toNat 0
 | [], q, _ => ⟨rfl, fun i _ _ => by simp⟩
 | y :: l, q, h => by
  obtain ⟨a, b⟩ := Zck x l (q.set y.toNat x) (fun i hi => h i (List.mem_cons_of_mem _ hi))
  rw [List.length_set] at a b
  refine ⟨a, fun i hi hl => ?_⟩
  rw [List.foldl_cons, b i hi hl]
  have hy := h y List.mem_cons_self
  by_cases h1 : i ∈ l
  ·rw [if_pos h1, if_pos (List.mem_cons_of_mem _ h1)]
  ·rw [if_neg h1]
   by_cases h2 : i = y
   ·subst h2
    rw [if_pos List.mem_cons_self, Z2, List.getElem?_set_self hl]
    rfl
   ·rw [if_neg (fun hm => by rcases List.mem_cons.1 hm with e | e; exact h2 e; exact h1 e)]
    rw [Z2, List.getElem?_set_ne (by omega), <- Z2]
theorem Zen (hF : Forest2 ls gs n) (p : List Int) (hpl : p.length = n) : ∀ k, k <= gs.length -> (Z0H gs f k p).1.length = n /\ ∀ i : Int, 0 <= i -> i < (n : Int) ->
 ((∀ g, g < k -> i ∉ Z3h gs f g) -> (Z0H gs f k p).1.getD i.toNat 0 = p.getD i.toNat 0) /\ ∀ g, g < k -> i ∈ Z3h gs f g -> (Z0H gs f k p).1.getD i.toNat 0 = (Z0c gs g).lvl
 | 0, _ => ⟨hpl, fun i _ _ => ⟨fun _ => rfl, fun g h => absurd h (Nat.not_lt_zero _)⟩⟩
 | k + 1, hk => by
  obtain ⟨a, b⟩ := Zen hF p hpl k (by omega)
  have hnn : ∀ i ∈ Z3h gs f k, 0 <= i := fun i hi => (hF.range k (by omega) i (Z1F hF k (by omega) i (Z3D hF (by omega) hi))).1
  obtain ⟨c, d⟩ := Zck (Z0c gs k).lvl (Z3h gs f k) (Z0H gs f k p).1 hnn
  rw [Z9A hF.toForest f p (by omega)]
  refine ⟨by rw [c, a], fun i h0 h1 => ?_⟩
  have hd := d i h0 (by rw [a]; omega)
  obtain ⟨b1, b2⟩ := b i h0 h1
  refine ⟨fun hno => ?_, fun g hg hi => ?_⟩
  ·rw [hd, if_neg (hno k (by omega))]
   exact b1 (fun g hg => hno g (by omega))
  ·by_cases e : g = k
   ·subst e; rw [hd, if_pos hi]
   ·rw [hd, if_neg (fun hk' => e (Z7F hF (by omega) (by omega) hi hk'))]
    exact b2 g (by omega) hi
end Go.Proofs.YtlgajongmkhcnaaGreatDoor
namespace Go.Proofs.YtlgajongmkhcnaaGreatDoor
set_option linter.unusedVariables false
variable {ls : List (Int × Int)} {gs : List PGrp} {n : Nat}
def Z2z (ls : List (Int × Int)) (gs : List PGrp) (n : Nat) (i : Int) : Int := (Zgn ls gs n).getD i.toNat 0
theorem Z8B (ls : List (Int × Int)) (gs : List PGrp) (n : Nat) : Zgn ls gs n = (Z0H gs (Z0Y ls gs) gs.length (List.replicate n 0)).1 := rfl
theorem Z6x (hF : Forest2 ls gs n) {g : Nat} (hg : g < gs.length) {i : Int} (h : i ∈ Z3h gs (Z0Y ls gs) g) : Z2z ls gs n i = (Z0c gs g).lvl := by
 have hr := hF.range g hg i (Z1F hF g hg i (Z3D hF hg h))
 unfold Z2z
 rw [Z8B]
 exact ((Zen hF (List.replicate n 0) (by simp) gs.length (Z1 _)).2 i hr.1 hr.2).2 g hg h
theorem Z8k (hF : Forest2 ls gs n) {f : Nat -> Int} {g : Nat} (hg : g < gs.length) {i : Int} (h : i ∈ Z1m gs f g) : i ∈ Z3h gs f g \/ i ∈ Z0l gs f g := by
 rw [<- Z2I gs hF.toForest f hg] at h
 exact ZG.1 h
theorem ZiN (hF : Forest2 ls gs n) {f : Nat -> Int} : ∀ g, g < gs.length -> ∀ i ∈ (Z0c gs g).items, (∃ g', g' < gs.length /\ (Z0c gs g').lvl <= (Z0c gs g).lvl /\ i ∈ Z3h gs f g') \/ i ∈ Z0l gs f g := by
 intro g
 induction g using Nat.strongRecOn with
 | ind g ih =>
  intro hg i hi
  have hcome : i ∈ Z1m gs f g -> (∃ g', g' < gs.length /\ (Z0c gs g').lvl <= (Z0c gs g).lvl /\ i ∈ Z3h gs f g') \/ i ∈ Z0l gs f g := fun hc => by
   rcases Z8k hF hg hc with h | h
   ·exact .inl ⟨g, hg, Int.le_refl _, h⟩
   ·exact .inr h
  by_cases h0 : (Z0c gs g).lvl = 0
  ·refine hcome ?_
   unfold Z1m
   rw [(Z0I _).mem_iff, ZG, if_pos h0]
   exact .inl hi
  ·have hpos : 0 < (Z0c gs g).lvl := by have := (hF.lvl g hg).1; omega
   obtain ⟨h, hh, hih⟩ := List.mem_flatMap.1 ((hF.parts g hg hpos).1.mem_iff.2 hi)
   have hb := hF.below g hg h hh
   have hs := hF.sub g hg h hh
   rcases ih h hb (by omega) i hih with ⟨g', h1, h2, h3⟩ | hp
   ·exact .inl ⟨g', h1, by omega, h3⟩
   ·refine hcome ?_
    unfold Z1m
    rw [(Z0I _).mem_iff, ZG]
    exact .inr (List.mem_flatMap.2 ⟨h, hh, hp⟩)
theorem Z3o (hF : Forest2 ls gs n) : ∀ m g, gs.length - g <= m -> g < gs.length -> ∀ i ∈ Z0l gs (Z0Y ls gs) g, ∃ g', g' < gs.length /\ (Z0c gs g).lvl < (Z0c gs g').lvl /\ i ∈ Z3h gs (Z0Y ls gs) g'
 | 0, g, h, hg, i, hi => by omega
 | m + 1, g, h, hg, i, hi => by
  by_cases hex : ∃ p, p < gs.length /\ g ∈ Z04 gs p
  ·obtain ⟨p, hp, hgp⟩ := hex
   have hlt := hF.below p hp g hgp
   have hs := hF.sub p hp g hgp
   have hc : i ∈ Z1m gs (Z0Y ls gs) p := by
    unfold Z1m
    rw [(Z0I _).mem_iff, ZG]
    exact .inr (List.mem_flatMap.2 ⟨g, hgp, hi⟩)
   rcases Z8k hF hp hc with h1 | h1
   ·exact ⟨p, hp, by omega, h1⟩
   ·obtain ⟨g', a, b, c⟩ := Z3o hF m p (by omega) hp i h1
    exact ⟨g', a, by omega, c⟩
  ·have e := Zc1 ls gs (fun p hp hm => hex ⟨p, hp, hm⟩)
   rw [Z3p hF.toForest _ hg, e] at hi
   simp at hi
theorem Z6y (hF : Forest2 ls gs n) {g : Nat} (hg : g < gs.length) {i : Int} (hi : i ∈ (Z0c gs g).items) :
 (Z2z ls gs n i = (Z0c gs g).lvl ↔ i ∈ Z3h gs (Z0Y ls gs) g) /\ ((Z0c gs g).lvl < Z2z ls gs n i ↔ i ∈ Z0l gs (Z0Y ls gs) g) /\ 0 <= Z2z ls gs n i /\ Z2z ls gs n i < (ls.length : Int) := by
 rcases ZiN (f := Z0Y ls gs) hF g hg i hi with ⟨g', h1, h2, h3⟩ | hp
 ·have e := Z6x hF h1 h3
  have hl := hF.lvl g' h1
  have hnp : i ∉ Z0l gs (Z0Y ls gs) g := fun hp => by
   obtain ⟨g'', a, b, c⟩ := Z3o hF gs.length g (by omega) hg i hp
   have := Z7F hF h1 a h3 c
   subst this
   omega
  refine ⟨⟨fun h => ?_, fun h => Z6x hF hg h⟩, ⟨fun h => by omega, fun h => absurd h hnp⟩, by omega, by omega⟩
  have hm := Z1F hF g' h1 i (Z3D hF h1 h3)
  have := hF.alone g' h1 g hg (by omega) i hm hi
  subst this
  exact h3
 ·obtain ⟨g'', a, b, c⟩ := Z3o hF gs.length g (by omega) hg i hp
  have e := Z6x hF a c
  have hl := hF.lvl g'' a
  have hl0 := hF.lvl g hg
  refine ⟨⟨fun h => by omega, fun h => (Z2d hF hg h hp).elim⟩, ⟨fun _ => hp, fun _ => by omega⟩, by omega, by omega⟩
theorem Zag {l t : List Int} (hl : l.Nodup) (ht : t.Nodup) (hs : ∀ i ∈ t, i ∈ l) (p : Int -> Bool) (hp : ∀ i ∈ l, p i = true ↔ i ∈ t) : l.countP p = t.length := by
 rw [List.countP_eq_length_filter]
 refine List.Perm.length_eq ?_
 rw [List.perm_ext_iff_of_nodup (hl.filter _) ht]
 intro i
 rw [List.mem_filter]
 exact ⟨fun h => (hp i h.1).1 h.2, fun h => ⟨hs i h, (hp i (hs i h)).2 h⟩⟩
theorem Z40 (hF : Forest2 ls gs n) (hp : ∀ g, g < gs.length -> PassOk ls gs g) {g : Nat} (hg : g < gs.length) :
 takeN (Z2z ls gs n) (Z0c gs g) = qN ls gs g - pN ls gs g /\ Z2A (Z2z ls gs n) (Z0c gs g) = pN ls gs g := by
 obtain ⟨c1, c2⟩ := Zcq hF.toForest hp g hg
 have hle := (Z28 hF.toForest hg (hp g hg)).1.le
 have hnd := Z8l (f := Z0Y ls gs) hF g hg
 have hsplit := Z2I gs hF.toForest (Z0Y ls gs) hg
 have hlen : (Z3h gs (Z0Y ls gs) g).length = qN ls gs g - pN ls gs g := by
  have := congrArg List.length hsplit
  rw [ZC, c1, c2] at this
  omega
 rw [<- hsplit, List.nodup_append] at hnd
 constructor
 ·rw [<- hlen]
  exact Zag (hF.nodup g hg) hnd.1 (fun i hi => Z1F hF g hg i (Z3D hF hg hi)) _ (fun i hi => by rw [decide_eq_true_eq]; exact (Z6y hF hg hi).1)
 ·rw [<- c2]
  exact Zag (hF.nodup g hg) hnd.2.1 (fun i hi => Z1F hF g hg i (Z2M hF hg hi)) _ (fun i hi => by rw [decide_eq_true_eq]; exact (Z6y hF hg hi).2.1)
theorem ZhU (hF : Forest2 ls gs n) (hp : ∀ g, g < gs.length -> PassOk ls gs g) : PlanOk ls gs (Z2z ls gs n) :=
 ⟨fun g hg i hi => ⟨(Z6y hF hg hi).2.2.1, (Z6y hF hg hi).2.2.2⟩, fun g hg => by
  have h := (Z28 hF.toForest hg (hp g hg)).1.enough
  have := (Z40 hF hp hg).1
  rw [<- this] at h
  exact h⟩
theorem ZcY (hF : Forest2 ls gs n) (hp : ∀ g, g < gs.length -> PassOk ls gs g) : ∀ g, g < gs.length -> Z2l ls (Z2z ls gs n) (Z0c gs g) = ent (Z0W ls gs g) (pN ls gs g) := by
 intro g
 induction g using Nat.strongRecOn with
 | ind g ih =>
  intro hg
  have hv := (Z28 hF.toForest hg (hp g hg)).1.val
  have hsplit : Z2l ls (Z2z ls gs n) (Z0c gs g) = ((Z0c gs g).items.map (fun i => if Z2z ls gs n i <= (Z0c gs g).lvl - 1 then Z2D ls (Z2z ls gs n i) else 0)).sum + (takeN (Z2z ls gs n) (Z0c gs g) : Int) * (Z2C ls gs g).2 := by
   unfold Z2l takeN; rw [ZeS]; exact Z7K ls _ _ _
  rw [hv, hsplit, (Z40 hF hp hg).1]
  congr 1
  unfold sN
  by_cases h0 : (Z0c gs g).lvl = 0
  ·rw [if_pos h0]
   have : (Z0c gs g).items.map (fun i => if Z2z ls gs n i <= (Z0c gs g).lvl - 1 then Z2D ls (Z2z ls gs n i) else 0) = (Z0c gs g).items.map (fun _ => (0 : Int)) := List.map_congr_left (fun i hi => by
    have := (Z6y hF hg hi).2.2.1
    rw [if_neg (by omega)])
   rw [this]
   generalize (Z0c gs g).items = l
   induction l with
   | nil => rfl
   | cons x r ih => simpa using ih
  ·rw [if_neg h0]
   have hpos : 0 < (Z0c gs g).lvl := by have := (hF.lvl g hg).1; omega
   rw [<- Z8E ((hF.parts g hg hpos).1.map _), Z49]
   congr 1
   refine List.map_congr_left (fun h hh => ?_)
   have hb := hF.below g hg h hh
   have hs := hF.sub g hg h hh
   rw [<- ih h hb (by omega)]
   unfold Z2l
   rw [show (Z0c gs g).lvl - 1 = (Z0c gs h).lvl by omega]
end Go.Proofs.YtlgajongmkhcnaaGreatDoor
namespace Go.Proofs.YtlgajongmkhcnaaGreatDoor
set_option linter.unusedVariables false
structure Forest3 (ls : List (Int × Int)) (gs : List PGrp) (n : Nat) : Prop extends Forest2 ls gs n where
 tops : ∀ g, g < gs.length -> (∀ p, p < gs.length -> g ∉ Z04 gs p) -> (Z0c gs g).lvl = (ls.length : Int) - 1
 last : ∀ g, g < gs.length -> (Z0c gs g).lvl = (ls.length : Int) - 1 -> (Z2C ls gs g).1 <= 0
 cover : ∀ i : Int, 0 <= i -> i < (n : Int) -> ∃ g, g < gs.length /\ (Z0c gs g).lvl = (ls.length : Int) - 1 /\ i ∈ (Z0c gs g).items
variable {ls : List (Int × Int)} {gs : List PGrp} {n : Nat}
theorem ZeW (hF : Forest3 ls gs n) : PlanOk ls gs (fun _ => (ls.length : Int) - 1) := by
 refine ⟨fun g hg i hi => ?_, fun g hg => ?_⟩
 ·have := hF.lvl g hg
  exact ⟨by omega, by omega⟩
 ·by_cases h : (Z0c gs g).lvl = (ls.length : Int) - 1
  ·right
   have := hF.last g hg h
   omega
  ·left
   unfold takeN
   rw [List.countP_eq_zero]
   intro i _
   simp
   omega
theorem Z6b (hF : Forest3 ls gs n) : ∀ g, g < gs.length -> PassOk ls gs g := fun g hg =>
 Zc3 hF.toForest (fun g hg hno => by
  have hl := hF.tops g hg hno
  have hb := Z7T hF.toForest (ZeW hF) g hg
  have h0 : Z2A (fun _ => (ls.length : Int) - 1) (Z0c gs g) = 0 := by
   unfold Z2A
   rw [List.countP_eq_zero]
   intro i _
   simp
   omega
  rw [h0] at hb
  have := Z3X hF.toForest (fun _ => (ls.length : Int) - 1) (Z0c gs g)
  omega) gs.length g (by omega) hg
theorem Z5Y (hF : Forest3 ls gs n) : PlanOk ls gs (Z2z ls gs n) := ZhU hF.toForest2 (Z6b hF)
theorem Zem (hF : Forest3 ls gs n) {p : Int -> Int} (hp : PlanOk ls gs p) {g : Nat} (hg : g < gs.length) (hl : (Z0c gs g).lvl = (ls.length : Int) - 1) : Z2l ls p (Z0c gs g) <= Z2l ls (Z2z ls gs n) (Z0c gs g) := by
 rw [ZcY hF.toForest2 (Z6b hF) g hg]
 have hb := Z7T hF.toForest hp g hg
 have h0 : Z2A p (Z0c gs g) = 0 := by
  unfold Z2A
  rw [List.countP_eq_zero]
  intro i hi
  have := (hp.num g hg i hi).2
  simp
  omega
 have h1 : pN ls gs g = 0 := by
  rw [<- (Z40 hF.toForest2 (Z6b hF) hg).2]
  unfold Z2A
  rw [List.countP_eq_zero]
  intro i hi
  have := ((Z5Y hF).num g hg i hi).2
  simp
  omega
 rw [h0] at hb
 rw [h1]
 exact hb
def ZfZ (ls : List (Int × Int)) (gs : List PGrp) : List Nat := (List.range gs.length).filter (fun g => decide ((Z0c gs g).lvl = (ls.length : Int) - 1))
theorem ZdK (hF : Forest3 ls gs n) : ((ZfZ ls gs).flatMap (fun g => (Z0c gs g).items)).Perm ((List.range n).map Int.ofNat) := by
 have hnd : ((ZfZ ls gs).flatMap (fun g => (Z0c gs g).items)).Nodup := by
  refine Z35 (List.Nodup.sublist List.filter_sublist List.nodup_range) (fun g hg => ?_) (fun g hg g' hg' i hi hi' => ?_)
  ·exact hF.nodup g (List.mem_range.1 (List.mem_filter.1 hg).1)
  ·have a := List.mem_filter.1 hg
   have b := List.mem_filter.1 hg'
   have e1 := of_decide_eq_true a.2
   have e2 := of_decide_eq_true b.2
   exact hF.alone g (List.mem_range.1 a.1) g' (List.mem_range.1 b.1) (by rw [e1, e2]) i hi hi'
 have hnd2 : ((List.range n).map Int.ofNat).Nodup := by
  rw [List.nodup_iff_pairwise_ne, List.pairwise_map]
  exact List.nodup_range.imp (fun h e => h (Int.ofNat.inj e))
 rw [List.perm_ext_iff_of_nodup hnd hnd2]
 intro i
 constructor
 ·intro h
  obtain ⟨g, hg, hi⟩ := List.mem_flatMap.1 h
  have hr := hF.range g (List.mem_range.1 (List.mem_filter.1 hg).1) i hi
  exact List.mem_map.2 ⟨i.toNat, List.mem_range.2 (by omega), by simp; omega⟩
 ·intro h
  obtain ⟨k, hk, rfl⟩ := List.mem_map.1 h
  have hk' := List.mem_range.1 hk
  obtain ⟨g, hg, hl, hi⟩ := hF.cover (Int.ofNat k) (by simp) (by simp; omega)
  exact List.mem_flatMap.2 ⟨g, List.mem_filter.2 ⟨List.mem_range.2 hg, decide_eq_true hl⟩, hi⟩
def Z7E (ls : List (Int × Int)) (p : Int -> Int) (n : Nat) : Int := (((List.range n).map Int.ofNat).map (fun i => Z2D ls (p i))).sum
theorem Z7C (hF : Forest3 ls gs n) {p : Int -> Int} (hp : PlanOk ls gs p) : Z7E ls p n = ((ZfZ ls gs).map (fun g => Z2l ls p (Z0c gs g))).sum := by
 unfold Z7E
 rw [<- Z8E ((ZdK hF).map _), Z49]
 congr 1
 refine List.map_congr_left (fun g hg => ?_)
 have a := List.mem_filter.1 hg
 have e1 := of_decide_eq_true a.2
 unfold Z2l
 congr 1
 refine List.map_congr_left (fun i hi => ?_)
 have := (hp.num g (List.mem_range.1 a.1) i hi).2
 rw [if_pos (by omega)]
theorem ZcX (hF : Forest3 ls gs n) {p : Int -> Int} (hp : PlanOk ls gs p) : Z7E ls p n <= Z7E ls (Z2z ls gs n) n := by
 rw [Z7C hF hp, Z7C hF (Z5Y hF)]
 have : ∀ l : List Nat, (∀ g ∈ l, g ∈ ZfZ ls gs) -> (l.map (fun g => Z2l ls p (Z0c gs g))).sum <= (l.map (fun g => Z2l ls (Z2z ls gs n) (Z0c gs g))).sum := fun l => by
  induction l with
  | nil => intro _; exact Int.le_refl _
  | cons g r ih =>
   intro h
   have a := List.mem_filter.1 (h g List.mem_cons_self)
   have := Zem hF hp (List.mem_range.1 a.1) (of_decide_eq_true a.2)
   have := ih (fun x hx => h x (List.mem_cons_of_mem _ hx))
   simp only [List.map_cons, List.sum_cons]
   omega
 exact this _ (fun g hg => hg)
end Go.Proofs.YtlgajongmkhcnaaGreatDoor
