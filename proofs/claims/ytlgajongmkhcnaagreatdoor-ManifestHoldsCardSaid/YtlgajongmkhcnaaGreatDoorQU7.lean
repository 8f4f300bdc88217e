import Derived.Test.YtlgajongmkhcnaaGreatDoorQU5
import Derived.Deep.CutBlock
import Derived.Deep.RegionLaw
set_option maxRecDepth 100000
set_option linter.unusedVariables false
set_option linter.unusedSimpArgs false
set_option maxHeartbeats 32000000
namespace Go.Proofs.YtlgajongmkhcnaaGreatDoor
section
open Go.RowKit
def Z5h : List Lab -> Bool
 | x :: y :: r => ltB x.pre y.pre && Z5h (y :: r)
 | _ => true
theorem Z6H : ∀ l : List Lab, Z5h l = true ↔ Z26 l
 | [] => ⟨fun _ i h => by simp at h, fun _ => rfl⟩
 | [x] => ⟨fun _ i h => by simp at h, fun _ => rfl⟩
 | x :: y :: r => by
  unfold Z5h
  rw [ZF, Z6H (y :: r)]
  constructor
  ·rintro ⟨h1, h2⟩ i hi
   cases i with
   | zero => exact h1
   | succ i => exact h2 i (by simpa using hi)
  ·intro h
   exact ⟨h 0 (by simp), fun i hi => h (i + 1) (by simpa using hi)⟩
def Z3l (l : Lev) (last : Bool) : Bool := Z4h l && if last then (decide (l.min = 0) && decide (l.pre = 0) && decide (l.labs.length = 0)) else (decide (1 <= l.min) && decide (l.min <= 2000) && l.labs.all (Z7e l) && Z5h l.labs)
theorem ZdW (l : Lev) : Z8v l l.labs.length ↔ (l.labs.all (Z7e l) = true /\ Z5h l.labs = true) := by
 rw [Z6H, Kbk]
 constructor
 ·intro h
  exact ⟨fun x hx => by obtain ⟨i, hi, rfl⟩ := Kau.1 hx; exact (h i hi hi).1, fun i hi => (h (i + 1) hi hi).2 i rfl (by omega)⟩
 ·rintro ⟨h1, h2⟩ i hi h
  exact ⟨h1 _ (Z4 h), fun j hj h' => by subst hj; exact h2 j h⟩
theorem ZdU {l : Lev} {last : Bool} : Z3l l last = true ↔ Zao l last := by
 unfold Z3l Zao
 rw [ZF]
 cases last
 ·simp only [Kcc, if_false, ZF, Kab]
  rw [ZdW]
  constructor
  ·rintro ⟨a, ⟨⟨b, c⟩, d⟩, e⟩; exact ⟨a, ⟨b, c⟩, d, e⟩
  ·rintro ⟨a, ⟨b, c⟩, d, e⟩; exact ⟨a, ⟨⟨b, c⟩, d⟩, e⟩
 ·simp only [if_true, ZF, Kab]
  constructor
  ·rintro ⟨a, ⟨b, c⟩, d⟩; exact ⟨a, b, c, d⟩
  ·rintro ⟨a, b, c, d⟩; exact ⟨a, ⟨b, c⟩, d⟩
theorem Zap (l : Lev) (last : Bool) : Z0S l last = Z3l l last := by rw [Kcz, Z1a, ZdU]
def Z77 (l next : Lev) : Bool := (l.labs.flatMap (Z0Q l)).all (fun x => (l.labs.flatMap (Z0Q l)).all (fun y => !decide (x.1 = y.1) || decide (Z0e next x.2 = Z0e next y.2)))
theorem Zaf {l next : Lev} : Z77 l next = true ↔ Z5t l next := by
 unfold Z77 Z5t
 simp only [Kbk, Bool.or_eq_true, Bool.not_eq_true', decide_eq_false_iff_not, Kab]
 constructor
 ·intro h x hx y hy e
  rcases h x hx y hy with h' | h'
  ·exact absurd e h'
  ·exact h'
 ·intro h x hx y hy
  by_cases e : x.1 = y.1
  ·exact .inr (h x hx y hy e)
  ·exact .inl e
theorem ZdK (l next : Lev) : Z0Z l next = Z77 l next := by rw [Kcz, Z4c, Zaf]
def Z5B : List Lev -> Bool
 | [] => true
 | [l] => Z3l l true
 | l :: m :: r => Z3l l false && Z5B (m :: r)
def Zag : List Lev -> Bool
 | [] => true
 | l :: r => r.all (fun m => !decide (l.name = m.name)) && Zag r
def ZaQ : List Lev -> Bool
 | l :: m :: r => decide (m.pre <= l.pre) && Z77 l m && ZaQ (m :: r)
 | _ => true
def Zcp (ls : List Lev) : Bool := decide (1 <= ls.length) && decide (ls.length <= 6) && decide ((ls.map (fun l => l.labs.length)).sum <= 200) && Z5B ls && Zag ls && ZaQ ls
theorem Z7c : ∀ ls : List Lev, Z5B ls = true ↔ ∀ i (h : i < ls.length), Z0S ls[i] (decide (i + 1 = ls.length)) = true
 | [] => ⟨fun _ i h => by simp at h, fun _ => rfl⟩
 | [l] => by
  unfold Z5B
  rw [<- Zap]
  exact ⟨fun h i hi => by obtain rfl : i = 0 := (by simpa using hi); exact h, fun h => h 0 (by simp)⟩
 | l :: m :: r => by
  unfold Z5B
  rw [ZF, Z7c (m :: r), <- Zap]
  constructor
  ·rintro ⟨h1, h2⟩ i hi
   cases i with
   | zero => simpa using h1
   | succ i =>
    have := h2 i (by simpa using hi)
    simpa using this
  ·intro h
   refine ⟨?_, fun i hi => ?_⟩
   ·have := h 0 (by simp)
    simpa using this
   ·have := h (i + 1) (by simpa using hi)
    simpa using this
theorem Z8o : ∀ ls : List Lev, Zag ls = true ↔ ∀ i (h : i < ls.length) j, (hj : j < i) -> (ls[j]'(by omega)).name ≠ ls[i].name
 | [] => ⟨fun _ i h => by simp at h, fun _ => rfl⟩
 | l :: r => by
  unfold Zag
  rw [ZF, Z8o r, Kbk]
  constructor
  ·rintro ⟨h1, h2⟩ i hi j hj
   cases i with
   | zero => omega
   | succ i =>
    cases j with
    | zero => simpa using h1 _ (Z4 (show i < r.length by simpa using hi))
    | succ j => exact h2 i (by simpa using hi) j (by omega)
  ·intro h
   refine ⟨fun m hm => ?_, fun i hi j hj => h (i + 1) (by simpa using hi) (j + 1) (by omega)⟩
   obtain ⟨i, hi, rfl⟩ := Kau.1 hm
   have := h (i + 1) (by simpa using hi) 0 (by omega)
   simpa using this
theorem Z8L : ∀ ls : List Lev, ZaQ ls = true ↔ ∀ i (h : i + 1 < ls.length), ls[i + 1].pre <= ls[i].pre /\ Z0Z ls[i] ls[i + 1] = true
 | [] => ⟨fun _ i h => by simp at h, fun _ => rfl⟩
 | [l] => ⟨fun _ i h => by simp at h, fun _ => rfl⟩
 | l :: m :: r => by
  unfold ZaQ
  rw [ZF, ZF, Z8L (m :: r), <- ZdK, Kab]
  constructor
  ·rintro ⟨h1, h2⟩ i hi
   cases i with
   | zero => exact h1
   | succ i => exact h2 i (by simpa using hi)
  ·intro h
   exact ⟨h 0 (by simp), fun i hi => h (i + 1) (by simpa using hi)⟩
theorem Z9X (ls : List Lev) : Z0g ls = Zcp ls := by
 rw [Kcz, Z0I]
 unfold Zcp
 simp only [ZF, Kab]
 rw [Z7c, Z8o, Z8L]
 unfold Zco ZjY
 have es : sumTo ls ls.length = (ls.map (fun l => l.labs.length)).sum := by unfold sumTo; rw [Kas (Z1 _)]
 rw [es]
 constructor
 ·rintro ⟨a, b, ⟨c, d, e, f⟩, g⟩
  exact ⟨⟨⟨⟨⟨a, b⟩, c⟩, fun i h => d i h h⟩, fun i h j hj => e i h h j hj (by omega)⟩, fun i h => ⟨f (i + 1) h h i rfl (by omega), g i h⟩⟩
 ·rintro ⟨⟨⟨⟨⟨a, b⟩, c⟩, d⟩, e⟩, f⟩
  exact ⟨a, b, ⟨c, fun i _ h => d i h, fun i _ h j hj h' => e i h j hj, fun i _ h j hj h' => by subst hj; exact (f j h).1⟩, fun i h => (f i h).2⟩
end
section
open Go.RowKit
theorem Zf2 (w : World) : RdLabs w (.slice none 0 0) [] := ⟨none, 0, rfl, fun h => absurd h (by simp)⟩
theorem Z8A {ls : List Lev} {cs : List ByteArray} (h1 : Z0g ls = true) (h2 : cs.length <= 2000) (h3 : ∀ c ∈ cs, Z0G c = true) (h4 : cs.any (Z2R ls) = false) : Z1g ls cs = ((gTo ls cs ls.length).1, 0) := by
 unfold Z1g; rw [if_neg (by omega), if_pos ⟨h1, h3⟩, h4]; rfl
theorem Zhl {W : World} {n : Nat} {T : TypeId} (ls : List ByteArray) (h : W.1[n]? = some (.cells (ls.map Value.string).toArray T (0, 0))) : ReadsT W (.slice (some ⟨n, 0, none⟩) ls.length ls.length) ls := by
 refine ⟨_, _, rfl, fun _ => ⟨n, 0, rfl, (Z5.1 h).1, fun i hi => ?_⟩⟩
 rw [Ka0, Kaa _ n i _ _ _ h]
 simp [hi]
def Zda (W : World) (os : List Obj) : World := os.foldl World.alloc W
theorem Zc5 (os : List Obj) : ∀ W : World, (Zda W os).1.toList = W.1.toList ++ os := by
 induction os with
 | nil => intro W; simp [Zda]
 | cons o r ih =>
  intro W
  show (Zda (W.alloc o) r).1.toList = _
  rw [ih]
  show (W.1.push o).toList ++ r = _
  simp
theorem Z65 (W : World) (os : List Obj) (j : Nat) {o : Obj} (h : os[j]? = some o) : (Zda W os).1[W.1.size + j]? = some o := by
 rw [<- Kb9, Zc5, Kaz (by simp)]
 simpa using h
end
section
open Go.RowKit
def RdBytes (w : World) (v : Value) (bs : List UInt8) : Prop :=
 ∃ a cap, v = .slice a bs.length cap /\ (0 < bs.length -> ∃ g off, a = some ⟨g, off, none⟩ /\ g < w.1.size /\ ∀ i (h : i < bs.length), w.cell? ⟨g, off + i, none⟩ = some (.int .u8 (bs[i].toNat : Int)))
theorem RdBytes.below {w w' : World} {v : Value} {zs : List UInt8} (h : RdBytes w v zs) (hb : Below w.1.size w w') : RdBytes w' v zs := by
 obtain ⟨a, cap, hv, hc⟩ := h
 exact ⟨a, cap, hv, fun h0 => by
  obtain ⟨g, off, ha, hg, qD⟩ := hc h0
  exact ⟨g, off, ha, ZH hg hb.size, fun i h => (hb.cell (p := ⟨g, off + i, none⟩) hg).trans (qD i h)⟩⟩
def Z3J (x : UInt8) : ByteArray := ⟨#[49 + x % 3, 48 + x / 3 % 3, 48 + x / 9 % 3, 48 + x / 27 % 3, 48 + x / 81 % 3]⟩
def Zc1 (bs : List UInt8) : List ByteArray := (bs.take 2000).map Z3J
theorem Ze5 (x : UInt8) : (Z3J x).size = 5 := rfl
theorem Zgf (W : World) (x : UInt8) : Sem.run Tryz.prog (convert 23 9 (.slice (some ⟨W.1.size, 0, none⟩) 5 5)) (W.alloc (.cells #[.int .u8 (49 + (x.toNat : Int) % 3), .int .u8 (48 + (x.toNat : Int) / 3 % 3), .int .u8 (48 + (x.toNat : Int) / 9 % 3), .int .u8 (48 + (x.toNat : Int) / 27 % 3), .int .u8 (48 + (x.toNat : Int) / 81 % 3)] 5)) =
 .ok (.string (Z3J x)) (W.alloc (.cells #[.int .u8 (49 + (x.toNat : Int) % 3), .int .u8 (48 + (x.toNat : Int) / 3 % 3), .int .u8 (48 + (x.toNat : Int) / 9 % 3), .int .u8 (48 + (x.toNat : Int) / 27 % 3), .int .u8 (48 + (x.toNat : Int) / 81 % 3)] 5)) := by
 have hx : x.toNat < 256 := x.toNat_lt
 have e1 : (((49 + x % 3 : UInt8)).toNat : Int) = 49 + (x.toNat : Int) % 3 := by rw [UInt8.toNat_add, UInt8.toNat_mod]; simp; omega
 have e2 : (((48 + x / 3 % 3 : UInt8)).toNat : Int) = 48 + (x.toNat : Int) / 3 % 3 := by rw [UInt8.toNat_add, UInt8.toNat_mod, UInt8.toNat_div]; simp; omega
 have e3 : (((48 + x / 9 % 3 : UInt8)).toNat : Int) = 48 + (x.toNat : Int) / 9 % 3 := by rw [UInt8.toNat_add, UInt8.toNat_mod, UInt8.toNat_div]; simp; omega
 have e4 : (((48 + x / 27 % 3 : UInt8)).toNat : Int) = 48 + (x.toNat : Int) / 27 % 3 := by rw [UInt8.toNat_add, UInt8.toNat_mod, UInt8.toNat_div]; simp; omega
 have e5 : (((48 + x / 81 % 3 : UInt8)).toNat : Int) = 48 + (x.toNat : Int) / 81 % 3 := by rw [UInt8.toNat_add, UInt8.toNat_mod, UInt8.toNat_div]; simp; omega
 refine run_convert_bytes_back (P := Tryz.prog) _ 23 9 5 ⟨W.1.size, 0, none⟩ 5 [49 + x % 3, 48 + x / 3 % 3, 48 + x / 9 % 3, 48 + x / 27 % 3, 48 + x / 81 % 3] Tryz.underlying23 Tryz.underlying5 Tryz.underlying9 (fun j hj => ?_)
 have ea : (⟨W.1.size, 0, none⟩ : Addr).add j = ⟨W.1.size, j, none⟩ := by unfold Addr.add; split <;> simp_all
 rw [ea, Kaa _ W.1.size j _ _ _ (Z02 W _)]
 have uE : j < 5 := hj
 have h5 : j = 0 \/ j = 1 \/ j = 2 \/ j = 3 \/ j = 4 := by omega
 rcases h5 with rfl | rfl | rfl | rfl | rfl
 ·show some (Value.int .u8 (49 + (x.toNat : Int) % 3)) = some (.int .u8 (((49 + x % 3 : UInt8)).toNat : Int)); rw [e1]
 ·show some (Value.int .u8 (48 + (x.toNat : Int) / 3 % 3)) = some (.int .u8 (((48 + x / 3 % 3 : UInt8)).toNat : Int)); rw [e2]
 ·show some (Value.int .u8 (48 + (x.toNat : Int) / 9 % 3)) = some (.int .u8 (((48 + x / 9 % 3 : UInt8)).toNat : Int)); rw [e3]
 ·show some (Value.int .u8 (48 + (x.toNat : Int) / 27 % 3)) = some (.int .u8 (((48 + x / 27 % 3 : UInt8)).toNat : Int)); rw [e4]
 ·show some (Value.int .u8 (48 + (x.toNat : Int) / 81 % 3)) = some (.int .u8 (((48 + x / 81 % 3 : UInt8)).toNat : Int)); rw [e5]
theorem Zgl (bs : List UInt8) (v : Value) (w : World) (hr : RdBytes w v bs) (hl : bs.length <= maxLen) :
 Calls Tryz.prog 62 #[v] w fun e w' => ∃ v, e = .returned v /\ Below w.1.size w w' /\ OwnsT w' w.1.size v (Zc1 bs) := by
 unfold maxLen at hl
 obtain ⟨a, cap, rfl, hc⟩ := hr
 have HC := Z0 hc
 clear hc
 obtain ⟨i0, hi⟩ := info_parts Tryz.infoS
 have HI := Z0 hi
 clear hi
 go_enter Tryz.func62, Tryz.ntmps62
 go_wp2_with fail
 go_loopw [3, 4] (fun v i wr => ∃ k : Nat, k <= bs.length /\ k <= 2000 /\ i = .int .i64 k /\ Below w.1.size w wr /\ OwnsT wr w.1.size v ((bs.take k).map Z3J)) (fun _ i _ => bs.length - (intOf i).toNat)
 case atStart => exact ⟨0, ZE _, ZE _, rfl, Z9 _ _, OwnsT.nil _ _⟩
 case round =>
  obtain ⟨k, hk, uF, rfl, hB, qG⟩ := hrel
  by_cases pA : k < bs.length /\ k < 2000
  ·obtain ⟨rV, uG⟩ := pA
   obtain ⟨g, off, rfl, hg, qD⟩ := HC.out (by omega)
   have c1 : wr.cell? ⟨g, off + k, none⟩ = some (.int .u8 (bs[k].toNat : Int)) := (hB.cell (p := ⟨g, off + k, none⟩) hg).trans (qD k rV)
   have HN : Hid ((bs.take (k + 1)).map Z3J = (bs.take k).map Z3J ++ [Z3J bs[k]]) := by rw [Z8 rV, ZD]; exact rfl
   have qH : ((bs.take k).map Z3J).length = k := by simp; omega
   have HL := Z0 qH
   have sP : ((bs.take k).map Z3J).length <= 2000 := by omega
   have rW := Zgf wr bs[k]
   have sR : 0 <= (bs[k].toNat : Int) := by omega
   have sT : (bs[k].toNat : Int) <= 255 := by have := bs[k].toNat_lt; omega
   clear qH qD HC
   generalize Z3J bs[k] = cd at HN rW
   generalize (bs[k].toNat : Int) = n at c1 rW sR sT
   generalize (bs.take k).map Z3J = acc at qG HN sP HL
   go_wp2_with (at_builtin; refine wpList_append_own _ rfl _ _ 84 rfl w.1.size 9 i0 (.string ⟨#[]⟩) 1 16 Tryz.underlying84 HI.out.1 HI.out.2.1 HI.out.2.2.1 HI.out.2.2.2 rfl (by decide) _ _ _ rfl ((qG.alloc _).alloc _) ⟨wr.1.size + 1, 0, none⟩ 1 1 [.string cd] rfl rfl (by have := cell_one_new (wr.alloc (.cells #[.int .u8 (49 + n % 3), .int .u8 (48 + n / 3 % 3), .int .u8 (48 + n / 9 % 3), .int .u8 (48 + n / 27 % 3), .int .u8 (48 + n / 81 % 3)] 5)) (.string cd) 9; simpa using this) (by simp [Value.oneCell']) (by unfold maxLen; omega) (by omega) (by have := hB.size; simp; omega) ?_; intro v' w4 pB pC _)
   have sU : Below w.1.size w w4 := ((hB.alloc hB.size _).alloc (by have := hB.size; simp; omega) _).grown pC (by have := hB.size; simp; omega) (fun r e => (qG.lt r e).1)
   go_roundw
   case rel => exact ⟨k + 1, by omega, by omega, by go_num, sU, by rw [HN.out]; unfold OwnsT; rw [ZD, ZC]; exact pB⟩
   case measure => simp [intOf]; omega
  ·have HE : Hid (OwnsT wr w.1.size u3 (Zc1 bs)) := by
    unfold Zc1
    have e : bs.take 2000 = bs.take k := by
     by_cases h : k < bs.length
     ·obtain rfl : k = 2000 := by omega
      rfl
     ·rw [Kas (by omega), Kas (by omega)]
    rw [e]; exact qG
   clear qG
   by_cases h1 : k < bs.length
   ·have h2 : 2000 <= k := by omega
    go_wp2_with fail
    go_ret
    exact ⟨_, rfl, hB, HE.out⟩
   ·have h2 : decide (k < bs.length) = false := by simpa using h1
    go_wp2_with fail
    go_ret
    exact ⟨_, rfl, hB, HE.out⟩
end
section
open Go.RowKit
theorem Tryz.infoL : (Tryz.prog.info? 63).map (fun i => (i.zero, i.size, i.bytes)) = some (some (.agg #[.string ⟨#[]⟩, .int .i64 0, .slice none 0 0, .int .i64 0, .int .i64 0]), 5, 64) := by kernel_rfl
theorem Tryz.infoB : (Tryz.prog.info? 150).map (fun i => (i.zero, i.size, i.bytes)) = some (some (.agg #[.string ⟨#[]⟩, .string ⟨#[]⟩]), 2, 32) := by kernel_rfl
theorem Z0A {w w' : World} {base : Nat} {e : TypeId} {size : Nat} {v : Value} {n : Nat} {xs : List Value} {row : Option Nat} (h : w.ownsRow base e size v n xs) (hg : w.grownBy w' row) (hT : ∀ g, row = some g -> ∀ cur fr, w.1[g]? ≠ some (.cells cur e fr)) : w'.ownsRow base e size v n xs := by
 refine h.kept hg ?_
 obtain ⟨_, hv | ⟨g, cap, cur, rfl, _, hh, _⟩⟩ := h
 ·rw [hv.1]; exact .inl rfl
 ·exact .inr (fun e' => hT g e'.symm _ _ hh)
def Z2m (x : Lab) : List Value := [.string x.pre, .string x.grp]
abbrev OwnsLab (w : World) (base : Nat) (v : Value) (labs : List Lab) : Prop := w.ownsRow base 150 2 v labs.length (labs.flatMap Z2m)
theorem Z61 (L : List Lab) (k j : Nat) (h : k < L.length) (hj : j < 2) : (L.flatMap Z2m)[k * 2 + j]? = (Z2m L[k])[j]? := by
 induction L generalizing k with
 | nil => simp at h
 | cons p r ih =>
  rw [Kao]
  have hl : (Z2m p).length = 2 := rfl
  cases k with
  | zero => rw [Kc1, Ka0, Ka6 (by omega)]; rfl
  | succ k =>
   rw [Kaz (by rw [hl]; omega), hl, show (k + 1) * 2 + j - 2 = k * 2 + j by omega]
   exact ih k (by simpa using h)
theorem RdLabs.of_owns {w : World} {base : Nat} {v : Value} {labs : List Lab} (ho : OwnsLab w base v labs) : RdLabs w v labs := by
 rcases Joins.ownsRow_forms ho with ⟨rfl, hp⟩ | ⟨g, cap, rfl⟩
 ·obtain rfl : labs = [] := Kag.1 hp
  exact Zf2 w
 ·refine ⟨_, cap, rfl, fun _ => ⟨g, 0, rfl, (ho.lt g rfl).2, fun i h => ?_⟩⟩
  rw [Ka0]
  constructor
  ·rw [ho.cellAt _ (by omega), show i * 2 = i * 2 + 0 from rfl, Z61 labs i 0 h (by omega)]; rfl
  ·rw [ho.cellAt _ (by omega), Z61 labs i 1 h (by omega)]; rfl
theorem OwnsLab.nil (w : World) (base : Nat) : OwnsLab w base (.slice none 0 0) [] := Kbb _ _ _ _
theorem OwnsLab.form {w : World} {base : Nat} {v : Value} {l : List Lab} (h : OwnsLab w base v l) : ∃ a cap, v = .slice a l.length cap := by
 rcases Joins.ownsRow_forms h with ⟨rfl, hp⟩ | ⟨g, cap, rfl⟩
 ·exact ⟨none, 0, by rw [hp]⟩
 ·exact ⟨_, cap, rfl⟩
def Z21 (p : Lev × Value) : List Value := [.string p.1.name, .int .i64 p.1.pre, p.2, .int .i64 p.1.min, .int .i64 p.1.cents]
def OwnsLv (w : World) (base : Nat) (v : Value) (ls : List Lev) : Prop :=
 ∃ L : List (Lev × Value), L.map Prod.fst = ls /\ (∀ p ∈ L, OwnsLab w base p.2 p.1.labs) /\ w.ownsRow base 63 5 v L.length (L.flatMap Z21)
theorem Z2Z (L : List (Lev × Value)) (k j : Nat) (h : k < L.length) (hj : j < 5) : (L.flatMap Z21)[k * 5 + j]? = (Z21 L[k])[j]? := by
 induction L generalizing k with
 | nil => simp at h
 | cons p r ih =>
  rw [Kao]
  have hl : (Z21 p).length = 5 := rfl
  cases k with
  | zero => rw [Kc1, Ka0, Ka6 (by omega)]; rfl
  | succ k =>
   rw [Kaz (by rw [hl]; omega), hl, show (k + 1) * 5 + j - 5 = k * 5 + j by omega]
   exact ih k (by simpa using h)
theorem OwnsLv.nil (w : World) (base : Nat) : OwnsLv w base (.slice none 0 0) [] := ⟨[], rfl, by simp, Kbb _ _ _ _⟩
theorem OwnsLv.form {w : World} {base : Nat} {v : Value} {ls : List Lev} (h : OwnsLv w base v ls) : ∃ a cap, v = .slice a ls.length cap := by
 obtain ⟨L, rfl, _, ho⟩ := h
 rw [Z7]
 rcases Joins.ownsRow_forms ho with ⟨rfl, hp⟩ | ⟨g, cap, rfl⟩
 ·exact ⟨none, 0, by rw [hp]⟩
 ·exact ⟨_, cap, rfl⟩
theorem OwnsLv.grown {w w' : World} {base : Nat} {v : Value} {ls : List Lev} {row : Option Nat} (h : OwnsLv w base v ls) (hg : w.grownBy w' row) (h1 : ∀ g, row = some g -> ∀ cur fr, w.1[g]? ≠ some (.cells cur 150 fr)) (h2 : ∀ g, row = some g -> ∀ cur fr, w.1[g]? ≠ some (.cells cur 63 fr)) : OwnsLv w' base v ls := by
 obtain ⟨L, hL, hLr, hLo⟩ := h
 exact ⟨L, hL, fun p hp => Z0A (hLr p hp) hg h1, Z0A hLo hg h2⟩
theorem OwnsLv.below {w w' : World} {base : Nat} {v : Value} {ls : List Lev} (h : OwnsLv w base v ls) (hb : Below w.1.size w w') : OwnsLv w' base v ls :=
 h.grown (Z0a hb) (fun g e => by cases e) (fun g e => by cases e)
theorem OwnsLv.reads {w : World} {base : Nat} {v : Value} {ls : List Lev} (h : OwnsLv w base v ls) : RdLevs w v ls := by
 obtain ⟨L, rfl, hLr, ho⟩ := h
 rcases Joins.ownsRow_forms ho with ⟨rfl, hp⟩ | ⟨g, cap, rfl⟩
 ·obtain rfl : L = [] := Kag.1 hp
  exact ⟨none, 0, rfl, fun h => absurd h (by simp)⟩
 ·refine ⟨_, cap, by rw [Z7], fun _ => ⟨g, 0, rfl, (ho.lt g rfl).2, fun i h => ?_⟩⟩
  have h' : i < L.length := by simpa using h
  refine ⟨L[i].2, ?_, ?_⟩
  ·have := RdLabs.of_owns (hLr _ (Z4 h'))
   simpa using this
  ·rw [Ka0]
   refine ⟨?_, ?_, ?_, ?_, ?_⟩
   ·rw [ho.cellAt _ (by omega), show i * 5 = i * 5 + 0 from rfl, Z2Z L i 0 h' (by omega)]; simp [Z21]
   ·rw [ho.cellAt _ (by omega), Z2Z L i 1 h' (by omega)]; simp [Z21]
   ·rw [ho.cellAt _ (by omega), Z2Z L i 2 h' (by omega)]; simp [Z21]
   ·rw [ho.cellAt _ (by omega), Z2Z L i 3 h' (by omega)]; simp [Z21]
   ·rw [ho.cellAt _ (by omega), Z2Z L i 4 h' (by omega)]; simp [Z21]
theorem Z0P (w : World) (a : Addr) (u : Value) : w.grownBy (w.setCell a u) (some a.block) := by
 refine ⟨rfl, rfl, rfl, by simp, fun k hk pF => ZA _ _ _ _ (fun e => pF (by rw [e]))⟩
def MR (w : World) (vl vc : Value) (out : List Lev) (wx : World) : Prop :=
 Below w.1.size w wx /\ wx.1[w.1.size]? = some (.cells #[vl] 23 (0, 0)) /\ wx.1[w.1.size + 1]? = some (.cells #[vc] 23 (0, 0)) /\
 ∃ v, wx.1[w.1.size + 2]? = some (.cells #[v] 31 (0, 0)) /\ OwnsLv wx (w.1.size + 3) v out
theorem MR.below {w : World} {vl vc : Value} {out : List Lev} {wx w' : World} (h : MR w vl vc out wx) (hb : Below wx.1.size wx w') : MR w vl vc out w' := by
 obtain ⟨h1, h2, h3, v, h4, h5⟩ := h
 have k : ∀ {b : Nat} {o : Obj}, wx.1[b]? = some o -> w'.1[b]? = some o := fun hh => (hb.block _ (Z5.1 hh).1).trans hh
 exact ⟨Z01 h1 h1.size hb, k h2, k h3, v, k h4, h5.below hb⟩
def Zc6 (least cents : List UInt8) (out : List Lev) (l : Lev) : List Lev := out ++ [{ l with min := 1 + ((least.getD out.length 0).toNat : Int), cents := ((cents.getD out.length 0).toNat : Int) }]
theorem Zdd {w w1 w2 : World} {vl vc v v' sv : Value} {out : List Lev} {l : Lev} (h1 : Below w.1.size w w1) (h2 : w1.1[w.1.size]? = some (.cells #[vl] 23 (0, 0))) (h3 : w1.1[w.1.size + 1]? = some (.cells #[vc] 23 (0, 0))) (h4 : w1.1[w.1.size + 2]? = some (.cells #[v] 31 (0, 0)))
 {L : List (Lev × Value)} (hL : L.map Prod.fst = out) (hLr : ∀ p ∈ L, OwnsLab w1 (w.1.size + 3) p.2 p.1.labs) (hLo : w1.ownsRow (w.1.size + 3) 63 5 v L.length (L.flatMap Z21)) (hsv : OwnsLab w1 (w.1.size + 3) sv l.labs)
 (hg : w1.grownBy w2 v.ownBlock) (ho : w2.ownsRow (w.1.size + 3) 63 5 v' (L.length + 1) (L.flatMap Z21 ++ Z21 (l, sv))) :
 MR w vl vc (out ++ [l]) (w2.setCell ⟨w.1.size + 2, 0, none⟩ v') /\ w2.cell? ⟨w.1.size + 2, 0, none⟩ = some v /\ w2.frozen? ⟨w.1.size + 2, 0, none⟩ = false := by
 have nB := Z0t hLo (T := 23) (by decide)
 have nV := Z0t hLo (T := 31) (by decide)
 have nA := Z0t hLo (T := 150) (by decide)
 have b2 := Z14 hg h2 (fun g e => nB g e _ _)
 have b3 := Z14 hg h3 (fun g e => nB g e _ _)
 have b4 := Z14 hg h4 (fun g e => nV g e _ _)
 have pA := fun r e => (hLo.lt r e).1
 have B2 : Below w.1.size w w2 := h1.grown hg h1.size (fun r e => by have := pA r e; omega)
 have sg := Z0P w2 ⟨w.1.size + 2, 0, none⟩ v'
 have no : ∀ T, T ≠ 31 -> ∀ g, some (w.1.size + 2) = some g -> ∀ cur fr, w2.1[g]? ≠ some (.cells cur T fr) := by
  intro T hT g e cur fr e'
  injection e with e
  subst e
  rw [b4] at e'
  injection e' with e'
  injection e' with _ e' _
  exact hT e'.symm
 refine ⟨⟨Z1h B2 sg B2.size (by show _ <= w.1.size + 2; omega), (ZA _ _ _ _ (by show w.1.size ≠ w.1.size + 2; omega)).trans b2, (ZA _ _ _ _ (by show w.1.size + 1 ≠ w.1.size + 2; omega)).trans b3, v', one_setCell b4, L ++ [(l, sv)], ?_, ?_, ?_⟩, cell_of_one b4, free_of_one b4⟩
 ·rw [ZD, hL]; rfl
 ·intro p hp
  have k : ∀ {u : Value} {labs : List Lab}, OwnsLab w1 (w.1.size + 3) u labs -> OwnsLab (w2.setCell ⟨w.1.size + 2, 0, none⟩ v') (w.1.size + 3) u labs := fun hh => Z0A (Z0A hh hg (fun g e => nA g e)) sg (no _ (by decide))
  rcases ZG.1 hp with hp | hp
  ·exact k (hLr p hp)
  ·rw [ZI.1 hp]; exact k hsv
 ·rw [Kai, ZC]
  have := Z0A ho sg (no _ (by decide))
  simpa using this
end
section
open Go.RowKit
theorem Z2f (W : World) (n : Nat) (hn : n = W.1.size) (cs : List Value) (T : TypeId) : ∀ j u, cs[j]? = some u -> (W.alloc (.cells cs.toArray T)).cell? ((⟨n, 0, none⟩ : Addr).add j) = some u := by subst hn; exact Z0f W cs T
theorem getD_lt {l : List UInt8} {k : Nat} (h : k < l.length) : l.getD k 0 = l[k] := by rw [Z2, Z3 h]; rfl
theorem Z7t {l : List UInt8} {k : Nat} (h : ¬ k < l.length) : l.getD k 0 = 0 := by rw [Z2, Kbx (by omega)]; rfl
theorem byte_of {w W : World} {v : Value} {a : Option Addr} {n cap : Nat} {bs : List UInt8} (h : RdBytes w v bs) (hv : v = .slice a n cap) (hb : Below w.1.size w W) {k : Nat} (hk : k < bs.length) : ∃ g off, a = some ⟨g, off, none⟩ /\ g < W.1.size /\ W.cell? ⟨g, off + k, none⟩ = some (.int .u8 (bs[k].toNat : Int)) := by
 obtain ⟨a', cap', rfl, hc⟩ := h
 injection hv with h1 h2 h3
 subst h1
 obtain ⟨g, off, ha, hg, qD⟩ := hc (by omega)
 exact ⟨g, off, ha, ZH hg hb.size, (hb.cell (p := ⟨g, off + k, none⟩) hg).trans (qD k hk)⟩
theorem Zej {W : World} {b : Nat} {o x y : Obj} (h : W.1[b]? = some o) : ((W.alloc x).alloc y).1[b]? = some o := by
 have hb : Below W.1.size W ((W.alloc x).alloc y) := ((Z9 _ W).alloc (Z1 _) _).alloc (by simp) _
 exact (hb.block b (Z5.1 h).1).trans h
theorem ZfJ (l : Lev) (sv vl vc : Value) (least cents : List UInt8) (out : List Lev) (w wx : World) (qI : RdBytes w vl least) (qE : RdBytes w vc cents) (qU : least.length <= maxLen) (qV : cents.length <= maxLen) (hM : MR w vl vc out wx) (hsv : OwnsLab wx (w.1.size + 3) sv l.labs) (pO : l.cents = 0) (rX : out.length <= 10) (hx : w.1.size + 3 <= wx.1.size) :
 Calls Tryz.prog 61 #[lvA l sv, .pointer (some ⟨w.1.size + 2, 0, none⟩), .pointer (some ⟨w.1.size, 0, none⟩), .pointer (some ⟨w.1.size + 1, 0, none⟩)] wx fun e w' => e = .returned (.tuple #[]) /\ MR w vl vc (Zc6 least cents out l) w' /\ wx.1.size <= w'.1.size := by
 unfold maxLen at qU qV
 obtain ⟨h1, h2, h3, v, h4, L, hL, hLr, hLo⟩ := hM
 have pR : L.length = out.length := by rw [<- hL, Z7]
 rw [pR] at hLo
 obtain ⟨a, cap, rfl⟩ : ∃ a cap, v = .slice a out.length cap := by
  rcases Joins.ownsRow_forms hLo with ⟨rfl, hp⟩ | ⟨g, cap, rfl⟩
  ·exact ⟨none, 0, by rw [hp]⟩
  ·exact ⟨_, cap, rfl⟩
 obtain ⟨sa, sc, rfl⟩ := OwnsLab.form hsv
 have rY := Z0 qI
 have qW := Z0 qE
 obtain ⟨la, lc, rfl, _⟩ := qI
 obtain ⟨ca, cc, rfl, _⟩ := qE
 have x0 := cell_of_one h2
 have x1 := cell_of_one h3
 have x2 := cell_of_one h4
 obtain ⟨i0, hi⟩ := info_parts Tryz.infoL
 have HI := Z0 hi
 have H1 := Z0 h1
 have H2 := Z0 h2
 have H3 := Z0 h3
 have H4 := Z0 h4
 have HL := Z0 hL
 have pQ := Z0 pR
 have qJ := Z0 hLr
 have qX := Z0 hsv
 have qY : Hid (∀ m c : Int, m = 1 + ((least.getD out.length 0).toNat : Int) -> c = ((cents.getD out.length 0).toNat : Int) -> ∀ W, MR w (.slice la least.length lc) (.slice ca cents.length cc) (out ++ [{ l with min := m, cents := c }]) W -> MR w (.slice la least.length lc) (.slice ca cents.length cc) (Zc6 least cents out l) W) := fun m c hm hc W h => by subst hm hc; exact h
 clear hi h1 h2 h3 h4 hL hLr hsv pR
 have sV : w.1.size + 2 < wx.1.size := by omega
 have sW : w.1.size + 1 < wx.1.size := by omega
 have uH : w.1.size < wx.1.size := by omega
 unfold lvA
 rw [pO]
 by_cases k1 : out.length < least.length <;> by_cases k2 : out.length < cents.length
 ·obtain ⟨g1, o1, rfl, gg1, c1⟩ := byte_of rY.out rfl H1.out k1
  obtain ⟨g2, o2, rfl, gg2, c2⟩ := byte_of qW.out rfl H1.out k2
  have e1 := Z0 (getD_lt k1)
  have bb1 : (least[out.length].toNat : Int) <= 255 := by have := least[out.length].toNat_lt; omega
  have bb2 : 0 <= (least[out.length].toNat : Int) := by omega
  have e2 := Z0 (getD_lt k2)
  have bb3 : (cents[out.length].toNat : Int) <= 255 := by have := cents[out.length].toNat_lt; omega
  have bb4 : 0 <= (cents[out.length].toNat : Int) := by omega
  go_enter Tryz.func61, Tryz.ntmps61
  go_wp2_with (at_builtin; refine wpList_append_own _ rfl _ _ 31 rfl (w.1.size + 3) 63 i0 (.agg #[.string ⟨#[]⟩, .int .i64 0, .slice none 0 0, .int .i64 0, .int .i64 0]) 5 64 Tryz.underlying31 HI.out.1 HI.out.2.1 HI.out.2.2.1 HI.out.2.2.2 rfl (by decide) _ _ _ rfl ((hLo.alloc _).alloc _) ⟨wx.1.size + 1, 0, none⟩ 1 1 (Z21 ({ l with min := 1 + (least[out.length].toNat : Int), cents := (cents[out.length].toNat : Int) }, .slice sa l.labs.length sc)) rfl rfl (Z2f _ _ (by simp) _ _) (by simp [Value.oneCell', Z21]) (by unfold maxLen; omega) (by omega) (by simp; omega) ?_; intro v' w2 pB pC _; obtain ⟨gv, cv, rfl⟩ := Joins.ownsRow_form pB (by omega); obtain ⟨pJ, hc, rG⟩ := Zdd (L := L) (l := { l with min := 1 + (least[out.length].toNat : Int), cents := (cents[out.length].toNat : Int) }) (h1 := by exact (H1.out.alloc H1.out.size _).alloc (by simp; omega) _) (h2 := by exact Zej H2.out) (h3 := by exact Zej H3.out) (h4 := by exact Zej H4.out) (hL := HL.out) (hLr := by exact fun p hp => ((qJ.out p hp).alloc _).alloc _) (hLo := by rw [pQ.out]; exact (hLo.alloc _).alloc _) (hsv := by exact (qX.out.alloc _).alloc _) (hg := pC) (ho := by rw [pQ.out]; exact pB); have pZ := Z0 pJ; have qA := pC.size; clear pJ)
  go_end0
  exact ⟨rfl, qY.out _ _ (by rw [e1.out]) (by rw [e2.out]) _ pZ.out, by simp at qA ⊢; omega⟩
 ·obtain ⟨g1, o1, rfl, gg1, c1⟩ := byte_of rY.out rfl H1.out k1
  have e1 := Z0 (getD_lt k1)
  have bb1 : (least[out.length].toNat : Int) <= 255 := by have := least[out.length].toNat_lt; omega
  have bb2 : 0 <= (least[out.length].toNat : Int) := by omega
  have e2 := Z0 (Z7t k2)
  go_enter Tryz.func61, Tryz.ntmps61
  go_wp2_with (at_builtin; refine wpList_append_own _ rfl _ _ 31 rfl (w.1.size + 3) 63 i0 (.agg #[.string ⟨#[]⟩, .int .i64 0, .slice none 0 0, .int .i64 0, .int .i64 0]) 5 64 Tryz.underlying31 HI.out.1 HI.out.2.1 HI.out.2.2.1 HI.out.2.2.2 rfl (by decide) _ _ _ rfl ((hLo.alloc _).alloc _) ⟨wx.1.size + 1, 0, none⟩ 1 1 (Z21 ({ l with min := 1 + (least[out.length].toNat : Int), cents := 0 }, .slice sa l.labs.length sc)) rfl rfl (Z2f _ _ (by simp) _ _) (by simp [Value.oneCell', Z21]) (by unfold maxLen; omega) (by omega) (by simp; omega) ?_; intro v' w2 pB pC _; obtain ⟨gv, cv, rfl⟩ := Joins.ownsRow_form pB (by omega); obtain ⟨pJ, hc, rG⟩ := Zdd (L := L) (l := { l with min := 1 + (least[out.length].toNat : Int), cents := 0 }) (h1 := by exact (H1.out.alloc H1.out.size _).alloc (by simp; omega) _) (h2 := by exact Zej H2.out) (h3 := by exact Zej H3.out) (h4 := by exact Zej H4.out) (hL := HL.out) (hLr := by exact fun p hp => ((qJ.out p hp).alloc _).alloc _) (hLo := by rw [pQ.out]; exact (hLo.alloc _).alloc _) (hsv := by exact (qX.out.alloc _).alloc _) (hg := pC) (ho := by rw [pQ.out]; exact pB); have pZ := Z0 pJ; have qA := pC.size; clear pJ)
  go_end0
  exact ⟨rfl, qY.out _ _ (by rw [e1.out]) (by rw [e2.out]; rfl) _ pZ.out, by simp at qA ⊢; omega⟩
 ·obtain ⟨g2, o2, rfl, gg2, c2⟩ := byte_of qW.out rfl H1.out k2
  have e1 := Z0 (Z7t k1)
  have e2 := Z0 (getD_lt k2)
  have bb3 : (cents[out.length].toNat : Int) <= 255 := by have := cents[out.length].toNat_lt; omega
  have bb4 : 0 <= (cents[out.length].toNat : Int) := by omega
  go_enter Tryz.func61, Tryz.ntmps61
  go_wp2_with (at_builtin; refine wpList_append_own _ rfl _ _ 31 rfl (w.1.size + 3) 63 i0 (.agg #[.string ⟨#[]⟩, .int .i64 0, .slice none 0 0, .int .i64 0, .int .i64 0]) 5 64 Tryz.underlying31 HI.out.1 HI.out.2.1 HI.out.2.2.1 HI.out.2.2.2 rfl (by decide) _ _ _ rfl ((hLo.alloc _).alloc _) ⟨wx.1.size + 1, 0, none⟩ 1 1 (Z21 ({ l with min := 1, cents := (cents[out.length].toNat : Int) }, .slice sa l.labs.length sc)) rfl rfl (Z2f _ _ (by simp) _ _) (by simp [Value.oneCell', Z21]) (by unfold maxLen; omega) (by omega) (by simp; omega) ?_; intro v' w2 pB pC _; obtain ⟨gv, cv, rfl⟩ := Joins.ownsRow_form pB (by omega); obtain ⟨pJ, hc, rG⟩ := Zdd (L := L) (l := { l with min := 1, cents := (cents[out.length].toNat : Int) }) (h1 := by exact (H1.out.alloc H1.out.size _).alloc (by simp; omega) _) (h2 := by exact Zej H2.out) (h3 := by exact Zej H3.out) (h4 := by exact Zej H4.out) (hL := HL.out) (hLr := by exact fun p hp => ((qJ.out p hp).alloc _).alloc _) (hLo := by rw [pQ.out]; exact (hLo.alloc _).alloc _) (hsv := by exact (qX.out.alloc _).alloc _) (hg := pC) (ho := by rw [pQ.out]; exact pB); have pZ := Z0 pJ; have qA := pC.size; clear pJ)
  go_end0
  exact ⟨rfl, qY.out _ _ (by rw [e1.out]; rfl) (by rw [e2.out]) _ pZ.out, by simp at qA ⊢; omega⟩
 ·have e1 := Z0 (Z7t k1)
  have e2 := Z0 (Z7t k2)
  go_enter Tryz.func61, Tryz.ntmps61
  go_wp2_with (at_builtin; refine wpList_append_own _ rfl _ _ 31 rfl (w.1.size + 3) 63 i0 (.agg #[.string ⟨#[]⟩, .int .i64 0, .slice none 0 0, .int .i64 0, .int .i64 0]) 5 64 Tryz.underlying31 HI.out.1 HI.out.2.1 HI.out.2.2.1 HI.out.2.2.2 rfl (by decide) _ _ _ rfl ((hLo.alloc _).alloc _) ⟨wx.1.size + 1, 0, none⟩ 1 1 (Z21 ({ l with min := 1, cents := 0 }, .slice sa l.labs.length sc)) rfl rfl (Z2f _ _ (by simp) _ _) (by simp [Value.oneCell', Z21]) (by unfold maxLen; omega) (by omega) (by simp; omega) ?_; intro v' w2 pB pC _; obtain ⟨gv, cv, rfl⟩ := Joins.ownsRow_form pB (by omega); obtain ⟨pJ, hc, rG⟩ := Zdd (L := L) (l := { l with min := 1, cents := 0 }) (h1 := by exact (H1.out.alloc H1.out.size _).alloc (by simp; omega) _) (h2 := by exact Zej H2.out) (h3 := by exact Zej H3.out) (h4 := by exact Zej H4.out) (hL := HL.out) (hLr := by exact fun p hp => ((qJ.out p hp).alloc _).alloc _) (hLo := by rw [pQ.out]; exact (hLo.alloc _).alloc _) (hsv := by exact (qX.out.alloc _).alloc _) (hg := pC) (ho := by rw [pQ.out]; exact pB); have pZ := Z0 pJ; have qA := pC.size; clear pJ)
  go_end0
  exact ⟨rfl, qY.out _ _ (by rw [e1.out]; rfl) (by rw [e2.out]; rfl) _ pZ.out, by simp at qA ⊢; omega⟩
end
section
open Go.RowKit
def sel (cands : List ByteArray) (f : ByteArray -> Lab) (b : Nat -> Bool) (k : Nat) : List Lab := ((List.range k).filter b).map (fun i => f (cands.getD i ⟨#[]⟩))
theorem Z8Y (cands : List ByteArray) (f : ByteArray -> Lab) (b : Nat -> Bool) (k : Nat) (h : k < cands.length) : sel cands f b (k + 1) = if b k then sel cands f b k ++ [f cands[k]] else sel cands f b k := by
 unfold sel
 rw [Kaq, Kb0, ZD]
 cases hb : b k
 ·rw [Kbz (by simpa using hb), Kbq, Kbe, Ka1]; simp
 ·rw [Kby (by simpa using hb), Kbq, if_pos rfl]
  have : cands.getD k ⟨#[]⟩ = cands[k] := by rw [Z2, Z3 h]; rfl
  rw [Kan, Kbe, this]
theorem Z5k (cands : List ByteArray) (f : ByteArray -> Lab) (b : Nat -> Bool) (k : Nat) : (sel cands f b k).length <= k := by
 unfold sel
 rw [Z7]
 have := Kbw b (List.range k)
 rw [Kay] at this
 exact this
def bt (n m : Int) : Bool := decide (0 < bits BinOp.and IntKind.u32 n m)
structure Bits where
 f5 : Bool
 f3 : Bool
 f1 : Bool
 b5 : Nat -> Bool
 b3 : Nat -> Bool
 b1 : Nat -> Bool
def bitsOf (n : Int) : Bits := ⟨bt n 1, bt n 2, bt n 4, fun k => bt (n / 2 ^ (3 + k)) 1, fun k => bt (n / 2 ^ (8 + k)) 1, fun k => bt (n / 2 ^ (14 + k)) 1⟩
def pre5 : List ByteArray := [⟨#[49, 48, 48, 48, 48]⟩, ⟨#[49, 48, 48, 48, 49]⟩, ⟨#[49, 48, 48, 49, 48]⟩, ⟨#[49, 49, 48, 48, 48]⟩, ⟨#[50, 48, 48, 48, 48]⟩]
def pre3 : List ByteArray := [⟨#[49, 48, 48]⟩, ⟨#[49, 48, 49]⟩, ⟨#[49, 49, 48]⟩, ⟨#[50, 48, 48]⟩, ⟨#[50, 48, 49]⟩, ⟨#[51, 48, 48]⟩]
def pre1 : List ByteArray := [⟨#[49]⟩, ⟨#[50]⟩, ⟨#[51]⟩]
def Zar (p : ByteArray) : Lab := ⟨p, ⟨#[72]⟩ ++ p.extract 0 3⟩
def Zas (p : ByteArray) : Lab := ⟨p, ⟨#[71]⟩ ++ p.extract 0 1⟩
def Zat (p : ByteArray) : Lab := ⟨p, ⟨#[90]⟩⟩
def ZkM (B : Bits) : Lev := ⟨⟨#[102, 105, 118, 101]⟩, 5, sel pre5 Zar B.b5 5, 0, 0⟩
def ZkN (B : Bits) : Lev := ⟨⟨#[116, 104, 114, 101, 101]⟩, 3, sel pre3 Zas B.b3 6, 0, 0⟩
def ZkO (B : Bits) : Lev := ⟨⟨#[111, 110, 101]⟩, 1, sel pre1 Zat B.b1 3, 0, 0⟩
def mk1 (B : Bits) (least cents : List UInt8) : List Lev := if B.f5 then Zc6 least cents [] (ZkM B) else []
def mk2 (B : Bits) (least cents : List UInt8) : List Lev := if B.f3 then Zc6 least cents (mk1 B least cents) (ZkN B) else mk1 B least cents
def mk3 (B : Bits) (least cents : List UInt8) : List Lev := if B.f1 then Zc6 least cents (mk2 B least cents) (ZkO B) else mk2 B least cents
def Z1O (B : Bits) (least cents : List UInt8) : List Lev := mk3 B least cents ++ [⟨⟨#[97, 108, 108]⟩, 0, [], 0, ((cents.getD (mk3 B least cents).length 0).toNat : Int)⟩]
theorem Zke (B : Bits) (least cents : List UInt8) : (mk1 B least cents).length <= 1 /\ (mk2 B least cents).length <= 2 /\ (mk3 B least cents).length <= 3 := by
 have h1 : (mk1 B least cents).length <= 1 := by unfold mk1 Zc6; split <;> simp
 have h2 : (mk2 B least cents).length <= 2 := by unfold mk2 Zc6; split <;> (try simp) <;> omega
 have h3 : (mk3 B least cents).length <= 3 := by unfold mk3 Zc6; split <;> (try simp) <;> omega
 exact ⟨h1, h2, h3⟩
def SR (wa : World) (nm : ByteArray) (pre : Int) (strs : Array Value) (labs : List Lab) (wr : World) : Prop :=
 Below wa.1.size wa wr /\ (∃ sv, wr.1[wa.1.size]? = some (.cells #[.string nm, .int .i64 pre, sv, .int .i64 0, .int .i64 0] 63 (0, 0)) /\ OwnsLab wr (wa.1.size + 1) sv labs) /\ wr.1[wa.1.size + 1]? = some (.cells strs 9 (0, 0))
theorem Z9B (wa : World) (nm : ByteArray) (pre : Int) (strs : Array Value) : SR wa nm pre strs [] ((wa.alloc (.cells #[.string nm, .int .i64 pre, .slice none 0 0, .int .i64 0, .int .i64 0] 63)).alloc (.cells strs 9)) := by
 have h := fun j o => @Z65 wa [.cells #[.string nm, .int .i64 pre, .slice none 0 0, .int .i64 0, .int .i64 0] 63, .cells strs 9] j o
 exact ⟨((Z9 _ wa).alloc (Z1 _) _).alloc (by simp) _, ⟨_, h 0 _ rfl, OwnsLab.nil _ _⟩, h 1 _ rfl⟩
theorem Zc7 {wa wr W : World} {nm : ByteArray} {pre : Int} {strs : Array Value} {labs : List Lab} (h : SR wa nm pre strs labs wr) (x : Lab) (hl : labs.length <= 100) {i0 : TypeInfo} (qK : Below wr.1.size wr W) (uI : wr.1.size < W.1.size) (sX : ∀ j u, (Z2m x)[j]? = some u -> W.cell? ((⟨wr.1.size, 0, none⟩ : Addr).add j) = some u) (hi : Tryz.prog.info? 150 = some i0 /\ i0.zero = some (.agg #[.string ⟨#[]⟩, .string ⟨#[]⟩]) /\ i0.size = 2 /\ i0.bytes = 32) :
 ∃ sa sc gv cv w1, wr.cell? ⟨wa.1.size, 2, none⟩ = some (.slice sa labs.length sc) /\ wa.1.size < wr.1.size /\
  (Builtin.append_ #[61, 61] 61 #[.slice sa labs.length sc, .slice (some ⟨wr.1.size, 0, none⟩) 1 1]).run Tryz.prog W = .ok (.slice (some ⟨gv, 0, none⟩) (labs.length + 1) cv) w1 /\
  w1.cell? ⟨wa.1.size, 2, none⟩ = some (.slice sa labs.length sc) /\ w1.frozen? ⟨wa.1.size, 2, none⟩ = false /\
  SR wa nm pre strs (labs ++ [x]) (w1.setCell ⟨wa.1.size, 2, none⟩ (.slice (some ⟨gv, 0, none⟩) (labs.length + 1) cv)) := by
 obtain ⟨h1, ⟨sv, h2, h3⟩, h4⟩ := h
 obtain ⟨sa, sc, rfl⟩ := OwnsLab.form h3
 have pA := (Z5.1 h2).1
 have qZ : OwnsLab W (wa.1.size + 1) (.slice sa labs.length sc) labs := h3.kept (Z0a qK) (Kbm _)
 obtain ⟨v', w1, hr, ho, hg, _⟩ := run_append_own (P := Tryz.prog) W (wa.1.size + 1) 61 61 150 i0 (.agg #[.string ⟨#[]⟩, .string ⟨#[]⟩]) 2 32 Tryz.underlying61 hi.1 hi.2.1 hi.2.2.1 hi.2.2.2 rfl (by decide) (.slice sa labs.length sc) labs.length (labs.flatMap Z2m) qZ ⟨wr.1.size, 0, none⟩ 1 1 (Z2m x) rfl sX (by simp [Value.oneCell', Z2m]) (by unfold maxLen; omega) (by omega) (by omega)
 obtain ⟨gv, cv, rfl⟩ := Joins.ownsRow_form ho (by omega)
 have nL := Z0t qZ (T := 63) (by decide)
 have nS := Z0t qZ (T := 9) (by decide)
 have k2 : W.1[wa.1.size]? = _ := (qK.block _ pA).trans h2
 have k4 : W.1[wa.1.size + 1]? = _ := (qK.block _ (Z5.1 h4).1).trans h4
 have m2 := Z14 hg k2 (fun g e => nL g e _ _)
 have m4 := Z14 hg k4 (fun g e => nS g e _ _)
 refine ⟨sa, sc, gv, cv, w1, Kaa _ _ 2 _ _ _ h2, pA, hr, Kaa _ _ 2 _ _ _ m2, frozen_of_row _ _ 2 _ _ m2, ?_, ⟨.slice (some ⟨gv, 0, none⟩) (labs.length + 1) cv, ?_, ?_⟩, ?_⟩
 ·have b1 : Below wa.1.size wa w1 := (Z01 h1 h1.size qK).grown hg (by have := h1.size; have := qK.size; omega) (fun r e => by have := (qZ.lt r e).1; omega)
  exact Z1h b1 (Z0P w1 ⟨wa.1.size, 2, none⟩ _) b1.size (Z1 _)
 ·exact heap_setCell_same w1 wa.1.size 2 _ _ _ m2
 ·have pH : ∀ g, some wa.1.size = some g -> ∀ cur fr, w1.1[g]? ≠ some (.cells cur 150 fr) := by
   intro g e cur fr e'
   injection e with e
   subst e
   rw [m2] at e'
   injection e' with e'
   injection e' with _ e' _
   exact absurd e' (by decide)
  have := Z0A ho (Z0P w1 ⟨wa.1.size, 2, none⟩ (.slice (some ⟨gv, 0, none⟩) (labs.length + 1) cv)) pH
  show (w1.setCell _ _).ownsRow _ _ _ _ _ _
  rw [Kai, ZC]
  simpa using this
 ·exact (ZA _ _ _ _ (by show wa.1.size + 1 ≠ wa.1.size; omega)).trans m4
theorem wpList_append_run {P : Program} {ops : Array Oper} {rest : List Oper} {o : Oper} {a : Act} {w : World} {Q : Exit -> Act -> World -> Prop} (rH : o.guard = none) (s x : Operand) (t : TypeId)
 (ho : o.op = .call { callee := .builtin .append, args := #[s, x], argTypes := #[t, t] }) {v u r : Value} {w' : World} (hr : (Builtin.append_ #[t, t] o.type #[v, u]).run P w = .ok r w') (hs : a.eval s = v) (hx : a.eval x = u)
 (h : wpList P ops Q rest (a.put o.dst r) w') : wpList P ops Q (o :: rest) a w := by
 refine wpList_plain rH fun K hK => ?_
 unfold Oper.wp execOp
 simp only [ho, resolve, invoke, builtin, Sem.run_bind, Sem.run_pure, Result.andThen_ok, List.map_toArray, Kan, Kbe, hs, hx, hr]
 exact hK _ _ h
theorem Z3u {P : Program} {ops : Array Oper} {o : Oper} {a : Act} {w : World} {K : Act -> World -> Prop} {Q : Exit -> Act -> World -> Prop} {E : Prop} (rH : o.guard = none) (s x : Operand) (t : TypeId)
 (ho : o.op = .call { callee := .builtin .append, args := #[s, x], argTypes := #[t, t] }) {v u r : Value} {w' : World} (hr : (Builtin.append_ #[t, t] o.type #[v, u]).run P w = .ok r w') (hs : a.eval s = v) (hx : a.eval x = u)
 (h : K (a.put o.dst r) w') : if Region.wanted o (yielded ops a.tmps) = true then o.wp P a w K Q else E := by
 rw [if_pos (by simp [Region.wanted, rH])]
 unfold Oper.wp execOp
 simp only [ho, resolve, invoke, builtin, Sem.run_bind, Sem.run_pure, Result.andThen_ok, List.map_toArray, Kan, Kbe, hs, hx, hr]
 exact h
theorem Z3A {w : World} {b b' : Nat} {e : TypeId} {size : Nat} {v : Value} {n : Nat} {xs : List Value} (h : w.ownsRow b e size v n xs) (hb : b' <= b) : w.ownsRow b' e size v n xs := by
 obtain ⟨h1, h2 | ⟨g, cap, cur, hv, hg, r⟩⟩ := h
 ·exact ⟨h1, .inl h2⟩
 ·exact ⟨h1, .inr ⟨g, cap, cur, hv, Kaw hb hg, r⟩⟩
end
section
open Go.RowKit
theorem Z5L {n m : Int} (h : bt n m = true) : 0 < bits BinOp.and IntKind.u32 n m := by unfold bt at h; simpa using h
theorem Z3V {n m : Int} (h : bt n m = false) : bits BinOp.and IntKind.u32 n m <= 0 := by unfold bt at h; simpa using h
theorem ZhM (n : Int) (vl vc : Value) (least cents : List UInt8) (w : World) (uJ : 0 <= n) (uK : n < 4294967296) (qI : RdBytes w vl least) (qE : RdBytes w vc cents) (qU : least.length <= maxLen) (qV : cents.length <= maxLen) :
 Calls Tryz.prog 25 #[.int .u32 n, vl, vc] w fun e w' => ∃ v, e = .returned v /\ Below w.1.size w w' /\ OwnsLv w' w.1.size v (Z1O (bitsOf n) least cents) := by
 obtain ⟨B, hB⟩ : ∃ B, bitsOf n = B := ⟨_, rfl⟩
 rw [hB]
 have HB := Z0 hB
 have rI := Z0 (Zke B least cents)
 have rA := Z0 (fun l sv out wx hM hsv pO rX hx => ZfJ l sv vl vc least cents out w wx qI qE qU qV hM hsv pO rX hx)
 unfold lvA at rA
 have qW := Z0 qE
 unfold maxLen at qV qU
 obtain ⟨la, lc, rfl, _⟩ := qI
 obtain ⟨ca, cc, rfl, _⟩ := qE
 obtain ⟨i0, hi⟩ := info_parts Tryz.infoB
 have HI := Z0 hi
 obtain ⟨i1, rZ⟩ := info_parts Tryz.infoL
 have pS := Z0 rZ
 clear hi rZ hB
 go_enter Tryz.func25, Tryz.ntmps25
 go_upto_if 22 with fail
 generalize pI : ((w.alloc (.cells #[.slice la least.length lc] 23)).alloc (.cells #[.slice ca cents.length cc] 23)).alloc (.cells #[.slice none 0 0] 31) = wa
 have hM : MR w (.slice la least.length lc) (.slice ca cents.length cc) [] wa := by
  rw [<- pI]
  have h := fun j o => @Z65 w [.cells #[.slice la least.length lc] 23, .cells #[.slice ca cents.length cc] 23, .cells #[.slice none 0 0] 31] j o
  exact ⟨(((Z9 _ w).alloc (Z1 _) _).alloc (by simp) _).alloc (by simp; omega) _, h 0 _ rfl, h 1 _ rfl, _, h 2 _ rfl, OwnsLv.nil _ _⟩
 have hx : w.1.size + 3 <= wa.1.size := by rw [<- pI]; simp
 clear pI
 go_cut [9] (fun _ wx => MR w (.slice la least.length lc) (.slice ca cents.length cc) (mk1 B least cents) wx /\ w.1.size + 3 <= wx.1.size)
 case first =>
  cases hf : bt n 1
  ·have HM : Hid (MR w (.slice la least.length lc) (.slice ca cents.length cc) (mk1 B least cents) wa) := by
    have e : B.f5 = false := by rw [<- HB.out]; exact hf
    unfold mk1; rw [e]; exact hM
   have hf' := Z3V hf
   have pD : decide (0 < bits BinOp.and IntKind.u32 n 1) = false := hf
   rw [pD]
   clear hf pD
   go_wp2_with fail
   go_meet
   exact ⟨HM.out, hx⟩
  ·have pT : B.f5 = true := by rw [<- HB.out]; exact hf
   have qL := Z0 pT
   have hf' := Z5L hf
   have pD : decide (0 < bits BinOp.and IntKind.u32 n 1) = true := hf
   rw [pD]
   clear hf pT pD
   go_wp2_with fail
   go_loopw [26] (fun i wr => ∃ k : Nat, k <= 5 /\ i = .int .i64 k /\ SR wa ⟨#[102, 105, 118, 101]⟩ 5 (pre5.map Value.string).toArray (sel pre5 Zar B.b5 k) wr) (fun i _ => 5 - (intOf i).toNat)
   case atStart => exact ⟨0, ZE _, rfl, Z9B wa _ _ _⟩
   case round =>
    obtain ⟨k, hk, rfl, hS⟩ := hrel
    by_cases pA : k < 5
    ·have pK : k < pre5.length := pA
     have pG := Z0 (Z8Y pre5 Zar B.b5 k pK)
     have pU : (sel pre5 Zar B.b5 k).length <= 100 := by have := Z5k pre5 Zar B.b5 k; omega
     obtain ⟨sa, sc, gv, cv, w1, c2, sA, pE, d2, dz, pV⟩ := Zc7 (W := (wr.alloc (.cells #[.string (Zar pre5[k]).pre, .string (Zar pre5[k]).grp] 150)).drew) hS (Zar pre5[k]) pU ((Z9 _ wr).alloc (Z1 _) _).drew (by simp) (by exact Z0f wr (Z2m (Zar pre5[k])) _) HI.out
     have cp : wr.cell? ⟨wa.1.size + 1, k, none⟩ = some (.string pre5[k]) := by
      rw [Kaa _ _ k _ _ _ hS.2.2]; simp [pK]
     have sB : wa.1.size + 1 < wr.1.size := (Z5.1 hS.2.2).1
     have qM : pre5[k].size = 5 := by
      have : k = 0 \/ k = 1 \/ k = 2 \/ k = 3 \/ k = 4 := by omega
      rcases this with rfl | rfl | rfl | rfl | rfl <;> rfl
     have qO : pre5[k].size <= 5 := by omega
     have qP : 5 <= pre5[k].size := by omega
     have pW : Hid (B.b5 k = bt (n / 2 ^ (3 + k)) 1) := by rw [<- HB.out]; exact rfl
     have HS := Z0 hS
     have pL := Z0 pV
     clear hS pV qM
     generalize sel pre5 Zar B.b5 k = labs at pG pU c2 pE d2 HS pL
     dsimp only [Zar] at pE
     generalize pre5[k] = p at cp qO qP pE pG pL
     cases hb : bt (n / 2 ^ (3 + k)) 1
     ·have hb' := Z3V hb
      have HE : Hid (sel pre5 Zar B.b5 (k + 1) = labs) := by rw [pG.out, pW.out, hb]; exact rfl
      clear hb pE
      go_wp2_with fail
      go_roundw
      case rel => exact ⟨k + 1, by omega, by go_num, by rw [HE.out]; exact HS.out⟩
      case measure => simp [intOf]; omega
     ·have hb' := Z5L hb
      have sY : (3 : Int) <= (p.size : Int) := by omega
      have sZ : ¬ 9223372036854775807 < 1 + min 3 p.size := by omega
      have HE : Hid (sel pre5 Zar B.b5 (k + 1) = labs ++ [Zar p]) := by rw [pG.out, pW.out, hb]; exact rfl
      clear hb
      go_wp2_with fail
      go_region_law (refine Z3u rfl (.tmp 38) (.tmp 44) 61 rfl pE (by simp [Act.eval]) (by simp [Act.eval]) ?_)
      all_goals
       go_wp2_with fail
       go_roundw
       case rel => exact ⟨k + 1, by omega, by go_num, by rw [HE.out]; exact pL.out⟩
       case measure => simp [intOf]; omega
    ·have pX : k = 5 := by omega
     obtain ⟨s1, ⟨sv, s2, s3⟩, s4⟩ := hS
     rw [pX] at s3
     have pY := hM.below s1
     have sC := s1.size
     have hA := rA.out (ZkM B) sv _ wr pY (Z3A s3 (by omega)) rfl (by simp) (by omega)
     obtain ⟨sa, sc, rfl⟩ := OwnsLab.form s3
     have y0 : wr.cell? ⟨wa.1.size, 0, none⟩ = _ := Kaa _ _ 0 _ _ _ s2
     have y1 : wr.cell? ⟨wa.1.size, 1, none⟩ = _ := Kaa _ _ 1 _ _ _ s2
     have y2 : wr.cell? ⟨wa.1.size, 2, none⟩ = _ := Kaa _ _ 2 _ _ _ s2
     have y3 : wr.cell? ⟨wa.1.size, 3, none⟩ = _ := Kaa _ _ 3 _ _ _ s2
     have y4 : wr.cell? ⟨wa.1.size, 4, none⟩ = _ := Kaa _ _ 4 _ _ _ s2
     simp at y0 y1 y2 y3 y4
     have HA := Z0 hA
     clear hA pY s2 s3 s4 pX
     go_wp2_with (go_at_call 61; refine HA.out.mono ?_; rintro e w2 ⟨rfl, pP, sD⟩; have qQ := Z0 pP; clear pP)
     go_meet
     exact ⟨by unfold mk1; rw [qL.out]; exact qQ.out, by omega⟩
 case rest =>
  clear hM hx
  obtain ⟨hM, hx⟩ := hcut
  clear wa
  obtain ⟨wa, pI⟩ : ∃ wa : World, wa = wc := ⟨_, rfl⟩
  rw [<- pI] at hM hx ⊢
  clear pI
  clear wc
  go_upto_if 53 with fail
  go_cut [12] (fun _ wx => MR w (.slice la least.length lc) (.slice ca cents.length cc) (mk2 B least cents) wx /\ w.1.size + 3 <= wx.1.size)
  case first =>
   cases hf : bt n 2
   ·have HM : Hid (MR w (.slice la least.length lc) (.slice ca cents.length cc) (mk2 B least cents) wa) := by
     have e : B.f3 = false := by rw [<- HB.out]; exact hf
     unfold mk2; rw [e]; exact hM
    have hf' := Z3V hf
    have pD : decide (0 < bits BinOp.and IntKind.u32 n 2) = false := hf
    rw [pD]
    clear hf pD
    go_wp2_with fail
    go_meet
    exact ⟨HM.out, hx⟩
   ·have pT : B.f3 = true := by rw [<- HB.out]; exact hf
    have qL := Z0 pT
    have hf' := Z5L hf
    have pD : decide (0 < bits BinOp.and IntKind.u32 n 2) = true := hf
    rw [pD]
    clear hf pT pD
    go_wp2_with fail
    go_loopw [57] (fun i wr => ∃ k : Nat, k <= 6 /\ i = .int .i64 k /\ SR wa ⟨#[116, 104, 114, 101, 101]⟩ 3 (pre3.map Value.string).toArray (sel pre3 Zas B.b3 k) wr) (fun i _ => 6 - (intOf i).toNat)
    case atStart => exact ⟨0, ZE _, rfl, Z9B wa _ _ _⟩
    case round =>
     obtain ⟨k, hk, rfl, hS⟩ := hrel
     by_cases pA : k < 6
     ·have pK : k < pre3.length := pA
      have pG := Z0 (Z8Y pre3 Zas B.b3 k pK)
      have pU : (sel pre3 Zas B.b3 k).length <= 100 := by have := Z5k pre3 Zas B.b3 k; omega
      obtain ⟨sa, sc, gv, cv, w1, c2, sA, pE, d2, dz, pV⟩ := Zc7 (W := (wr.alloc (.cells #[.string (Zas pre3[k]).pre, .string (Zas pre3[k]).grp] 150)).drew) hS (Zas pre3[k]) pU ((Z9 _ wr).alloc (Z1 _) _).drew (by simp) (by exact Z0f wr (Z2m (Zas pre3[k])) _) HI.out
      have cp : wr.cell? ⟨wa.1.size + 1, k, none⟩ = some (.string pre3[k]) := by
       rw [Kaa _ _ k _ _ _ hS.2.2]; simp [pK]
      have sB : wa.1.size + 1 < wr.1.size := (Z5.1 hS.2.2).1
      have qM : pre3[k].size = 3 := by
       have : k = 0 \/ k = 1 \/ k = 2 \/ k = 3 \/ k = 4 \/ k = 5 := by omega
       rcases this with rfl | rfl | rfl | rfl | rfl | rfl <;> rfl
      have qO : pre3[k].size <= 3 := by omega
      have qP : 3 <= pre3[k].size := by omega
      have pW : Hid (B.b3 k = bt (n / 2 ^ (8 + k)) 1) := by rw [<- HB.out]; exact rfl
      have HS := Z0 hS
      have pL := Z0 pV
      clear hS pV qM
      generalize sel pre3 Zas B.b3 k = labs at pG pU c2 pE d2 HS pL
      dsimp only [Zas] at pE
      generalize pre3[k] = p at cp qO qP pE pG pL
      cases hb : bt (n / 2 ^ (8 + k)) 1
      ·have hb' := Z3V hb
       have HE : Hid (sel pre3 Zas B.b3 (k + 1) = labs) := by rw [pG.out, pW.out, hb]; exact rfl
       clear hb pE
       go_wp2_with fail
       go_roundw
       case rel => exact ⟨k + 1, by omega, by go_num, by rw [HE.out]; exact HS.out⟩
       case measure => simp [intOf]; omega
      ·have hb' := Z5L hb
       have sY : (1 : Int) <= (p.size : Int) := by omega
       have sZ : ¬ 9223372036854775807 < 1 + min 1 p.size := by omega
       have HE : Hid (sel pre3 Zas B.b3 (k + 1) = labs ++ [Zas p]) := by rw [pG.out, pW.out, hb]; exact rfl
       clear hb
       go_wp2_with fail
       go_region_law (refine Z3u rfl (.tmp 69) (.tmp 75) 61 rfl pE (by simp [Act.eval]) (by simp [Act.eval]) ?_)
       all_goals
        go_wp2_with fail
        go_roundw
        case rel => exact ⟨k + 1, by omega, by go_num, by rw [HE.out]; exact pL.out⟩
        case measure => simp [intOf]; omega
     ·have pX : k = 6 := by omega
      obtain ⟨s1, ⟨sv, s2, s3⟩, s4⟩ := hS
      rw [pX] at s3
      have pY := hM.below s1
      have sC := s1.size
      have hA := rA.out (ZkN B) sv _ wr pY (Z3A s3 (by omega)) rfl (by have := rI.out; omega) (by omega)
      obtain ⟨sa, sc, rfl⟩ := OwnsLab.form s3
      have y0 : wr.cell? ⟨wa.1.size, 0, none⟩ = _ := Kaa _ _ 0 _ _ _ s2
      have y1 : wr.cell? ⟨wa.1.size, 1, none⟩ = _ := Kaa _ _ 1 _ _ _ s2
      have y2 : wr.cell? ⟨wa.1.size, 2, none⟩ = _ := Kaa _ _ 2 _ _ _ s2
      have y3 : wr.cell? ⟨wa.1.size, 3, none⟩ = _ := Kaa _ _ 3 _ _ _ s2
      have y4 : wr.cell? ⟨wa.1.size, 4, none⟩ = _ := Kaa _ _ 4 _ _ _ s2
      simp at y0 y1 y2 y3 y4
      have HA := Z0 hA
      clear hA pY s2 s3 s4 pX
      go_wp2_with (go_at_call 61; refine HA.out.mono ?_; rintro e w2 ⟨rfl, pP, sD⟩; have qQ := Z0 pP; clear pP)
      go_meet
      exact ⟨by unfold mk2; rw [qL.out]; exact qQ.out, by omega⟩
  case rest =>
   clear hM hx
   obtain ⟨hM, hx⟩ := hcut
   clear wa
   obtain ⟨wa, pI⟩ : ∃ wa : World, wa = wc := ⟨_, rfl⟩
   rw [<- pI] at hM hx ⊢
   clear pI
   clear wc
   go_upto_if 84 with fail
   go_cut [15] (fun _ wx => MR w (.slice la least.length lc) (.slice ca cents.length cc) (mk3 B least cents) wx /\ w.1.size + 3 <= wx.1.size)
   case first =>
    cases hf : bt n 4
    ·have HM : Hid (MR w (.slice la least.length lc) (.slice ca cents.length cc) (mk3 B least cents) wa) := by
      have e : B.f1 = false := by rw [<- HB.out]; exact hf
      unfold mk3; rw [e]; exact hM
     have hf' := Z3V hf
     have pD : decide (0 < bits BinOp.and IntKind.u32 n 4) = false := hf
     rw [pD]
     clear hf pD
     go_wp2_with fail
     go_meet
     exact ⟨HM.out, hx⟩
    ·have pT : B.f1 = true := by rw [<- HB.out]; exact hf
     have qL := Z0 pT
     have hf' := Z5L hf
     have pD : decide (0 < bits BinOp.and IntKind.u32 n 4) = true := hf
     rw [pD]
     clear hf pT pD
     go_wp2_with fail
     go_loopw [88] (fun i wr => ∃ k : Nat, k <= 3 /\ i = .int .i64 k /\ SR wa ⟨#[111, 110, 101]⟩ 1 (pre1.map Value.string).toArray (sel pre1 Zat B.b1 k) wr) (fun i _ => 3 - (intOf i).toNat)
     case atStart => exact ⟨0, ZE _, rfl, Z9B wa _ _ _⟩
     case round =>
      obtain ⟨k, hk, rfl, hS⟩ := hrel
      by_cases pA : k < 3
      ·have pK : k < pre1.length := pA
       have pG := Z0 (Z8Y pre1 Zat B.b1 k pK)
       have pU : (sel pre1 Zat B.b1 k).length <= 100 := by have := Z5k pre1 Zat B.b1 k; omega
       obtain ⟨sa, sc, gv, cv, w1, c2, sA, pE, d2, dz, pV⟩ := Zc7 (W := (wr.alloc (.cells #[.string (Zat pre1[k]).pre, .string (Zat pre1[k]).grp] 150))) hS (Zat pre1[k]) pU ((Z9 _ wr).alloc (Z1 _) _) (by simp) (by exact Z0f wr (Z2m (Zat pre1[k])) _) HI.out
       have cp : wr.cell? ⟨wa.1.size + 1, k, none⟩ = some (.string pre1[k]) := by
        rw [Kaa _ _ k _ _ _ hS.2.2]; simp [pK]
       have sB : wa.1.size + 1 < wr.1.size := (Z5.1 hS.2.2).1
       have qM : pre1[k].size = 1 := by
        have : k = 0 \/ k = 1 \/ k = 2 := by omega
        rcases this with rfl | rfl | rfl <;> rfl
       have qO : pre1[k].size <= 1 := by omega
       have qP : 1 <= pre1[k].size := by omega
       have pW : Hid (B.b1 k = bt (n / 2 ^ (14 + k)) 1) := by rw [<- HB.out]; exact rfl
       have HS := Z0 hS
       have pL := Z0 pV
       clear hS pV qM
       generalize sel pre1 Zat B.b1 k = labs at pG pU c2 pE d2 HS pL
       dsimp only [Zat] at pE
       generalize pre1[k] = p at cp qO qP pE pG pL
       cases hb : bt (n / 2 ^ (14 + k)) 1
       ·have hb' := Z3V hb
        have HE : Hid (sel pre1 Zat B.b1 (k + 1) = labs) := by rw [pG.out, pW.out, hb]; exact rfl
        clear hb pE
        go_wp2_with fail
        go_roundw
        case rel => exact ⟨k + 1, by omega, by go_num, by rw [HE.out]; exact HS.out⟩
        case measure => simp [intOf]; omega
       ·have hb' := Z5L hb
        have HE : Hid (sel pre1 Zat B.b1 (k + 1) = labs ++ [Zat p]) := by rw [pG.out, pW.out, hb]; exact rfl
        clear hb
        go_wp2_with (at_builtin; refine wpList_append_run rfl (.tmp 100) (.tmp 103) 61 rfl pE rfl rfl ?_)
        go_roundw
        case rel => exact ⟨k + 1, by omega, by go_num, by rw [HE.out]; exact pL.out⟩
        case measure => simp [intOf]; omega
      ·have pX : k = 3 := by omega
       obtain ⟨s1, ⟨sv, s2, s3⟩, s4⟩ := hS
       rw [pX] at s3
       have pY := hM.below s1
       have sC := s1.size
       have hA := rA.out (ZkO B) sv _ wr pY (Z3A s3 (by omega)) rfl (by have := rI.out; omega) (by omega)
       obtain ⟨sa, sc, rfl⟩ := OwnsLab.form s3
       have y0 : wr.cell? ⟨wa.1.size, 0, none⟩ = _ := Kaa _ _ 0 _ _ _ s2
       have y1 : wr.cell? ⟨wa.1.size, 1, none⟩ = _ := Kaa _ _ 1 _ _ _ s2
       have y2 : wr.cell? ⟨wa.1.size, 2, none⟩ = _ := Kaa _ _ 2 _ _ _ s2
       have y3 : wr.cell? ⟨wa.1.size, 3, none⟩ = _ := Kaa _ _ 3 _ _ _ s2
       have y4 : wr.cell? ⟨wa.1.size, 4, none⟩ = _ := Kaa _ _ 4 _ _ _ s2
       simp at y0 y1 y2 y3 y4
       have HA := Z0 hA
       clear hA pY s2 s3 s4 pX
       go_wp2_with (go_at_call 61; refine HA.out.mono ?_; rintro e w2 ⟨rfl, pP, sD⟩; have qQ := Z0 pP; clear pP)
       go_meet
       exact ⟨by unfold mk3; rw [qL.out]; exact qQ.out, by omega⟩
   case rest =>
    clear hM hx
    obtain ⟨hM, hx⟩ := hcut
    clear wa
    obtain ⟨wa, pI⟩ : ∃ wa : World, wa = wc := ⟨_, rfl⟩
    rw [<- pI] at hM hx ⊢
    clear pI
    clear wc
    obtain ⟨h1, h2, h3, v, h4, L, hL, hLr, hLo⟩ := hM
    have uL := rI.out.2.2
    have pR : L.length = (mk3 B least cents).length := by rw [<- hL, Z7]
    rw [pR] at hLo
    obtain ⟨a, cap, rfl⟩ : ∃ a cap, v = .slice a (mk3 B least cents).length cap := by
     rcases Joins.ownsRow_forms hLo with ⟨rfl, hp⟩ | ⟨g, cap, rfl⟩
     ·exact ⟨none, 0, by rw [hp]⟩
     ·exact ⟨_, cap, rfl⟩
    have x1 := cell_of_one h3
    have x2 := cell_of_one h4
    have sV : w.1.size + 2 < wa.1.size := by omega
    have sW : w.1.size + 1 < wa.1.size := by omega
    have H1 := Z0 h1
    have HL := Z0 hL
    have pQ := Z0 pR
    have qJ := Z0 hLr
    have FIN : Hid (∀ (c : Int) (v' : Value) (w2 : World) (o1 o2 : Obj), c = ((cents.getD (mk3 B least cents).length 0).toNat : Int) -> w2.ownsRow (w.1.size + 3) 63 5 v' ((mk3 B least cents).length + 1) (L.flatMap Z21 ++ Z21 (⟨⟨#[97, 108, 108]⟩, 0, [], 0, c⟩, .slice none 0 0)) -> ((wa.alloc o1).alloc o2).grownBy w2 (Value.slice a (mk3 B least cents).length cap).ownBlock -> Below w.1.size w w2 /\ OwnsLv w2 w.1.size v' (Z1O B least cents)) := by
     intro c v' w2 o1 o2 hc ho hg
     have tA := (hLo.alloc o1).alloc o2
     refine ⟨((h1.alloc h1.size o1).alloc (by have := h1.size; simp; omega) o2).grown hg (by have := h1.size; simp; omega) (fun r e => by have := (hLo.lt r e).1; omega), L ++ [(⟨⟨#[97, 108, 108]⟩, 0, [], 0, c⟩, .slice none 0 0)], ?_, ?_, ?_⟩
     ·rw [ZD, hL]; unfold Z1O; rw [hc]; rfl
     ·intro p hp
      have nA := Z0t tA (T := 150) (by decide)
      rcases ZG.1 hp with hp | hp
      ·exact Z3A (Z0A (((hLr p hp).alloc o1).alloc o2) hg (fun g e => nA g e)) (by omega)
      ·rw [ZI.1 hp]; exact OwnsLab.nil _ _
     ·rw [Kai, ZC, pR]
      have := Z3A ho (b' := w.1.size) (by omega)
      simpa using this
    clear h1 h2 h3 h4 hL hLr pR
    by_cases k2 : (mk3 B least cents).length < cents.length
    ·obtain ⟨g2, o2, rfl, gg2, c2⟩ := byte_of qW.out rfl H1.out k2
     have e2 := Z0 (getD_lt k2)
     have bb3 : (cents[(mk3 B least cents).length].toNat : Int) <= 255 := by have := cents[(mk3 B least cents).length].toNat_lt; omega
     have bb4 : 0 <= (cents[(mk3 B least cents).length].toNat : Int) := by omega
     go_wp2_with (at_builtin; refine wpList_append_own _ rfl _ _ 31 rfl (w.1.size + 3) 63 i1 (.agg #[.string ⟨#[]⟩, .int .i64 0, .slice none 0 0, .int .i64 0, .int .i64 0]) 5 64 Tryz.underlying31 pS.out.1 pS.out.2.1 pS.out.2.2.1 pS.out.2.2.2 rfl (by decide) _ _ _ rfl ((hLo.alloc _).alloc _) ⟨wa.1.size + 1, 0, none⟩ 1 1 (Z21 (⟨⟨#[97, 108, 108]⟩, 0, [], 0, (cents[(mk3 B least cents).length].toNat : Int)⟩, .slice none 0 0)) rfl rfl (Z2f _ _ (by simp) _ _) (by simp [Value.oneCell', Z21]) (by unfold maxLen; omega) (by omega) (by simp; omega) ?_; intro v' w2 pB pC _)
     go_ret
     obtain ⟨f1, f2⟩ := FIN.out _ _ _ _ _ (by rw [e2.out]) pB pC
     exact ⟨_, rfl, f1, f2⟩
    ·have e2 := Z0 (Z7t k2)
     go_wp2_with (at_builtin; refine wpList_append_own _ rfl _ _ 31 rfl (w.1.size + 3) 63 i1 (.agg #[.string ⟨#[]⟩, .int .i64 0, .slice none 0 0, .int .i64 0, .int .i64 0]) 5 64 Tryz.underlying31 pS.out.1 pS.out.2.1 pS.out.2.2.1 pS.out.2.2.2 rfl (by decide) _ _ _ rfl ((hLo.alloc _).alloc _) ⟨wa.1.size + 1, 0, none⟩ 1 1 (Z21 (⟨⟨#[97, 108, 108]⟩, 0, [], 0, 0⟩, .slice none 0 0)) rfl rfl (Z2f _ _ (by simp) _ _) (by simp [Value.oneCell', Z21]) (by unfold maxLen; omega) (by omega) (by simp; omega) ?_; intro v' w2 pB pC _)
     go_ret
     obtain ⟨f1, f2⟩ := FIN.out _ _ _ _ _ (by rw [e2.out]; rfl) pB pC
     exact ⟨_, rfl, f1, f2⟩
end
section
open Go.RowKit
def ZgA : Nat -> List (List Bool)
 | 0 => [[]]
 | n + 1 => (ZgA n).flatMap (fun l => [false :: l, true :: l])
theorem Zaj : ∀ l : List Bool, l ∈ ZgA l.length
 | [] => by simp [ZgA]
 | b :: l => by
  rw [Ka9]
  unfold ZgA
  rw [Ka5]
  refine ⟨l, Zaj l, ?_⟩
  cases b <;> simp
def ZjX (f : ByteArray -> Lab) : List ByteArray -> List Bool -> List Lab
 | c :: cs, b :: bs => if b then f c :: ZjX f cs bs else ZjX f cs bs
 | _, _ => []
theorem Zck (f : ByteArray -> Lab) (b : Nat -> Bool) : ∀ (cands : List ByteArray) (s : Nat) (all : List ByteArray), (∀ i, cands[i]? = all[s + i]?) ->
 (((List.range' s cands.length).filter b).map (fun i => f (all.getD i ⟨#[]⟩))) = ZjX f cands ((List.range' s cands.length).map b)
 | [], s, all, h => rfl
 | c :: cs, s, all, h => by
  rw [Ka9, List.range'_succ, Kan]
  have hc : all.getD s ⟨#[]⟩ = c := by
   have := h 0
   rw [Z2, <- show all[s + 0]? = all[s]? from rfl, <- this]; rfl
  have ih := Zck f b cs (s + 1) all (fun i => by have := h (i + 1); rw [Kdf] at this; rw [this]; congr 1; omega)
  unfold ZjX
  cases hb : b s
  ·rw [Kbz (by simpa using hb), if_neg (by simp)]; exact ih
  ·rw [Kby (by simpa using hb), if_pos rfl, Kan, hc, ih]
theorem Zk8 (f : ByteArray -> Lab) (b : Nat -> Bool) (cands : List ByteArray) : sel cands f b cands.length = ZjX f cands ((List.range cands.length).map b) := by
 unfold sel
 have := Zck f b cands 0 cands (fun i => by rw [Ka0])
 rw [List.range_eq_range']
 exact this
theorem Zbc {P : List Lab -> Bool} (f : ByteArray -> Lab) (cands : List ByteArray) (k : Nat) (hk : k = cands.length) (h : (ZgA k).all (fun bs => P (ZjX f cands bs)) = true) (b : Nat -> Bool) : P (sel cands f b k) = true := by
 subst hk
 rw [Zk8]
 refine Kbk.1 h _ ?_
 have := Zaj ((List.range cands.length).map b)
 simpa using this
def Zaq (p : Int) (labs : List Lab) : Bool := labs.all (fun x => decide ((x.pre.size : Int) = p) && Z1D x.pre && Z2k x.grp) && Z5h labs
def Z2H (p : Int) (m : Nat) (labs : List Lab) : Bool :=
 (labs.flatMap (Z0Q ⟨⟨#[]⟩, p, labs, 0, 0⟩)).all (fun x => (labs.flatMap (Z0Q ⟨⟨#[]⟩, p, labs, 0, 0⟩)).all (fun y => !decide (x.1 = y.1) || decide (x.2.extract 0 m = y.2.extract 0 m)))
def ZkA (labs : List Lab) : Bool := Zaq 5 labs && Z2H 5 3 labs && Z2H 5 1 labs && Z2H 5 0 labs
def ZkB (labs : List Lab) : Bool := Zaq 3 labs && Z2H 3 1 labs && Z2H 3 0 labs
def ZkC (labs : List Lab) : Bool := Zaq 1 labs && Z2H 1 0 labs
theorem ok5 (b : Nat -> Bool) : ZkA (sel pre5 Zar b 5) = true := Zbc Zar pre5 5 rfl (by kernel_rfl) b
theorem ok3 (b : Nat -> Bool) : ZkB (sel pre3 Zas b 6) = true := Zbc Zas pre3 6 rfl (by kernel_rfl) b
theorem ok1 (b : Nat -> Bool) : ZkC (sel pre1 Zat b 3) = true := Zbc Zat pre1 3 rfl (by kernel_rfl) b
theorem Zfl (l : Lev) : Z0Q l = Z0Q ⟨⟨#[]⟩, l.pre, l.labs, 0, 0⟩ := rfl
theorem Z2e {l next : Lev} (h : Z2H l.pre next.pre.toNat l.labs = true) : Z77 l next = true := by
 rw [Zaf]
 unfold Z2H at h
 rw [<- Zfl] at h
 simp only [Kbk, Bool.or_eq_true, Bool.not_eq_true', decide_eq_false_iff_not, Kab] at h
 intro x hx y hy e
 rcases h x hx y hy with h' | h'
 ·exact absurd e h'
 ·unfold Z0e; rw [h']
theorem Z5C {l : Lev} (hn : Z2k l.name = true) (hp : 0 <= l.pre /\ l.pre <= 10) (hm : 1 <= l.min /\ l.min <= 2000) (hc : 0 <= l.cents /\ l.cents <= 1000000) (hl : Zaq l.pre l.labs = true) : Z3l l false = true := by
 unfold Zaq at hl
 rw [ZF] at hl
 unfold Z3l Z4h
 rw [hn]
 simp only [Bool.true_and, ZF, Kab, Kcc, if_false]
 exact ⟨⟨hp.1, hp.2, hc.1, hc.2⟩, ⟨⟨hm.1, hm.2⟩, hl.1⟩, hl.2⟩
theorem Ze7 {labs : List Lab} (h : ZkA labs = true) : Zaq 5 labs = true /\ Z2H 5 3 labs = true /\ Z2H 5 1 labs = true /\ Z2H 5 0 labs = true := by unfold ZkA at h; simpa [ZF, and_assoc] using h
theorem Ze8 {labs : List Lab} (h : ZkB labs = true) : Zaq 3 labs = true /\ Z2H 3 1 labs = true /\ Z2H 3 0 labs = true := by unfold ZkB at h; simpa [ZF, and_assoc] using h
theorem Ze9 {labs : List Lab} (h : ZkC labs = true) : Zaq 1 labs = true /\ Z2H 1 0 labs = true := by unfold ZkC at h; simpa [ZF, and_assoc] using h
theorem Zc3 (x : UInt8) : 0 <= (x.toNat : Int) /\ (x.toNat : Int) <= 255 := by have := x.toNat_lt; omega
theorem ZhL (f5 f3 f1 : Bool) (labs5 labs3 labs1 : List Lab) (h5 : ZkA labs5 = true) (h3 : ZkB labs3 = true) (h1 : ZkC labs1 = true) (s5 : labs5.length <= 5) (s3 : labs3.length <= 6) (s1 : labs1.length <= 3) (m5 m3 m1 c5 c3 c1 c0 : Int) (tB : 1 <= m5 /\ m5 <= 2000) (tC : 1 <= m3 /\ m3 <= 2000) (tD : 1 <= m1 /\ m1 <= 2000) (tE : 0 <= c5 /\ c5 <= 1000000) (tF : 0 <= c3 /\ c3 <= 1000000) (tG : 0 <= c1 /\ c1 <= 1000000) (pO : 0 <= c0 /\ c0 <= 1000000) :
 Zcp ((if f5 then [⟨⟨#[102, 105, 118, 101]⟩, 5, labs5, m5, c5⟩] else []) ++ (if f3 then [⟨⟨#[116, 104, 114, 101, 101]⟩, 3, labs3, m3, c3⟩] else []) ++ (if f1 then [⟨⟨#[111, 110, 101]⟩, 1, labs1, m1, c1⟩] else []) ++ [⟨⟨#[97, 108, 108]⟩, 0, [], 0, c0⟩]) = true := by
 obtain ⟨a0, a1, a2, a3⟩ := Ze7 h5
 obtain ⟨b0, b1, b2⟩ := Ze8 h3
 obtain ⟨d0, d1⟩ := Ze9 h1
 have L5 : Z3l ⟨⟨#[102, 105, 118, 101]⟩, 5, labs5, m5, c5⟩ false = true := Z5C (by kernel_rfl) ⟨by show (0 : Int) <= 5; decide, by show (5 : Int) <= 10; decide⟩ tB tE a0
 have L3 : Z3l ⟨⟨#[116, 104, 114, 101, 101]⟩, 3, labs3, m3, c3⟩ false = true := Z5C (by kernel_rfl) ⟨by show (0 : Int) <= 3; decide, by show (3 : Int) <= 10; decide⟩ tC tF b0
 have L1 : Z3l ⟨⟨#[111, 110, 101]⟩, 1, labs1, m1, c1⟩ false = true := Z5C (by kernel_rfl) ⟨by show (0 : Int) <= 1; decide, by show (1 : Int) <= 10; decide⟩ tD tG d0
 have L0 : Z3l ⟨⟨#[97, 108, 108]⟩, 0, [], 0, c0⟩ true = true := by
  unfold Z3l Z4h
  have : Z2k ⟨#[97, 108, 108]⟩ = true := by kernel_rfl
  simp [this, pO.1, pO.2]
 have N53 : Z77 ⟨⟨#[102, 105, 118, 101]⟩, 5, labs5, m5, c5⟩ ⟨⟨#[116, 104, 114, 101, 101]⟩, 3, labs3, m3, c3⟩ = true := Z2e a1
 have N51 : Z77 ⟨⟨#[102, 105, 118, 101]⟩, 5, labs5, m5, c5⟩ ⟨⟨#[111, 110, 101]⟩, 1, labs1, m1, c1⟩ = true := Z2e a2
 have N50 : Z77 ⟨⟨#[102, 105, 118, 101]⟩, 5, labs5, m5, c5⟩ ⟨⟨#[97, 108, 108]⟩, 0, [], 0, c0⟩ = true := Z2e a3
 have N31 : Z77 ⟨⟨#[116, 104, 114, 101, 101]⟩, 3, labs3, m3, c3⟩ ⟨⟨#[111, 110, 101]⟩, 1, labs1, m1, c1⟩ = true := Z2e b1
 have N30 : Z77 ⟨⟨#[116, 104, 114, 101, 101]⟩, 3, labs3, m3, c3⟩ ⟨⟨#[97, 108, 108]⟩, 0, [], 0, c0⟩ = true := Z2e b2
 have N10 : Z77 ⟨⟨#[111, 110, 101]⟩, 1, labs1, m1, c1⟩ ⟨⟨#[97, 108, 108]⟩, 0, [], 0, c0⟩ = true := Z2e d1
 have e1 : decide ((⟨#[102, 105, 118, 101]⟩ : ByteArray) = ⟨#[116, 104, 114, 101, 101]⟩) = false := by kernel_rfl
 have e2 : decide ((⟨#[102, 105, 118, 101]⟩ : ByteArray) = ⟨#[111, 110, 101]⟩) = false := by kernel_rfl
 have e3 : decide ((⟨#[102, 105, 118, 101]⟩ : ByteArray) = ⟨#[97, 108, 108]⟩) = false := by kernel_rfl
 have e4 : decide ((⟨#[116, 104, 114, 101, 101]⟩ : ByteArray) = ⟨#[111, 110, 101]⟩) = false := by kernel_rfl
 have e5 : decide ((⟨#[116, 104, 114, 101, 101]⟩ : ByteArray) = ⟨#[97, 108, 108]⟩) = false := by kernel_rfl
 have e6 : decide ((⟨#[111, 110, 101]⟩ : ByteArray) = ⟨#[97, 108, 108]⟩) = false := by kernel_rfl
 cases f5 <;> cases f3 <;> cases f1
 all_goals
  simp only [Kcc, if_false, if_true, Kca, Kc9]
  unfold Zcp
  simp only [Z5B, Zag, ZaQ, L5, L3, L1, L0, N53, N51, N50, N31, N30, N10, e1, e2, e3, e4, e5, e6, List.all_cons, List.all_nil, Bool.not_false, Bool.and_true, Bool.and_self]
  simp
  try omega
theorem ZdQ (B : Bits) (least cents : List UInt8) : Z0g (Z1O B least cents) = true := by
 rw [Z9X]
 have hb : ∀ l : List UInt8, ∀ i, 1 <= 1 + ((l.getD i 0).toNat : Int) /\ 1 + ((l.getD i 0).toNat : Int) <= 2000 := fun l i => by have := Zc3 (l.getD i 0); omega
 have hc : ∀ l : List UInt8, ∀ i, 0 <= ((l.getD i 0).toNat : Int) /\ ((l.getD i 0).toNat : Int) <= 1000000 := fun l i => by have := Zc3 (l.getD i 0); omega
 obtain ⟨m5, c5, e1⟩ : ∃ i j : Nat, mk1 B least cents = if B.f5 then [⟨⟨#[102, 105, 118, 101]⟩, 5, sel pre5 Zar B.b5 5, 1 + ((least.getD i 0).toNat : Int), ((cents.getD j 0).toNat : Int)⟩] else [] := ⟨0, 0, by unfold mk1 Zc6 ZkM; rfl⟩
 obtain ⟨m3, c3, e2⟩ : ∃ i j : Nat, mk2 B least cents = mk1 B least cents ++ if B.f3 then [⟨⟨#[116, 104, 114, 101, 101]⟩, 3, sel pre3 Zas B.b3 6, 1 + ((least.getD i 0).toNat : Int), ((cents.getD j 0).toNat : Int)⟩] else [] := ⟨(mk1 B least cents).length, (mk1 B least cents).length, by unfold mk2 Zc6 ZkN; split <;> simp⟩
 obtain ⟨m1, c1, e3⟩ : ∃ i j : Nat, mk3 B least cents = mk2 B least cents ++ if B.f1 then [⟨⟨#[111, 110, 101]⟩, 1, sel pre1 Zat B.b1 3, 1 + ((least.getD i 0).toNat : Int), ((cents.getD j 0).toNat : Int)⟩] else [] := ⟨(mk2 B least cents).length, (mk2 B least cents).length, by unfold mk3 Zc6 ZkO; split <;> simp⟩
 unfold Z1O
 generalize (mk3 B least cents).length = n0
 rw [e3, e2, e1]
 exact ZhL B.f5 B.f3 B.f1 _ _ _ (ok5 _) (ok3 _) (ok1 _) (Z5k _ _ _ _) (Z5k _ _ _ _) (Z5k _ _ _ _) _ _ _ _ _ _ _ (hb _ _) (hb _ _) (hb _ _) (hc _ _) (hc _ _) (hc _ _) (hc _ _)
theorem extract_extract (c : ByteArray) {n m : Nat} (h : m <= n) : (c.extract 0 n).extract 0 m = c.extract 0 m := by
 apply Z7B
 simp
 omega
theorem Z4D {c : ByteArray} (h : Z1D c = true) (n : Nat) : Z1D (c.extract 0 n) = true := by
 unfold Z1D Zek at *
 rw [Kbk] at *
 intro x hx
 refine h x ?_
 have : (c.extract 0 n).data.toList = c.data.toList.take n := by simp
 rw [this] at hx
 exact Kcg hx
theorem ZdM {l next : Lev} (hn : Z5t l next) (h0 : 0 <= next.pre) (h1 : next.pre <= l.pre) {c d : ByteArray} (rJ : Z1D c = true) (rK : Z1D d = true) (hc : l.pre <= c.size) (hd : l.pre <= d.size) (h : Z0e l c = Z0e l d) : Z0e next c = Z0e next d := by
 have up : ∀ x : ByteArray, Z0e next (x.extract 0 l.pre.toNat) = Z0e next x := fun x => by unfold Z0e; rw [extract_extract x (by omega)]
 rw [<- up c, <- up d]
 have sz : ∀ x : ByteArray, l.pre <= x.size -> ((x.extract 0 l.pre.toNat).size : Int) = l.pre := fun x hx => by rw [ByteArray.size_extract]; omega
 have mem : ∀ (x y : ByteArray), Z1I l.labs x = some y -> (y, x) ∈ l.labs.flatMap (Z0Q l) := fun x y pM => by
  unfold Z1I at pM
  cases hf : l.labs.find? (fun z => decide (z.pre = x)) with
  | none => rw [hf] at pM; cases pM
  | some z =>
   rw [hf] at pM
   have hz := Kc6 hf
   have tH : z.pre = x := by simpa using List.find?_some hf
   have rL : z.grp = y := by simpa using pM
   exact Ka5.2 ⟨z, hz, by unfold Z0Q; rw [tH, rL]; exact Kaf⟩
 have own : ∀ (x y : ByteArray), Z1I l.labs x = some y -> (y.size : Int) = l.pre -> Z1D y = true -> Z1I l.labs y = none -> (y, y) ∈ l.labs.flatMap (Z0Q l) := fun x y pM h1 h2 h3 => by
  unfold Z1I at pM
  cases hf : l.labs.find? (fun z => decide (z.pre = x)) with
  | none => rw [hf] at pM; cases pM
  | some z =>
   rw [hf] at pM
   have hz := Kc6 hf
   have rL : z.grp = y := by simpa using pM
   refine Ka5.2 ⟨z, hz, ?_⟩
   unfold Z0Q ownB
   rw [rL, h3, h2]
   simp [h1]
 unfold Z0e at h
 have sc := sz c hc
 have sd := sz d hd
 have pc := Z4D rJ l.pre.toNat
 have pd := Z4D rK l.pre.toNat
 generalize c.extract 0 l.pre.toNat = x at h sc pc
 generalize d.extract 0 l.pre.toNat = y at h sd pd
 clear sz up
 cases e1 : Z1I l.labs x with
 | some a =>
  rw [e1] at h
  cases e2 : Z1I l.labs y with
  | some b =>
   rw [e2, Kcu, Kcu] at h
   subst h
   exact hn (a, x) (mem x a e1) (a, y) (mem y a e2) rfl
  | none =>
   rw [e2, Kcu, Option.getD_none] at h
   subst h
   exact hn (a, x) (mem x a e1) (a, a) (own x a e1 sd pd e2) rfl
 | none =>
  rw [e1] at h
  cases e2 : Z1I l.labs y with
  | some b =>
   rw [e2, Kcu, Option.getD_none] at h
   subst h
   exact hn (x, x) (own y x e2 sc pc e1) (x, y) (mem y x e2) rfl
  | none =>
   rw [e2, Option.getD_none, Option.getD_none] at h
   rw [h]
end
section
open Go.RowKit
theorem Z1A {ls : List Lev} (h : Z0g ls = true) : ∀ l ∈ ls, Z0K l := by
 intro l hl
 obtain ⟨i, hi, rfl⟩ := Kau.1 hl
 obtain ⟨_, _, ⟨hs, tI, _, _⟩, _⟩ := Z0I.1 h
 obtain ⟨hh, hr⟩ := Z1a.1 (tI i hi hi)
 obtain ⟨hn, _⟩ := Z1S hh
 have nm : ∀ s : ByteArray, Z2k s = true -> s.size <= maxLen := fun s hs => by
  unfold Z2k at hs
  simp at hs
  unfold maxLen
  omega
 have qH : ls[i].labs.length <= 200 := by
  have h1 := Z5f ls i hi
  have h2 := Z83 ls (show i + 1 <= ls.length from hi)
  omega
 refine ⟨nm _ hn, by omega, fun x hx => ?_⟩
 obtain ⟨k, hk, rfl⟩ := Kau.1 hx
 cases hb : decide (i + 1 = ls.length)
 ·rw [hb] at hr
  simp only [Kcc, if_false] at hr
  have := (hr.2 k hk hk).1
  have hf := (Z36 h i hi).2.1 _ (Z4 hk)
  have uM := (Z36 h i hi).2.2.2
  unfold Z7e at this
  simp only [ZF] at this
  exact ⟨by unfold maxLen; omega, nm _ this.2⟩
 ·rw [hb] at hr
  simp only [if_true] at hr
  omega
theorem Zi4 (x : UInt8) : Z0G (Z3J x) = true := by
 have h : (List.range 256).all (fun n => Z0G (Z3J (UInt8.ofNat n))) = true := by kernel_rfl
 have := Kbk.1 h x.toNat (Ka8.2 x.toNat_lt)
 simpa using this
theorem Z9z {least cents : List UInt8} {out : List Lev} {l : Lev} (h : ∀ x ∈ out, x.pre <= 5) (hl : l.pre <= 5) : ∀ x ∈ Zc6 least cents out l, x.pre <= 5 := by
 unfold Zc6
 intro x hx
 rcases ZG.1 hx with hx | hx
 ·exact h x hx
 ·rw [ZI.1 hx]; exact hl
theorem ZhK (B : Bits) (least cents : List UInt8) : ∀ l ∈ Z1O B least cents, l.pre <= 5 := by
 have h1 : ∀ x ∈ mk1 B least cents, x.pre <= 5 := by
  unfold mk1
  split
  ·exact Z9z (by simp) (by show (5 : Int) <= 5; decide)
  ·simp
 have h2 : ∀ x ∈ mk2 B least cents, x.pre <= 5 := by
  unfold mk2
  split
  ·exact Z9z h1 (by show (3 : Int) <= 5; decide)
  ·exact h1
 have h3 : ∀ x ∈ mk3 B least cents, x.pre <= 5 := by
  unfold mk3
  split
  ·exact Z9z h2 (by show (1 : Int) <= 5; decide)
  ·exact h2
 intro l hl
 unfold Z1O at hl
 rcases ZG.1 hl with hl | hl
 ·exact h3 l hl
 ·rw [ZI.1 hl]; show (0 : Int) <= 5; decide
theorem Z7z {c : ByteArray} (h : Z0G c = true) : Z1D c = true := by unfold Z0G at h; simp at h; exact h.2
theorem Z8g {ls : List Lev} {c d : ByteArray} (h : Z0g ls = true) (hc : Z0G c = true) (hd : Z0G d = true) (rJ : ∀ l ∈ ls, l.pre <= c.size) (rK : ∀ l ∈ ls, l.pre <= d.size) (i : Nat) (hi : i + 1 < ls.length) (e : Z0e ls[i] c = Z0e ls[i] d) : Z0e ls[i + 1] c = Z0e ls[i + 1] d := by
 obtain ⟨_, _, ⟨_, _, _, hm⟩, hn⟩ := Z0I.1 h
 exact ZdM (Z4c.1 (hn i hi)) (Z36 h (i + 1) hi).2.2.1 (hm (i + 1) hi hi i rfl (by omega)) (Z7z hc) (Z7z hd) (rJ _ (Z4 _)) (rK _ (Z4 _)) e
end
section
open Go.RowKit
theorem ZfY (ls : List Lev) (cs : List ByteArray) (hl : ls.length <= 6) (hc : cs.length <= 2000) : (gTo ls cs ls.length).1.length <= 12000 := by
 have := (ZbR ls cs ls.length (Z1 _)).1
 exact Kaw this (Kaw (Nat.mul_le_mul hl hc) (by decide))
end
section
open Go.RowKit
def lv (ls : List Lev) (m : Nat) : Lev := ls.getD m ⟨⟨#[]⟩, 0, [], 0, 0⟩
theorem Zam {ls : List Lev} {m : Nat} (h : m < ls.length) : lv ls m = ls[m] := by
 unfold lv; rw [Z2, Z3 h]; rfl
def nm (ls : List Lev) (cs : List ByteArray) (m : Nat) : List ByteArray := Z1u (lv ls m) cs
def Z0h (ls : List Lev) (cs : List ByteArray) : Nat -> Nat
 | 0 => 0
 | m + 1 => Z0h ls cs m + (nm ls cs m).length
def itm (ls : List Lev) (cs : List ByteArray) (m : Nat) (n : ByteArray) : List Int := Z0q (lv ls m) cs cs.length n
def Z7n (ls : List Lev) (cs : List ByteArray) (m : Nat) (n : ByteArray) : ByteArray := cs.getD ((itm ls cs m n).headD 0).toNat ⟨#[]⟩
def Zis (ls : List Lev) (cs : List ByteArray) (m : Nat) (n : ByteArray) : Nat := Z0h ls cs (m + 1) + idx (Z0e (lv ls (m + 1)) (Z7n ls cs m n)) (nm ls cs (m + 1))
def gAt (ls : List Lev) (cs : List ByteArray) (k m : Nat) (n : ByteArray) : Grp := ⟨m, n, if m + 1 < k then (Zis ls cs m n : Int) else -1, itm ls cs m n⟩
def Z16 (ls : List Lev) (cs : List ByteArray) (k : Nat) : List Grp := (List.range k).flatMap (fun m => (nm ls cs m).map (gAt ls cs k m))
theorem Z9l {α : Type} (f : Nat -> List α) (s : Nat -> Nat) (h0 : s 0 = 0) (hs : ∀ m, s (m + 1) = s m + (f m).length) : ∀ k, ((List.range k).flatMap f).length = s k := by
 intro k
 induction k with
 | zero => rw [h0]; rfl
 | succ k ih => rw [Kaq, Kai, ZC, ih, hs]; simp
theorem flat_get {α : Type} (f : Nat -> List α) (s : Nat -> Nat) (h0 : s 0 = 0) (hs : ∀ m, s (m + 1) = s m + (f m).length) : ∀ k m j, m < k -> j < (f m).length -> ((List.range k).flatMap f)[s m + j]? = (f m)[j]? := by
 intro k
 induction k with
 | zero => intro m j h; omega
 | succ k ih =>
  intro m j hm hj
  have hl := Z9l f s h0 hs k
  rw [Kaq, Kai]
  by_cases e : m = k
  ·subst e
   rw [Kaz (by omega), hl]
   simp
  ·have pA : m < k := by omega
   have := ih m j pA hj
   rw [Ka6]
   ·exact this
   ·rw [Z3 hj] at this
    exact (Kam.1 this).1
theorem Z9i (ls : List Lev) (cs : List ByteArray) (k : Nat) : (Z16 ls cs k).length = Z0h ls cs k :=
 Z9l _ _ rfl (fun m => by simp [Z0h]) k
theorem ZcU (ls : List Lev) (cs : List ByteArray) (k m j : Nat) (hm : m < k) (hj : j < (nm ls cs m).length) : (Z16 ls cs k)[Z0h ls cs m + j]? = some (gAt ls cs k m (nm ls cs m)[j]) := by
 unfold Z16
 rw [flat_get (fun m => (nm ls cs m).map (gAt ls cs k m)) (Z0h ls cs) rfl (fun m => by simp [Z0h]) k m j hm (by simpa using hj)]
 simp [hj]
theorem Z3T (ls : List Lev) (cs : List ByteArray) : ∀ k, k <= ls.length -> gTo ls cs k = (Z16 ls cs k, Z0h ls cs (k - 1), k) := by
 intro k
 induction k with
 | zero => intro _; rfl
 | succ k ih =>
  intro h
  rw [Z52 ls cs k h, ih (by omega)]
  unfold ZaE
  simp only [Prod.mk.injEq, Kcx, and_true]
  refine ⟨?_, Z9i ls cs k⟩
  rw [Z9i, <- Zam h]
  have e3 : (Z1u (lv ls k) cs).map (mkG k (lv ls k) cs) = (nm ls cs k).map (gAt ls cs (k + 1) k) := by
   refine Kbg (fun n _ => ?_)
   unfold mkG gAt itm
   rw [if_neg (by omega)]
  rw [e3]
  have e4 : Z16 ls cs (k + 1) = ((List.range k).flatMap (fun m => (nm ls cs m).map (gAt ls cs (k + 1) m))) ++ (nm ls cs k).map (gAt ls cs (k + 1) k) := by
   unfold Z16
   rw [Kaq, Kai]
   simp
  rw [e4]
  congr 1
  cases k with
  | zero => rfl
  | succ j =>
   simp only [Kcx]
   have e5 : Z16 ls cs (j + 1) = ((List.range j).flatMap (fun m => (nm ls cs m).map (gAt ls cs (j + 1) m))) ++ (nm ls cs j).map (gAt ls cs (j + 1) j) := by
    unfold Z16
    rw [Kaq, Kai]
    simp
   have hl : ((List.range j).flatMap (fun m => (nm ls cs m).map (gAt ls cs (j + 1) m))).length = Z0h ls cs j := Z9l _ _ rfl (fun m => by simp [Z0h]) j
   rw [e5, Kdo (by omega), List.drop_append_of_le_length (by omega), Kas (by omega), List.drop_eq_nil_of_le (by omega), Kca, Kaq, Kai, Kdd]
   have e6 : (List.range j).flatMap (fun m => (nm ls cs m).map (gAt ls cs (j + 1) m)) = (List.range j).flatMap (fun m => (nm ls cs m).map (gAt ls cs (j + 1 + 1) m)) := by
    rw [List.flatMap_def, List.flatMap_def]
    congr 1
    refine Kbg (fun m hm => Kbg (fun n _ => ?_))
    have := Ka8.1 hm
    unfold gAt
    rw [if_pos (by omega), if_pos (by omega)]
   rw [e6]
   congr 1
   simp only [Kao, Kct, Ka1]
   refine Kbg (fun n _ => ?_)
   unfold gAt Zdh Zis Z7n nm
   simp
theorem Z2b {ls : List Lev} {cs : List ByteArray} {k : Nat} {g : Grp} : g ∈ Z16 ls cs k ↔ ∃ m n, m < k /\ n ∈ nm ls cs m /\ g = gAt ls cs k m n := by
 unfold Z16
 simp only [Ka5, Ka8, Kae]
 exact ⟨fun ⟨m, hm, n, hn, he⟩ => ⟨m, n, hm, hn, he.symm⟩, fun ⟨m, n, hm, hn, he⟩ => ⟨m, hm, n, hn, he.symm⟩⟩
theorem Ze3 (ls : List Lev) (cs : List ByteArray) (k : Nat) : (Z16 ls cs k).Pairwise (fun g h => g.lvl < h.lvl \/ g.lvl = h.lvl /\ ltB g.name h.name = true) := by
 unfold Z16
 rw [List.pairwise_flatMap]
 refine ⟨fun m _ => ?_, ?_⟩
 ·rw [Kbt]
  refine List.Pairwise.imp ?_ (Z3t (cs.map (Z0e (lv ls m))))
  intro a b h
  exact Or.inr ⟨rfl, h⟩
 ·refine List.Pairwise.imp ?_ List.pairwise_lt_range
  intro a b uN x hx y hy
  obtain ⟨n, _, rfl⟩ := Kae.1 hx
  obtain ⟨n', _, rfl⟩ := Kae.1 hy
  left
  show (a : Int) < (b : Int)
  omega
theorem Z3B {ls : List Lev} {cs : List ByteArray} {m : Nat} {n : ByteArray} {x : Int} : x ∈ itm ls cs m n ↔ ∃ i : Nat, ∃ h : i < cs.length, Z0e (lv ls m) cs[i] = n /\ x = i := by
 unfold itm
 rw [Z3b]
 constructor
 ·rintro ⟨i, hi, he, rfl⟩
  refine ⟨i, hi, ?_, rfl⟩
  rw [Z2, Z3 hi] at he
  exact he
 ·rintro ⟨i, hi, he, rfl⟩
  refine ⟨i, hi, ?_, rfl⟩
  rw [Z2, Z3 hi]
  exact he
theorem Z7f (ls : List Lev) (cs : List ByteArray) (m : Nat) (n : ByteArray) : (itm ls cs m n).Pairwise (· < ·) := by
 unfold itm Z0q
 rw [Kbt]
 refine List.Pairwise.imp ?_ (List.Pairwise.filter _ List.pairwise_lt_range)
 intro a b h
 exact Int.ofNat_lt.2 h
theorem Z9g {ls : List Lev} {cs : List ByteArray} {m : Nat} {n : ByteArray} (h : n ∈ nm ls cs m) : itm ls cs m n ≠ [] := ((Z3P (lv ls m) cs).2 n).1 h
theorem Zfu {ls : List Lev} {cs : List ByteArray} {m i : Nat} (h : i < cs.length) : Z0e (lv ls m) cs[i] ∈ nm ls cs m := by
 unfold nm Z1u
 rw [Z78]
 exact Kae.2 ⟨_, Z4 h, rfl⟩
theorem Z7m {ls : List Lev} {cs : List ByteArray} {m : Nat} {n : ByteArray} (h : n ∈ nm ls cs m) : ∃ i : Nat, ∃ hi : i < cs.length, Z7n ls cs m n = cs[i] /\ Z0e (lv ls m) cs[i] = n := by
 cases he : itm ls cs m n with
 | nil => exact absurd he (Z9g h)
 | cons x r =>
  have hx : x ∈ itm ls cs m n := by rw [he]; exact Kaf
  obtain ⟨i, hi, h1, rfl⟩ := Z3B.1 hx
  refine ⟨i, hi, ?_, h1⟩
  unfold Z7n
  rw [he]
  simp [hi]
end
section
open Go.RowKit
structure PartAt (ls : List Lev) (cs : List ByteArray) (gs : List Grp) (g : Grp) (m : Nat) : Prop where
 hm : m < ls.length
 lvl : g.lvl = m
 some_ : 0 < g.items.length
 few : g.items.length <= cs.length
 item : ∀ p (hp : p < g.items.length), ∃ q : Nat, ∃ hq : q < cs.length, g.items[p] = q /\ Z0e (lv ls m) cs[q] = g.name
 order : g.items.Pairwise (· < ·)
 up : (g.up = -1 /\ m + 1 = ls.length) \/ (m + 1 < ls.length /\ ∃ u : Nat, ∃ hu : u < gs.length, g.up = u /\ gs[u].lvl = m + 1 /\ ∀ p (hp : p < g.items.length) (q : Nat) (hq : q < cs.length), g.items[p] = q -> Z0e (lv ls (m + 1)) cs[q] = gs[u].name)
theorem Z7g (ls : List Lev) (cs : List ByteArray) (m : Nat) (n : ByteArray) : (itm ls cs m n).length <= cs.length := ZbH _ _ _ _
theorem Zj7 {ls : List Lev} {cs : List ByteArray} (h : Z0g ls = true) (hc : ∀ c ∈ cs, Z0G c = true) (hp : ∀ l ∈ ls, ∀ c ∈ cs, l.pre <= c.size) {g : Grp} (hg : g ∈ Z16 ls cs ls.length) : ∃ m, PartAt ls cs (Z16 ls cs ls.length) g m := by
 obtain ⟨m, n, hm, hn, rfl⟩ := Z2b.1 hg
 have hit : ∀ p (hp : p < (itm ls cs m n).length), ∃ q : Nat, ∃ hq : q < cs.length, (itm ls cs m n)[p] = q /\ Z0e (lv ls m) cs[q] = n := fun p hp => by
  obtain ⟨q, hq, h1, h2⟩ := Z3B.1 (Z4 hp)
  exact ⟨q, hq, h2, h1⟩
 refine ⟨m, ⟨hm, rfl, Kcr.2 (Z9g hn), Z7g ls cs m n, hit, Z7f ls cs m n, ?_⟩⟩
 by_cases hk : m + 1 < ls.length
 ·right
  refine ⟨hk, ?_⟩
  obtain ⟨i, hi, hh, sF⟩ := Z7m hn
  have sG : Z0e (lv ls (m + 1)) (Z7n ls cs m n) ∈ nm ls cs (m + 1) := by rw [hh]; exact Zfu hi
  have pA := Z3m sG
  have tJ := ZcU ls cs ls.length (m + 1) _ hk pA
  obtain ⟨hu, sH⟩ := Kam.1 tJ
  have tK : (nm ls cs (m + 1))[idx (Z0e (lv ls (m + 1)) (Z7n ls cs m n)) (nm ls cs (m + 1))] = Z0e (lv ls (m + 1)) (Z7n ls cs m n) := by
   have := ZfP sG
   rw [Z3 pA] at this
   exact Kav this
  refine ⟨Zis ls cs m n, hu, ?_, ?_, ?_⟩
  ·unfold gAt
   dsimp only
   rw [if_pos hk]
  ·have : (Z16 ls cs ls.length)[Zis ls cs m n] = gAt ls cs ls.length (m + 1) (nm ls cs (m + 1))[idx (Z0e (lv ls (m + 1)) (Z7n ls cs m n)) (nm ls cs (m + 1))] := sH
   rw [this]
   rfl
  ·intro p hp' q hq he
   have : (Z16 ls cs ls.length)[Zis ls cs m n] = gAt ls cs ls.length (m + 1) (nm ls cs (m + 1))[idx (Z0e (lv ls (m + 1)) (Z7n ls cs m n)) (nm ls cs (m + 1))] := sH
   rw [this, tK]
   show Z0e (lv ls (m + 1)) cs[q] = Z0e (lv ls (m + 1)) (Z7n ls cs m n)
   rw [hh]
   obtain ⟨q', hq', h1, h2⟩ := hit p hp'
   have e : q = q' := by
    have : ((q : Nat) : Int) = q' := he.symm.trans h1
    omega
   subst e
   rw [Zam hk]
   rw [Zam hm] at h2 sF
   exact Z8g h (hc _ (Z4 hq)) (hc _ (Z4 hi)) (fun l hl => hp l hl _ (Z4 hq)) (fun l hl => hp l hl _ (Z4 hi)) m hk (h2.trans sF.symm)
 ·left
  unfold gAt
  dsimp only
  rw [if_neg hk]
  exact ⟨rfl, by omega⟩
end
section
structure PGrp where
 lvl : Int
 up : Int
 items : List Int
def Z4Z (i : Nat) (x : Int) (b : List Int) (k : Nat) (l : List Int) : List Int :=
 (List.range k).foldl (fun l j => if b.getD j (-1) = -1 then l else l.set (i + j) (max (l.getD (i + j) (-1)) (x + b.getD j (-1)))) l
def Z2C (a b : List Int) (k : Nat) : List Int :=
 (List.range k).foldl (fun l i => if a.getD i (-1) = -1 then l else Z4Z i (a.getD i (-1)) b b.length l) (List.replicate (a.length + b.length - 1) (-1))
def Z31 (a b : List Int) : List Int := Z2C a b a.length
def Z06 (ts : List (List Int)) : Nat -> List Int
 | 0 => [0]
 | k + 1 => Z31 (ts.getD (ts.length - 1 - k) []) (Z06 ts k)
def Z23 (lvl : Int) (items : Nat) (ts : List (List Int)) : List Int :=
 if lvl = 0 then List.replicate items (-1) ++ [0] else if ts.length = 0 then [] else Z06 ts ts.length
def Z0j (mn cents passes come : Int) : Int := if come - passes < 0 \/ (0 < come - passes /\ come - passes < mn) then -1 else (come - passes) * cents
def Z11 (come : List Int) (mn cents : Int) (p k : Nat) : Int :=
 (List.range k).foldl (fun acc j => if Z0j mn cents (p : Nat) (p + j : Nat) ≠ -1 /\ come.getD (p + j) (-1) ≠ -1 then max acc (come.getD (p + j) (-1) + Z0j mn cents (p : Nat) (p + j : Nat)) else acc) (-1)
def Z1z (come : List Int) (last : Bool) (mn cents : Int) : List Int := (List.range (if last then 1 else come.length)).map (fun p => Z11 come mn cents p (come.length - p))
def Z05 (gs : List PGrp) (g : Nat) : List Nat := (List.range gs.length).filter (fun h => decide ((gs.getD h ⟨0, 0, []⟩).up = (g : Int)))
def Z0c (gs : List PGrp) (g : Nat) : PGrp := gs.getD g ⟨0, 0, []⟩
def Z0D (ls : List (Int × Int)) (gs : List PGrp) : Nat -> List (List Int)
 | 0 => []
 | g + 1 => let ts := Z0D ls gs g
  let l := ls.getD (Z0c gs g).lvl.toNat (0, 0)
  ts ++ [Z1z (Z23 (Z0c gs g).lvl (Z0c gs g).items.length ((Z05 gs g).map (fun h => ts.getD h []))) (decide ((Z0c gs g).lvl = (ls.length : Int) - 1)) l.1 l.2]
def Z8F (a rest : List Int) (fits : Int -> Int -> Bool) : Nat :=
 ((List.range a.length).find? (fun i => decide (a.getD i (-1) ≠ -1) && (List.range rest.length).any (fun j => decide (rest.getD j (-1) ≠ -1) && fits (i + j : Nat) (a.getD i (-1) + rest.getD j (-1))))).getD (a.length - 1)
def Z1k (mn cents : Int) (passes : Int) (most : Int) (ts : List (List Int)) : Nat -> (Nat × Int × List Nat)
 | 0 => (0, 0, [])
 | k + 1 => let (come, saved, out) := Z1k mn cents passes most ts k
  let t := ts.getD k []
  let p := Z8F t (Z06 ts (ts.length - 1 - k)) (fun q below => let own := Z0j mn cents passes (come + q); decide (own ≠ -1) && decide (saved + below + own = most))
  (come + p, saved + t.getD p (-1), out ++ [p])
def Z1L (ls : List (Int × Int)) (gs : List PGrp) (tabs : List (List Int)) : Nat -> (Nat -> Int)
 | 0 => fun _ => 0
 | k + 1 => let f := Z1L ls gs tabs k
  let g := gs.length - 1 - k
  let l := ls.getD (Z0c gs g).lvl.toNat (0, 0)
  let subs := Z05 gs g
  let ps := (Z1k l.1 l.2 (f g) ((tabs.getD g []).getD (f g).toNat (-1)) (subs.map (fun h => tabs.getD h [])) subs.length).2.2
  fun h => match subs.idxOf? h with | some i => (ps.getD i 0 : Nat) | none => f h
def ZiF (x : Int) : List Int -> List Int
 | [] => [x]
 | y :: r => if x <= y then x :: y :: r else y :: ZiF x r
def Z1l (l : List Int) : List Int := l.foldr ZiF []
def Z0M (gs : List PGrp) (f : Nat -> Int) : Nat -> List Int -> (List Int × List (List Int))
 | 0, p => (p, [])
 | g + 1, p => let (q, passed) := Z0M gs f g p
  let come := Z1l ((if (Z0c gs g).lvl = 0 then (Z0c gs g).items else []) ++ (Z05 gs g).flatMap (fun h => passed.getD h []))
  let takes := come.length - (f g).toNat
  ((come.take takes).foldl (fun q i => q.set i.toNat (Z0c gs g).lvl) q, passed ++ [come.drop takes])
def Zhq (ls : List (Int × Int)) (gs : List PGrp) (n : Nat) : List Int :=
 let tabs := Z0D ls gs gs.length
 (Z0M gs (Z1L ls gs tabs gs.length) gs.length (List.replicate n 0)).1
end
section
open Go.RowKit Go.Sort
def Z1j (n : Nat) (zs : List Int) : Bool := zs.all (fun z => decide (0 <= z) && decide (z < (n : Int)))
theorem Z72 {n : Nat} {zs : List Int} (h : Z1j n zs = true) (k : Nat) (hk : k < zs.length) : 0 <= zs[k] /\ zs[k] < (n : Int) := by
 unfold Z1j at h
 have := Kbk.1 h _ (Z4 hk)
 simpa using this
theorem ZdH {n : Nat} {zs : List Int} {k : Nat} (hk : k < zs.length) (h : zs[k] < 0 \/ (n : Int) <= zs[k]) : Z1j n zs = false := by
 unfold Z1j
 rw [List.all_eq_false]
 refine ⟨_, Z4 hk, ?_⟩
 simp
 omega
theorem Zad {n : Nat} {zs : List Int} (h : ∀ k (hk : k < zs.length), 0 <= zs[k] /\ zs[k] < (n : Int)) : Z1j n zs = true := by
 unfold Z1j
 rw [Kbk]
 intro z hz
 obtain ⟨k, hk, rfl⟩ := Kau.1 hz
 have := h k hk
 simp
 exact this
end
section
def ent (l : List Int) (i : Nat) : Int := l.getD i (-1)
def ZjZ (a b : List Int) (i j : Nat) : Prop := i < a.length /\ j < b.length /\ ent a i ≠ -1 /\ ent b j ≠ -1
structure JoinInv (a b l : List Int) (S : Nat -> Nat -> Prop) : Prop where
 len : l.length = a.length + b.length - 1
 up : ∀ i j, S i j -> ZjZ a b i j -> ent a i + ent b j <= ent l (i + j)
 at_ : ∀ n, ent l n = -1 \/ ∃ i j, S i j /\ ZjZ a b i j /\ i + j = n /\ ent l n = ent a i + ent b j
theorem Zga (l : List Int) (k : Nat) (x : Int) (n : Nat) : ent (l.set k x) n = if n = k /\ k < l.length then x else ent l n := by
 unfold ent
 rw [Z2, Z2, List.getElem?_set]
 by_cases h : k = n
 ·subst h
  by_cases hl : k < l.length
  ·rw [if_pos rfl, if_pos hl, if_pos ⟨rfl, hl⟩]; rfl
  ·rw [if_pos rfl, if_neg hl, if_neg (fun h => hl h.2), Kbx (by omega)]
 ·rw [if_neg h, if_neg (fun h' => h h'.1.symm)]
theorem Z1T {a : List Int} (h : ∀ x ∈ a, -1 <= x) {i : Nat} (hi : ent a i ≠ -1) : 0 <= ent a i := by
 by_cases hl : i < a.length
 ·have hm : ent a i ∈ a := by unfold ent; rw [Z2, Z3 hl]; exact Z4 hl
  have := h _ hm
  omega
 ·exfalso; apply hi; unfold ent; rw [Z2, Kbx (by omega)]; rfl
theorem join_step {a b l : List Int} {S : Nat -> Nat -> Prop} (ha : ∀ x ∈ a, -1 <= x) (hb : ∀ x ∈ b, -1 <= x) (h : JoinInv a b l S) {i j : Nat} (hp : ZjZ a b i j) :
 JoinInv a b (l.set (i + j) (max (ent l (i + j)) (ent a i + ent b j))) (fun p q => S p q \/ (p = i /\ q = j)) := by
 obtain ⟨h1, h2, h3⟩ := h
 have rM : i + j < l.length := by have := hp.1; have := hp.2.1; omega
 refine ⟨by rw [Kb8]; exact h1, fun p q hs qB => ?_, fun n => ?_⟩
 ·rw [Zga]
  rcases hs with hs | ⟨rfl, rfl⟩
  ·have := h2 p q hs qB
   split
   ·rename_i he; rw [he.1] at this; omega
   ·exact this
  ·rw [if_pos ⟨rfl, rM⟩]; omega
 ·rw [Zga]
  by_cases he : n = i + j
  ·subst he
   rw [if_pos ⟨rfl, rM⟩]
   rcases h3 (i + j) with h4 | ⟨p, q, hs, qB, he, hv⟩
   ·right
    refine ⟨i, j, .inr ⟨rfl, rfl⟩, hp, rfl, ?_⟩
    have := Z1T ha hp.2.2.1
    have := Z1T hb hp.2.2.2
    rw [h4]; omega
   ·right
    by_cases hm : ent a i + ent b j <= ent l (i + j)
    ·exact ⟨p, q, .inl hs, qB, he, by rw [<- hv]; omega⟩
    ·exact ⟨i, j, .inr ⟨rfl, rfl⟩, hp, rfl, by omega⟩
  ·rw [if_neg (fun h => he h.1)]
   rcases h3 n with h4 | ⟨p, q, hs, qB, he', hv⟩
   ·exact .inl h4
   ·exact .inr ⟨p, q, .inl hs, qB, he', hv⟩
theorem Z3E {a b l : List Int} {S S' : Nat -> Nat -> Prop} (h : JoinInv a b l S) (h1 : ∀ i j, S i j -> S' i j) (h2 : ∀ i j, S' i j -> ZjZ a b i j -> S i j) : JoinInv a b l S' :=
 ⟨h.len, fun i j hs hp => h.up i j (h2 i j hs hp) hp, fun n => by
  rcases h.at_ n with h4 | ⟨p, q, hs, qB, he, hv⟩
  ·exact .inl h4
  ·exact .inr ⟨p, q, h1 p q hs, qB, he, hv⟩⟩
theorem Z4g (i : Nat) (x : Int) (b : List Int) (k : Nat) (l : List Int) : Z4Z i x b (k + 1) l = (fun l => if ent b k = -1 then l else l.set (i + k) (max (ent l (i + k)) (x + ent b k))) (Z4Z i x b k l) := by
 unfold Z4Z; rw [Kaq, Kbs]; rfl
theorem Z4f (a b : List Int) (k : Nat) : Z2C a b (k + 1) = (if ent a k = -1 then Z2C a b k else Z4Z k (ent a k) b b.length (Z2C a b k)) := by
 unfold Z2C; rw [Kaq, Kbs]; rfl
theorem Z8x {a b : List Int} (ha : ∀ x ∈ a, -1 <= x) (hb : ∀ x ∈ b, -1 <= x) {l : List Int} {i : Nat} (hi : i < a.length) (hx : ent a i ≠ -1) (h : JoinInv a b l (fun p q => p < i)) :
 ∀ k, k <= b.length -> JoinInv a b (Z4Z i (ent a i) b k l) (fun p q => p < i \/ (p = i /\ q < k))
 | 0, _ => Z3E h (fun p q h => .inl h) (fun p q h _ => by rcases h with h | h; exact h; omega)
 | k + 1, hk => by
  have ih := Z8x ha hb hi hx h k (by omega)
  rw [Z4g]
  dsimp only
  by_cases rB : ent b k = -1
  ·rw [if_pos rB]
   refine Z3E ih (fun p q h => ?_) (fun p q h hp => ?_)
   ·rcases h with h | ⟨h1, h2⟩
    ·exact .inl h
    ·exact .inr ⟨h1, by omega⟩
   ·rcases h with h | ⟨h1, h2⟩
    ·exact .inl h
    ·refine .inr ⟨h1, ?_⟩
     by_cases e : q = k
     ·subst e; exact absurd rB hp.2.2.2
     ·omega
  ·rw [if_neg rB]
   refine Z3E (join_step ha hb ih ⟨hi, by omega, hx, rB⟩) (fun p q h => ?_) (fun p q h hp => ?_)
   ·rcases h with (h | ⟨h1, h2⟩) | ⟨h1, h2⟩
    ·exact .inl h
    ·exact .inr ⟨h1, by omega⟩
    ·exact .inr ⟨h1, by omega⟩
   ·rcases h with h | ⟨h1, h2⟩
    ·exact .inl (.inl h)
    ·by_cases e : q = k
     ·exact .inr ⟨h1, e⟩
     ·exact .inl (.inr ⟨h1, by omega⟩)
theorem Z3R {a b : List Int} (ha : ∀ x ∈ a, -1 <= x) (hb : ∀ x ∈ b, -1 <= x) : ∀ k, k <= a.length -> JoinInv a b (Z2C a b k) (fun p q => p < k)
 | 0, _ => by
  refine ⟨by simp [Z2C], fun i j h => absurd h (Ka2 _), fun n => .inl ?_⟩
  unfold Z2C ent
  rw [Z2]
  simp only [List.range_zero, List.foldl_nil, List.getElem?_replicate]
  split <;> rfl
 | k + 1, hk => by
  have ih := Z3R ha hb k (by omega)
  rw [Z4f]
  by_cases rC : ent a k = -1
  ·rw [if_pos rC]
   refine Z3E ih (fun p q h => by omega) (fun p q h hp => ?_)
   by_cases e : p = k
   ·subst e; exact absurd rC hp.2.2.1
   ·omega
  ·rw [if_neg rC]
   refine Z3E (Z8x ha hb (by omega) rC ih b.length (Z1 _)) (fun p q h => by omega) (fun p q h hp => ?_)
   by_cases e : p = k
   ·exact .inr ⟨e, hp.2.1⟩
   ·exact .inl (by omega)
theorem Zau {a b : List Int} (ha : ∀ x ∈ a, -1 <= x) (hb : ∀ x ∈ b, -1 <= x) : (Z31 a b).length = a.length + b.length - 1 := (Z3R ha hb a.length (Z1 _)).len
theorem ZhS {a b : List Int} (ha : ∀ x ∈ a, -1 <= x) (hb : ∀ x ∈ b, -1 <= x) {i j : Nat} (hp : ZjZ a b i j) : ent a i + ent b j <= ent (Z31 a b) (i + j) := (Z3R ha hb a.length (Z1 _)).up i j hp.1 hp
theorem Z9f {a b : List Int} (ha : ∀ x ∈ a, -1 <= x) (hb : ∀ x ∈ b, -1 <= x) (n : Nat) : ent (Z31 a b) n = -1 \/ ∃ i j, ZjZ a b i j /\ i + j = n /\ ent (Z31 a b) n = ent a i + ent b j := by
 rcases (Z3R ha hb a.length (Z1 _)).at_ n with h | ⟨i, j, _, hp, he, hv⟩
 ·exact .inl h
 ·exact .inr ⟨i, j, hp, he, hv⟩
theorem ZcO {a b : List Int} (ha : ∀ x ∈ a, -1 <= x) (hb : ∀ x ∈ b, -1 <= x) : ∀ x ∈ Z31 a b, -1 <= x := fun x hx => by
 obtain ⟨n, hn, rfl⟩ := Kau.1 hx
 have e : ent (Z31 a b) n = (Z31 a b)[n] := by unfold ent; rw [Z2, Z3 hn]; rfl
 rw [<- e]
 rcases Z9f ha hb n with h | ⟨i, j, hp, _, hv⟩
 ·omega
 ·have := Z1T ha hp.2.2.1
  have := Z1T hb hp.2.2.2
  omega
end
section
def Z0E (ts : List (List Int)) (i : Nat) : List Int := ts.getD i []
def sQ (N : Nat) (q : Nat -> Nat) : Nat -> Nat
 | 0 => 0
 | k + 1 => sQ N q k + q (N - 1 - k)
def sE (ts : List (List Int)) (q : Nat -> Nat) : Nat -> Int
 | 0 => 0
 | k + 1 => sE ts q k + ent (Z0E ts (ts.length - 1 - k)) (q (ts.length - 1 - k))
def ZkZ (ts : List (List Int)) (q : Nat -> Nat) (k : Nat) : Prop := ∀ j, j < k -> q (ts.length - 1 - j) < (Z0E ts (ts.length - 1 - j)).length /\ ent (Z0E ts (ts.length - 1 - j)) (q (ts.length - 1 - j)) ≠ -1
def Z7G (ts : List (List Int)) : Prop := ∀ t ∈ ts, (∀ x ∈ t, -1 <= x) /\ 0 < t.length
theorem Zez {ts : List (List Int)} (h : Z7G ts) {i : Nat} (hi : i < ts.length) : (∀ x ∈ Z0E ts i, -1 <= x) /\ 0 < (Z0E ts i).length := by
 have : Z0E ts i ∈ ts := by unfold Z0E; rw [Z2, Z3 hi]; exact Z4 hi
 exact h _ this
theorem Z4R {ts : List (List Int)} (h : Z7G ts) : ∀ k, k <= ts.length -> (∀ x ∈ Z06 ts k, -1 <= x) /\ 0 < (Z06 ts k).length
 | 0, _ => ⟨by simp [Z06], by simp [Z06]⟩
 | k + 1, hk => by
  obtain ⟨a, b⟩ := Z4R h k (by omega)
  obtain ⟨c, d⟩ := Zez h (i := ts.length - 1 - k) (by omega)
  have e : Z06 ts (k + 1) = Z31 (Z0E ts (ts.length - 1 - k)) (Z06 ts k) := rfl
  rw [e]
  exact ⟨ZcO c a, by rw [Zau c a]; omega⟩
theorem Z55 {l : List Int} {i : Nat} (h : ent l i ≠ -1) : i < l.length := by
 by_cases hl : i < l.length
 ·exact hl
 ·exfalso; apply h; unfold ent; rw [Z2, Kbx (by omega)]; rfl
theorem Zah {ts : List (List Int)} (h : Z7G ts) (q : Nat -> Nat) : ∀ k, k <= ts.length -> ZkZ ts q k -> 0 <= sE ts q k /\ sE ts q k <= ent (Z06 ts k) (sQ ts.length q k)
 | 0, _, _ => ⟨Kbi _, (by decide : (0 : Int) <= ent [0] 0)⟩
 | k + 1, hk, hp => by
  obtain ⟨a, b⟩ := Zah h q k (by omega) (fun j hj => hp j (by omega))
  obtain ⟨m1, m2⟩ := Z4R h k (by omega)
  obtain ⟨c, d⟩ := Zez h (i := ts.length - 1 - k) (by omega)
  obtain ⟨p1, p2⟩ := hp k (by omega)
  have e0 := Z1T c p2
  have pF : ent (Z06 ts k) (sQ ts.length q k) ≠ -1 := by omega
  have := ZhS c m1 (i := q (ts.length - 1 - k)) (j := sQ ts.length q k) ⟨p1, Z55 pF, p2, pF⟩
  have e : Z06 ts (k + 1) = Z31 (Z0E ts (ts.length - 1 - k)) (Z06 ts k) := rfl
  rw [e]
  unfold sE sQ
  rw [Nat.add_comm (sQ ts.length q k)]
  omega
theorem Z3i (come : List Int) (mn cents : Int) (p k : Nat) : Z11 come mn cents p (k + 1) = (fun acc => if Z0j mn cents (p : Nat) (p + k : Nat) ≠ -1 /\ ent come (p + k) ≠ -1 then max acc (ent come (p + k) + Z0j mn cents (p : Nat) (p + k : Nat)) else acc) (Z11 come mn cents p k) := by
 unfold Z11; rw [Kaq, Kbs]; rfl
theorem Zgp (come : List Int) (mn cents : Int) (p : Nat) : ∀ k j, j < k -> Z0j mn cents (p : Nat) (p + j : Nat) ≠ -1 -> ent come (p + j) ≠ -1 -> ent come (p + j) + Z0j mn cents (p : Nat) (p + j : Nat) <= Z11 come mn cents p k
 | 0, j, h, _, _ => absurd h (Ka2 _)
 | k + 1, j, h, h1, h2 => by
  rw [Z3i]
  dsimp only
  by_cases e : j = k
  ·subst e
   rw [if_pos ⟨h1, h2⟩]; omega
  ·have := Zgp come mn cents p k j (by omega) h1 h2
   split <;> omega
theorem Z9u (come : List Int) (mn cents : Int) (p : Nat) (hc : ∀ x ∈ come, -1 <= x) (h0 : 0 <= cents) : ∀ k, Z11 come mn cents p k = -1 \/ ∃ j, j < k /\ Z0j mn cents (p : Nat) (p + j : Nat) ≠ -1 /\ ent come (p + j) ≠ -1 /\ Z11 come mn cents p k = ent come (p + j) + Z0j mn cents (p : Nat) (p + j : Nat)
 | 0 => .inl (by simp [Z11])
 | k + 1 => by
  rw [Z3i]
  dsimp only
  by_cases e : Z0j mn cents (p : Nat) (p + k : Nat) ≠ -1 /\ ent come (p + k) ≠ -1
  ·rw [if_pos e]
   rcases Z9u come mn cents p hc h0 k with h | ⟨j, hj, h1, h2, h3⟩
   ·right
    refine ⟨k, by omega, e.1, e.2, ?_⟩
    have := Z1T hc e.2
    have hs : 0 <= Z0j mn cents (p : Nat) (p + k : Nat) := by
     have h := e.1
     unfold Z0j at h ⊢
     split at h
     ·exact absurd rfl h
     ·rename_i hn
      rw [if_neg hn]
      exact Kdk (by omega) h0
    rw [h]; omega
   ·by_cases hm : ent come (p + k) + Z0j mn cents (p : Nat) (p + k : Nat) <= Z11 come mn cents p k
    ·exact .inr ⟨j, by omega, h1, h2, by omega⟩
    ·exact .inr ⟨k, by omega, e.1, e.2, by omega⟩
  ·rw [if_neg e]
   rcases Z9u come mn cents p hc h0 k with h | ⟨j, hj, h1, h2, h3⟩
   ·exact .inl h
   ·exact .inr ⟨j, by omega, h1, h2, h3⟩
end
section
theorem ZaI (come : List Int) (last : Bool) (mn cents : Int) {q : Nat} (h : q < (if last then 1 else come.length)) : ent (Z1z come last mn cents) q = Z11 come mn cents q (come.length - q) := by
 unfold Z1z ent
 rw [Z2, Kal, Kb2 h]
 rfl
theorem Z9I (come : List Int) (last : Bool) (mn cents : Int) : (Z1z come last mn cents).length = if last then 1 else come.length := by simp [Z1z]
theorem Z9S {mn cents p c : Int} (h0 : 0 <= cents) (h : Z0j mn cents p c ≠ -1) : 0 <= Z0j mn cents p c := by
 unfold Z0j at h ⊢
 split at h
 ·exact absurd rfl h
 ·rename_i hn
  rw [if_neg hn]
  exact Kdk (by omega) h0
theorem ZjD (come : List Int) (mn cents : Int) (p : Nat) (hc : ∀ x ∈ come, -1 <= x) (h0 : 0 <= cents) (k : Nat) : -1 <= Z11 come mn cents p k := by
 rcases Z9u come mn cents p hc h0 k with h | ⟨j, hj, h1, h2, h3⟩
 ·omega
 ·have := Z1T hc h2
  have := Z9S h0 h1
  omega
theorem ZgX (come : List Int) (last : Bool) (mn cents : Int) (hc : ∀ x ∈ come, -1 <= x) (hl : 0 < come.length) (h0 : 0 <= cents) : (∀ x ∈ Z1z come last mn cents, -1 <= x) /\ 0 < (Z1z come last mn cents).length := by
 refine ⟨fun x hx => ?_, by rw [Z9I]; split <;> omega⟩
 unfold Z1z at hx
 obtain ⟨p, _, rfl⟩ := Kae.1 hx
 exact ZjD come mn cents p hc h0 _
def sS (s : Nat -> Int) (N : Nat) : Nat -> Int
 | 0 => 0
 | k + 1 => sS s N k + s (N - 1 - k)
theorem Zk9 {ts : List (List Int)} {q : Nat -> Nat} {s : Nat -> Int} : ∀ k, k <= ts.length -> (∀ i, i < ts.length -> s i <= ent (Z0E ts i) (q i)) -> sS s ts.length k <= sE ts q k
 | 0, _, _ => Kbi _
 | k + 1, hk, h => by
  have := Zk9 k (by omega) h
  have := h (ts.length - 1 - k) (by omega)
  unfold sS sE
  omega
theorem ZeB (come : List Int) (last : Bool) (mn cents : Int) (h0 : 0 <= cents) (hc : ∀ x ∈ come, -1 <= x) {Q t : Nat} {s : Int} (hs : s <= ent come Q) (tL : 0 <= s) (ht : t <= Q) (hv : t = 0 \/ mn <= (t : Int)) (rN : last = true -> Q - t = 0) :
 s + (t : Int) * cents <= ent (Z1z come last mn cents) (Q - t) := by
 have pF : ent come Q ≠ -1 := by omega
 have hQ := Z55 pF
 have hq : Q - t < (if last then 1 else come.length) := by
  cases last
  ·simp; omega
  ·have := rN rfl; simp; omega
 rw [ZaI come last mn cents hq]
 have hsv : Z0j mn cents ((Q - t : Nat) : Int) ((Q - t + t : Nat) : Int) = (t : Int) * cents := by
  unfold Z0j
  have e : ((Q - t + t : Nat) : Int) - ((Q - t : Nat) : Int) = (t : Int) := by omega
  rw [e, if_neg (by omega)]
 have tM : Z0j mn cents ((Q - t : Nat) : Int) ((Q - t + t : Nat) : Int) ≠ -1 := by
  rw [hsv]
  have : 0 <= (t : Int) * cents := Kdk (by omega) h0
  omega
 have e : Q - t + t = Q := by omega
 have := Zgp come mn cents (Q - t) (come.length - (Q - t)) t (by omega) tM (by rw [e]; exact pF)
 rw [hsv, e] at this
 omega
end
section
theorem ZhY (a rest : List Int) (fits : Int -> Int -> Bool) (h : ∃ i j, ent a i ≠ -1 /\ ent rest j ≠ -1 /\ fits ((i + j : Nat) : Int) (ent a i + ent rest j) = true) :
 (∃ j, ent a (Z8F a rest fits) ≠ -1 /\ ent rest j ≠ -1 /\ fits ((Z8F a rest fits + j : Nat) : Int) (ent a (Z8F a rest fits) + ent rest j) = true) /\
 ∀ i j, i < Z8F a rest fits -> ent a i ≠ -1 -> ent rest j ≠ -1 -> fits ((i + j : Nat) : Int) (ent a i + ent rest j) = false := by
 obtain ⟨i, j, h1, h2, h3⟩ := h
 have hi := Z55 h1
 have hj := Z55 h2
 unfold Z8F
 have hs : ∃ x, (List.range a.length).find? (fun i => decide (a.getD i (-1) ≠ -1) && (List.range rest.length).any (fun j => decide (rest.getD j (-1) ≠ -1) && fits (i + j : Nat) (a.getD i (-1) + rest.getD j (-1)))) = some x := by
  rw [<- Kdb, List.find?_isSome]
  refine ⟨i, Ka8.2 hi, ?_⟩
  rw [ZF, Kab, Kbp]
  exact ⟨h1, j, Ka8.2 hj, by rw [ZF, Kab]; exact ⟨h2, h3⟩⟩
 obtain ⟨x, hx⟩ := hs
 rw [hx]
 show (∃ j, ent a x ≠ -1 /\ ent rest j ≠ -1 /\ fits ((x + j : Nat) : Int) (ent a x + ent rest j) = true) /\ _
 constructor
 ·have := List.find?_some hx
  rw [ZF, Kab, Kbp] at this
  obtain ⟨k1, j', _, hj'⟩ := this
  rw [ZF, Kab] at hj'
  exact ⟨j', k1, hj'.1, hj'.2⟩
 ·intro i' j' pA g1 g2
  have tN : i' < x := pA
  rw [Kdl] at hx
  obtain ⟨_, n, hn, he, tO⟩ := hx
  rw [Kbv] at he
  subst he
  have hb := tO i' tN
  rw [Kbv] at hb
  cases hf : fits ((i' + j' : Nat) : Int) (ent a i' + ent rest j')
  ·rfl
  ·exfalso
   have : (decide (a.getD i' (-1) ≠ -1) && (List.range rest.length).any (fun j => decide (rest.getD j (-1) ≠ -1) && fits (i' + j : Nat) (a.getD i' (-1) + rest.getD j (-1)))) = true := by
    rw [ZF, Kab, Kbp]
    exact ⟨g1, j', Ka8.2 (Z55 g2), by rw [ZF, Kab]; exact ⟨g2, hf⟩⟩
   rw [this] at hb
   cases hb
structure DivInv (mn cents P most : Int) (ts : List (List Int)) (k : Nat) (come : Nat) (saved : Int) (out : List Nat) : Prop where
 len : out.length = k
 sum : come = out.sum
 ok : ∀ i, i < k -> ent (Z0E ts i) (out.getD i 0) ≠ -1
 sv : saved = ((List.range k).map (fun i => ent (Z0E ts i) (out.getD i 0))).sum
 rest : ∃ r, ent (Z06 ts (ts.length - k)) r ≠ -1 /\ Z0j mn cents P ((come + r : Nat) : Int) ≠ -1 /\ saved + ent (Z06 ts (ts.length - k)) r + Z0j mn cents P ((come + r : Nat) : Int) = most
theorem Z3G {l : List Nat} {x i : Nat} (h : i < l.length) : (l ++ [x]).getD i 0 = l.getD i 0 := by
 simp only [Z2, Ka6 h]
theorem Z3H {l : List Nat} {x k : Nat} (h : l.length = k) : (l ++ [x]).getD k 0 = x := by
 simp [Z2, <- h]
theorem Zgc {mn cents P most : Int} {ts : List (List Int)} (rO : Z7G ts)
 (h0 : ∃ r, ent (Z06 ts ts.length) r ≠ -1 /\ Z0j mn cents P (r : Nat) ≠ -1 /\ ent (Z06 ts ts.length) r + Z0j mn cents P (r : Nat) = most) :
 ∀ k, k <= ts.length -> DivInv mn cents P most ts k (Z1k mn cents P most ts k).1 (Z1k mn cents P most ts k).2.1 (Z1k mn cents P most ts k).2.2
 | 0, _ => by
  obtain ⟨r, h1, h2, h3⟩ := h0
  refine ⟨rfl, rfl, fun i h => absurd h (Ka2 _), rfl, r, h1, ?_, ?_⟩
  ·show Z0j mn cents P ((0 + r : Nat) : Int) ≠ -1
   rw [Ka0]; exact h2
  ·show 0 + ent (Z06 ts ts.length) r + Z0j mn cents P ((0 + r : Nat) : Int) = most
   rw [Ka0]; omega
 | k + 1, hk => by
  have ih := Zgc rO h0 k (by omega)
  generalize hd : Z1k mn cents P most ts k = d at ih
  obtain ⟨come, saved, out⟩ := d
  obtain ⟨i1, i2, i3, i4, r, r1, r2, r3⟩ := ih
  dsimp only at i1 i2 i3 i4 r1 r2 r3
  obtain ⟨c, dd⟩ := Zez rO (i := k) (by omega)
  obtain ⟨m1, m2⟩ := Z4R rO (ts.length - 1 - k) (by omega)
  have e1 : ts.length - k = (ts.length - 1 - k) + 1 := by omega
  have e2 : Z06 ts (ts.length - k) = Z31 (Z0E ts k) (Z06 ts (ts.length - 1 - k)) := by
   rw [e1]
   show Z31 (ts.getD (ts.length - 1 - (ts.length - 1 - k)) []) _ = _
   rw [show ts.length - 1 - (ts.length - 1 - k) = k by omega]; rfl
  rw [e2] at r1 r3
  have hex : ∃ i j, ent (Z0E ts k) i ≠ -1 /\ ent (Z06 ts (ts.length - 1 - k)) j ≠ -1 /\
   (fun (q below : Int) => decide (Z0j mn cents P (come + q) ≠ -1) && decide (saved + below + Z0j mn cents P (come + q) = most)) ((i + j : Nat) : Int) (ent (Z0E ts k) i + ent (Z06 ts (ts.length - 1 - k)) j) = true := by
   rcases Z9f c m1 r with h | ⟨i, j, hp, rM, hv⟩
   ·exact absurd h r1
   ·refine ⟨i, j, hp.2.2.1, hp.2.2.2, ?_⟩
    have e3 : ((come : Int) + ((i + j : Nat) : Int)) = ((come + r : Nat) : Int) := by omega
    dsimp only
    rw [e3, ZF, Kab, Kab]
    exact ⟨r2, by rw [<- hv]; exact r3⟩
  obtain ⟨⟨j, f1, f2, f3⟩, _⟩ := ZhY (Z0E ts k) (Z06 ts (ts.length - 1 - k)) (fun (q below : Int) => decide (Z0j mn cents P (come + q) ≠ -1) && decide (saved + below + Z0j mn cents P (come + q) = most)) hex
  have tP : Z1k mn cents P most ts (k + 1) = (come + Z8F (Z0E ts k) (Z06 ts (ts.length - 1 - k)) (fun q below => decide (Z0j mn cents P (come + q) ≠ -1) && decide (saved + below + Z0j mn cents P (come + q) = most)),
   saved + ent (Z0E ts k) (Z8F (Z0E ts k) (Z06 ts (ts.length - 1 - k)) (fun q below => decide (Z0j mn cents P (come + q) ≠ -1) && decide (saved + below + Z0j mn cents P (come + q) = most))),
   out ++ [Z8F (Z0E ts k) (Z06 ts (ts.length - 1 - k)) (fun q below => decide (Z0j mn cents P (come + q) ≠ -1) && decide (saved + below + Z0j mn cents P (come + q) = most))]) := by
   rw [Z1k, hd]; rfl
  rw [tP]
  generalize Z8F (Z0E ts k) (Z06 ts (ts.length - 1 - k)) (fun q below => decide (Z0j mn cents P (come + q) ≠ -1) && decide (saved + below + Z0j mn cents P (come + q) = most)) = p at f1 f3
  rw [ZF, Kab, Kab] at f3
  have e4 : ((come : Int) + ((p + j : Nat) : Int)) = ((come + p + j : Nat) : Int) := by omega
  rw [e4] at f3
  refine ⟨by rw [ZC, i1]; rfl, by dsimp only; rw [Kbo, i2]; simp, fun i hi => ?_, ?_, j, ?_, ?_, ?_⟩
  ·by_cases e : i = k
   ·subst e; rw [Z3H i1]; exact f1
   ·rw [Z3G (by omega)]; exact i3 i (by omega)
  ·dsimp only
   rw [Kaq, ZD, Kbo, i4]
   congr 1
   ·congr 1
    refine Kbg (fun i hi => ?_)
    rw [Z3G (by have := Ka8.1 hi; omega)]
   ·rw [Kan, Kbe, Z3H i1]; simp
  ·rw [show ts.length - (k + 1) = ts.length - 1 - k by omega]; exact f2
  ·exact f3.1
  ·rw [show ts.length - (k + 1) = ts.length - 1 - k by omega]
   dsimp only
   have := f3.2
   omega
end
section
structure Forest (ls : List (Int × Int)) (gs : List PGrp) : Prop where
 lvl : ∀ g, g < gs.length -> 0 <= (Z0c gs g).lvl /\ (Z0c gs g).lvl < (ls.length : Int)
 below : ∀ g, g < gs.length -> ∀ h ∈ Z05 gs g, h < g
 parts : ∀ g, g < gs.length -> 0 < (Z0c gs g).lvl -> ((Z05 gs g).flatMap (fun h => (Z0c gs h).items)).Perm (Z0c gs g).items /\ Z05 gs g ≠ []
 sub : ∀ g, g < gs.length -> ∀ h ∈ Z05 gs g, (Z0c gs h).lvl + 1 = (Z0c gs g).lvl
 some_ : ∀ g, g < gs.length -> (Z0c gs g).items ≠ []
 cents : ∀ l ∈ ls, 0 <= l.2
def Z2L (ls : List (Int × Int)) (gs : List PGrp) (g : Nat) : Int × Int := ls.getD (Z0c gs g).lvl.toNat (0, 0)
theorem Zcc (ls : List (Int × Int)) (gs : List PGrp) : ∀ k, (Z0D ls gs k).length = k
 | 0 => rfl
 | k + 1 => by
  have : Z0D ls gs (k + 1) = Z0D ls gs k ++ [Z1z (Z23 (Z0c gs k).lvl (Z0c gs k).items.length ((Z05 gs k).map (fun h => (Z0D ls gs k).getD h []))) (decide ((Z0c gs k).lvl = (ls.length : Int) - 1)) (Z2L ls gs k).1 (Z2L ls gs k).2] := rfl
  rw [this, ZC, Zcc ls gs k]; rfl
theorem Z6d (ls : List (Int × Int)) (gs : List PGrp) : ∀ k g, g < k -> Z0E (Z0D ls gs k) g = Z1z (Z23 (Z0c gs g).lvl (Z0c gs g).items.length ((Z05 gs g).map (fun h => (Z0D ls gs g).getD h []))) (decide ((Z0c gs g).lvl = (ls.length : Int) - 1)) (Z2L ls gs g).1 (Z2L ls gs g).2
 | 0, g, h => absurd h (Ka2 _)
 | k + 1, g, h => by
  have e : Z0D ls gs (k + 1) = Z0D ls gs k ++ [Z1z (Z23 (Z0c gs k).lvl (Z0c gs k).items.length ((Z05 gs k).map (fun h => (Z0D ls gs k).getD h []))) (decide ((Z0c gs k).lvl = (ls.length : Int) - 1)) (Z2L ls gs k).1 (Z2L ls gs k).2] := rfl
  have hl := Zcc ls gs k
  by_cases hg : g = k
  ·subst hg
   rw [e]
   unfold Z0E
   rw [Z2, Kaz (by omega), hl, Kb3]
   rfl
  ·have := Z6d ls gs k g (by omega)
   rw [<- this, e]
   unfold Z0E
   rw [Z2, Z2, Ka6 (by omega)]
theorem Zex (ls : List (Int × Int)) (gs : List PGrp) {g k m : Nat} (h1 : g < k) (h2 : g < m) : Z0E (Z0D ls gs k) g = Z0E (Z0D ls gs m) g := by rw [Z6d ls gs k g h1, Z6d ls gs m g h2]
def Z17 (ls : List (Int × Int)) (gs : List PGrp) (g : Nat) : List Int := Z0E (Z0D ls gs gs.length) g
def Z0b (ls : List (Int × Int)) (gs : List PGrp) (g : Nat) : List (List Int) := (Z05 gs g).map (Z17 ls gs)
def Z1c (ls : List (Int × Int)) (gs : List PGrp) (g : Nat) : List Int := Z23 (Z0c gs g).lvl (Z0c gs g).items.length (Z0b ls gs g)
theorem Z4s {ls : List (Int × Int)} {gs : List PGrp} (hF : Forest ls gs) {g : Nat} (hg : g < gs.length) : Z17 ls gs g = Z1z (Z1c ls gs g) (decide ((Z0c gs g).lvl = (ls.length : Int) - 1)) (Z2L ls gs g).1 (Z2L ls gs g).2 := by
 unfold Z17 Z1c Z0b
 rw [Z6d ls gs _ g hg]
 congr 2
 refine Kbg (fun h hh => ?_)
 have pA := hF.below g hg h hh
 exact Zex ls gs pA (by omega)
theorem Z3Q {ls : List (Int × Int)} {gs : List PGrp} (hF : Forest ls gs) {g : Nat} (hg : g < gs.length) : 0 <= (Z2L ls gs g).2 := by
 obtain ⟨a, b⟩ := hF.lvl g hg
 have hi : (Z0c gs g).lvl.toNat < ls.length := by omega
 unfold Z2L
 rw [Z2, Z3 hi]
 exact hF.cents _ (Z4 hi)
theorem Zc0 {ls : List (Int × Int)} {gs : List PGrp} (hF : Forest ls gs) {g : Nat} (hg : g < gs.length) (hs : Z7G (Z0b ls gs g)) : (∀ x ∈ Z1c ls gs g, -1 <= x) /\ 0 < (Z1c ls gs g).length := by
 unfold Z1c Z23
 by_cases h0 : (Z0c gs g).lvl = 0
 ·rw [if_pos h0]
  refine ⟨fun x hx => ?_, by simp⟩
  rcases ZG.1 hx with hx | hx
  ·rw [(List.mem_replicate.1 hx).2]; decide
  ·obtain rfl := ZI.1 hx; decide
 ·rw [if_neg h0]
  have pF := (hF.parts g hg (by have := (hF.lvl g hg).1; omega)).2
  have hl : (Z0b ls gs g).length ≠ 0 := by unfold Z0b; rw [Z7]; exact fun h => pF (Kag.1 h)
  rw [if_neg hl]
  exact Z4R hs _ (Z1 _)
theorem Zcd {ls : List (Int × Int)} {gs : List PGrp} (hF : Forest ls gs) : ∀ g, g < gs.length -> (∀ x ∈ Z17 ls gs g, -1 <= x) /\ 0 < (Z17 ls gs g).length := by
 intro g
 induction g using Nat.strongRecOn with
 | ind g ih =>
  intro hg
  have hs : Z7G (Z0b ls gs g) := fun t ht => by
   obtain ⟨h, hh, rfl⟩ := Kae.1 ht
   have := hF.below g hg h hh
   exact ih h this (by omega)
  obtain ⟨a, b⟩ := Zc0 hF hg hs
  rw [Z4s hF hg]
  exact ZgX _ _ _ _ a b (Z3Q hF hg)
theorem Z4t {ls : List (Int × Int)} {gs : List PGrp} (hF : Forest ls gs) {g : Nat} (hg : g < gs.length) : Z7G (Z0b ls gs g) := fun t ht => by
 obtain ⟨h, hh, rfl⟩ := Kae.1 ht
 have := hF.below g hg h hh
 exact Zcd hF h (by omega)
def takeN (p : Int -> Int) (g : PGrp) : Nat := g.items.countP (fun i => decide (p i = g.lvl))
def Z3o (p : Int -> Int) (g : PGrp) : Nat := g.items.countP (fun i => decide (g.lvl < p i))
def Z3Z (ls : List (Int × Int)) (z : Int) : Int := (ls.getD z.toNat (0, 0)).2
def Z67 (ls : List (Int × Int)) (p : Int -> Int) (g : PGrp) : Int := (g.items.map (fun i => if p i <= g.lvl then Z3Z ls (p i) else 0)).sum
end
section
theorem ZeV (N : Nat) (q : Nat -> Nat) : ∀ k, k <= N -> sQ N q k + ((List.range (N - k)).map q).sum = ((List.range N).map q).sum
 | 0, _ => by show 0 + _ = _; rw [Ka0]; rfl
 | k + 1, hk => by
  have ih := ZeV N q k (by omega)
  rw [show N - k = (N - (k + 1)) + 1 by omega, Kaq, ZD, Kbo] at ih
  simp only [Kan, Kbe, Ka7, List.sum_nil] at ih
  unfold sQ
  rw [show N - 1 - k = N - (k + 1) by omega]
  omega
theorem Ziv (N : Nat) (s : Nat -> Int) : ∀ k, k <= N -> sS s N k + ((List.range (N - k)).map s).sum = ((List.range N).map s).sum
 | 0, _ => by show 0 + _ = _; rw [Int.zero_add]; rfl
 | k + 1, hk => by
  have ih := Ziv N s k (by omega)
  rw [show N - k = (N - (k + 1)) + 1 by omega, Kaq, ZD, Kbo] at ih
  simp only [Kan, Kbe, Ka7, List.sum_nil] at ih
  unfold sS
  rw [show N - 1 - k = N - (k + 1) by omega]
  omega
theorem Z18 {β : Type} (l : List Nat) (f : Nat -> β) : (List.range l.length).map (fun i => f (l.getD i 0)) = l.map f := by
 apply Kcf
 ·simp
 ·intro i h1 h2
  have hi : i < l.length := by simpa using h2
  simp only [Kba, Kbv, Z2, Z3 hi]
  rfl
theorem Zhw {l l' : List Int} (h : l.Perm l') : l.sum = l'.sum := by
 induction h with
 | nil => rfl
 | cons x _ ih => simp only [Ka7, ih]
 | swap x y l => simp only [Ka7]; omega
 | trans _ _ ih1 ih2 => rw [ih1, ih2]
theorem ZbT {α : Type} (l : List α) (f : α -> List Int) (w : Int -> Int) : ((l.flatMap f).map w).sum = (l.map (fun a => ((f a).map w).sum)).sum := by
 induction l with
 | nil => rfl
 | cons a r ih => rw [Kao, ZD, Kbo, ih, Kan, Ka7]
theorem Z9n {α : Type} (l : List α) (f : α -> List Int) (w : Int -> Bool) : (l.flatMap f).countP w = (l.map (fun a => (f a).countP w)).sum := by
 induction l with
 | nil => rfl
 | cons a r ih => rw [Kao, List.countP_append, ih, Kan, Ka7]
structure PlanOk (ls : List (Int × Int)) (gs : List PGrp) (p : Int -> Int) : Prop where
 num : ∀ g, g < gs.length -> ∀ i ∈ (Z0c gs g).items, 0 <= p i /\ p i < (ls.length : Int)
 enough : ∀ g, g < gs.length -> takeN p (Z0c gs g) = 0 \/ (Z2L ls gs g).1 <= (takeN p (Z0c gs g) : Int)
theorem ZbY (p : Int -> Int) (m : Int) (l : List Int) : l.countP (fun i => decide (m - 1 < p i)) = l.countP (fun i => decide (p i = m)) + l.countP (fun i => decide (m < p i)) := by
 induction l with
 | nil => rfl
 | cons x r ih =>
  simp only [List.countP_cons, ih, Kab]
  by_cases h1 : p x = m
  ·rw [if_pos (show m - 1 < p x by omega), if_pos h1, if_neg (show ¬ m < p x by omega)]; omega
  ·rw [if_neg h1]
   by_cases h2 : m < p x
   ·rw [if_pos (show m - 1 < p x by omega), if_pos h2]; omega
   ·rw [if_neg (show ¬ m - 1 < p x by omega), if_neg h2]; omega
theorem Zdt (ls : List (Int × Int)) (p : Int -> Int) (m : Int) (l : List Int) : (l.map (fun i => if p i <= m then Z3Z ls (p i) else 0)).sum = (l.map (fun i => if p i <= m - 1 then Z3Z ls (p i) else 0)).sum + (l.countP (fun i => decide (p i = m)) : Int) * Z3Z ls m := by
 induction l with
 | nil => simp
 | cons x r ih =>
  simp only [Kan, Ka7, List.countP_cons, ih, Kab]
  generalize r.countP (fun i => decide (p i = m)) = n
  generalize (r.map (fun i => if p i <= m - 1 then Z3Z ls (p i) else 0)).sum = t
  by_cases h1 : p x = m
  ·rw [if_pos h1, if_pos (by omega), if_neg (by omega), h1]
   have e : ((n + 1 : Nat) : Int) * Z3Z ls m = (n : Int) * Z3Z ls m + Z3Z ls m := by rw [Kc3, Int.add_mul]; simp
   rw [e]
   generalize (n : Int) * Z3Z ls m = z
   omega
  ·rw [if_neg h1, Kdc]
   generalize (n : Int) * Z3Z ls m = z
   by_cases h2 : p x <= m - 1
   ·rw [if_pos h2, if_pos (by omega)]; omega
   ·rw [if_neg h2, if_neg (by omega)]; omega
theorem Zc2 {ls : List (Int × Int)} {gs : List PGrp} (hF : Forest ls gs) (z : Int) : 0 <= Z3Z ls z := by
 unfold Z3Z
 by_cases h : z.toNat < ls.length
 ·rw [Z2, Z3 h]; exact hF.cents _ (Z4 h)
 ·rw [Z2, Kbx (by omega)]; exact Kbi _
theorem Z47 {ls : List (Int × Int)} {gs : List PGrp} (hF : Forest ls gs) (p : Int -> Int) (g : PGrp) : 0 <= Z67 ls p g := by
 unfold Z67
 generalize g.items = l
 induction l with
 | nil => simp
 | cons x r ih =>
  rw [Kan, Ka7]
  have := Zc2 hF (p x)
  split <;> omega
theorem Zjh (ls : List (Int × Int)) (gs : List PGrp) (g : Nat) : (Z2L ls gs g).2 = Z3Z ls (Z0c gs g).lvl := rfl
theorem ZdC {ls : List (Int × Int)} {gs : List PGrp} (hF : Forest ls gs) {p : Int -> Int} (hp : PlanOk ls gs p) : ∀ g, g < gs.length -> Z67 ls p (Z0c gs g) <= ent (Z17 ls gs g) (Z3o p (Z0c gs g)) := by
 intro g
 induction g using Nat.strongRecOn with
 | ind g ih =>
  intro hg
  obtain ⟨l0, l1⟩ := hF.lvl g hg
  have pO := Z3Q hF hg
  have tQ := Zc0 hF hg (Z4t hF hg)
  rw [Z4s hF hg]
  have qR : Z67 ls p (Z0c gs g) = ((Z0c gs g).items.map (fun i => if p i <= (Z0c gs g).lvl - 1 then Z3Z ls (p i) else 0)).sum + (takeN p (Z0c gs g) : Int) * (Z2L ls gs g).2 := by
   unfold Z67 takeN; rw [Zjh]; exact Zdt ls p _ _
  have tR : (Z0c gs g).items.countP (fun i => decide ((Z0c gs g).lvl - 1 < p i)) = takeN p (Z0c gs g) + Z3o p (Z0c gs g) := ZbY p _ _
  obtain ⟨Q, hQ⟩ : ∃ Q, (Z0c gs g).items.countP (fun i => decide ((Z0c gs g).lvl - 1 < p i)) = Q := ⟨_, rfl⟩
  obtain ⟨s, hs⟩ : ∃ s, ((Z0c gs g).items.map (fun i => if p i <= (Z0c gs g).lvl - 1 then Z3Z ls (p i) else 0)).sum = s := ⟨_, rfl⟩
  rw [hQ] at tR
  rw [hs] at qR
  have rN : decide ((Z0c gs g).lvl = (ls.length : Int) - 1) = true -> Q - takeN p (Z0c gs g) = 0 := fun h => by
   have hl : (Z0c gs g).lvl = (ls.length : Int) - 1 := of_decide_eq_true h
   have : Z3o p (Z0c gs g) = 0 := by
    unfold Z3o
    rw [List.countP_eq_zero]
    intro i hi
    have := (hp.num g hg i hi).2
    simp; omega
   omega
  have key : s <= ent (Z1c ls gs g) Q /\ 0 <= s := by
   by_cases h0 : (Z0c gs g).lvl = 0
   ·have tL : s = 0 := by
     rw [<- hs]
     have : (Z0c gs g).items.map (fun i => if p i <= (Z0c gs g).lvl - 1 then Z3Z ls (p i) else 0) = (Z0c gs g).items.map (fun _ => (0 : Int)) := Kbg (fun i hi => by
      have := (hp.num g hg i hi).1
      rw [if_neg (by omega)])
     rw [this]
     generalize (Z0c gs g).items = l
     induction l with
     | nil => rfl
     | cons x r ih => simpa using ih
    have tS : Q = (Z0c gs g).items.length := by
     rw [<- hQ, List.countP_eq_length]
     intro i hi
     have := (hp.num g hg i hi).1
     simp; omega
    have he : ent (Z1c ls gs g) Q = 0 := by
     unfold Z1c Z23
     rw [if_pos h0, tS]
     unfold ent
     rw [Z2, Kaz (by simp)]
     simp
    omega
   ·have qS : 0 < (Z0c gs g).lvl := by omega
    obtain ⟨rP, pF⟩ := hF.parts g hg qS
    have hl : (Z0b ls gs g).length = (Z05 gs g).length := by unfold Z0b; rw [Z7]
    have qF : Z1c ls gs g = Z06 (Z0b ls gs g) (Z0b ls gs g).length := by
     unfold Z1c Z23
     rw [if_neg h0, if_neg (by rw [hl]; exact fun h => pF (Kag.1 h))]
    have tT : ∀ i, i < (Z05 gs g).length -> (Z05 gs g).getD i 0 ∈ Z05 gs g := fun i hi => by
     rw [Z2, Z3 hi]; exact Z4 hi
    have rD : ∀ i, i < (Z05 gs g).length -> Z0E (Z0b ls gs g) i = Z17 ls gs ((Z05 gs g).getD i 0) := fun i hi => by
     unfold Z0E Z0b
     rw [Z2, Kal, Z2, Z3 hi]; rfl
    have rE : ∀ i, i < (Z0b ls gs g).length -> Z67 ls p (Z0c gs ((Z05 gs g).getD i 0)) <= ent (Z0E (Z0b ls gs g) i) (Z3o p (Z0c gs ((Z05 gs g).getD i 0))) := fun i hi => by
     rw [hl] at hi
     have hb := hF.below g hg _ (tT i hi)
     rw [rD i hi]
     exact ih _ hb (by omega)
    have qT : ZkZ (Z0b ls gs g) (fun i => Z3o p (Z0c gs ((Z05 gs g).getD i 0))) (Z0b ls gs g).length := fun j hj => by
     have := rE ((Z0b ls gs g).length - 1 - j) (by omega)
     have h2 := Z47 hF p (Z0c gs ((Z05 gs g).getD ((Z0b ls gs g).length - 1 - j) 0))
     have sI : ent (Z0E (Z0b ls gs g) ((Z0b ls gs g).length - 1 - j)) (Z3o p (Z0c gs ((Z05 gs g).getD ((Z0b ls gs g).length - 1 - j) 0))) ≠ -1 := by omega
     exact ⟨Z55 sI, sI⟩
    obtain ⟨b1, b2⟩ := Zah (Z4t hF hg) (fun i => Z3o p (Z0c gs ((Z05 gs g).getD i 0))) _ (Z1 _) qT
    have b3 := Zk9 (ts := Z0b ls gs g) (q := fun i => Z3o p (Z0c gs ((Z05 gs g).getD i 0))) (s := fun i => Z67 ls p (Z0c gs ((Z05 gs g).getD i 0))) _ (Z1 _) rE
    have q1 := ZeV (Z0b ls gs g).length (fun i => Z3o p (Z0c gs ((Z05 gs g).getD i 0))) _ (Z1 _)
    have s1 := Ziv (Z0b ls gs g).length (fun i => Z67 ls p (Z0c gs ((Z05 gs g).getD i 0))) _ (Z1 _)
    rw [Kb3, hl] at q1 s1
    rw [Z18 (Z05 gs g) (fun h => Z3o p (Z0c gs h))] at q1
    rw [Z18 (Z05 gs g) (fun h => Z67 ls p (Z0c gs h))] at s1
    simp only [List.range_zero, Kbe, List.sum_nil] at q1 s1
    have uO : Q = ((Z05 gs g).map (fun h => Z3o p (Z0c gs h))).sum := by
     rw [<- hQ, <- rP.countP_eq, Z9n]
     congr 1
     refine Kbg (fun h hh => ?_)
     unfold Z3o
     have := hF.sub g hg h hh
     rw [show (Z0c gs g).lvl - 1 = (Z0c gs h).lvl by omega]
    have tU : s = ((Z05 gs g).map (fun h => Z67 ls p (Z0c gs h))).sum := by
     rw [<- hs, <- Zhw (rP.map _), ZbT]
     congr 1
     refine Kbg (fun h hh => ?_)
     unfold Z67
     have := hF.sub g hg h hh
     rw [show (Z0c gs g).lvl - 1 = (Z0c gs h).lvl by omega]
    rw [hl] at b2 b3
    rw [qF, hl]
    have e1 : sQ (Z05 gs g).length (fun i => Z3o p (Z0c gs ((Z05 gs g).getD i 0))) (Z05 gs g).length = Q := by omega
    have e2 : sS (fun i => Z67 ls p (Z0c gs ((Z05 gs g).getD i 0))) (Z05 gs g).length (Z05 gs g).length = s := by omega
    rw [e1] at b2
    rw [e2] at b3
    refine ⟨by omega, ?_⟩
    rw [tU]
    generalize Z05 gs g = l
    induction l with
    | nil => simp
    | cons x r ih' =>
     rw [Kan, Ka7]
     have := Z47 hF p (Z0c gs x)
     have := ih'
     omega
  have := ZeB (Z1c ls gs g) (decide ((Z0c gs g).lvl = (ls.length : Int) - 1)) (Z2L ls gs g).1 (Z2L ls gs g).2 pO tQ.1 key.1 key.2 (t := takeN p (Z0c gs g)) (by omega) (hp.enough g hg) rN
  rw [show Q - takeN p (Z0c gs g) = Z3o p (Z0c gs g) by omega] at this
  rw [qR]
  exact this
end
section
def Z71 (ls : List (Int × Int)) (gs : List PGrp) (tabs : List (List Int)) (g : Nat) (P : Int) : Nat × Int × List Nat :=
 Z1k (Z2L ls gs g).1 (Z2L ls gs g).2 P ((tabs.getD g []).getD P.toNat (-1)) ((Z05 gs g).map (fun h => tabs.getD h [])) (Z05 gs g).length
theorem Z4b (ls : List (Int × Int)) (gs : List PGrp) (tabs : List (List Int)) (k : Nat) : Z1L ls gs tabs (k + 1) = fun h => match (Z05 gs (gs.length - 1 - k)).idxOf? h with
 | some i => (((Z71 ls gs tabs (gs.length - 1 - k) (Z1L ls gs tabs k (gs.length - 1 - k))).2.2.getD i 0 : Nat) : Int)
 | none => Z1L ls gs tabs k h := rfl
theorem Z2X {gs : List PGrp} {g h : Nat} : h ∈ Z05 gs g ↔ h < gs.length /\ (Z0c gs h).up = (g : Int) := by
 unfold Z05 Z0c
 rw [Kbh, Ka8, Kab]
theorem Z1U (gs : List PGrp) (g : Nat) : (Z05 gs g).Nodup := by
 unfold Z05
 exact List.Nodup.sublist List.filter_sublist List.nodup_range
theorem Z50 {l : List Nat} {h : Nat} (hn : h ∉ l) : l.idxOf? h = none := by
 rw [List.idxOf?_eq_none_iff]; exact hn
theorem Z3S {l : List Nat} (hd : l.Nodup) {i : Nat} (hi : i < l.length) : l.idxOf? l[i] = some i := by
 induction l generalizing i with
 | nil => simp at hi
 | cons x r ih =>
  rw [List.nodup_cons] at hd
  cases i with
  | zero => simp [List.idxOf?_cons]
  | succ i =>
   have hi' : i < r.length := by simpa using hi
   have pF : x ≠ r[i] := fun e => hd.1 (by rw [e]; exact Z4 hi')
   rw [List.getElem_cons_succ, List.idxOf?_cons, ih hd.2 hi']
   simp [pF]
theorem Z4M (ls : List (Int × Int)) (gs : List PGrp) (tabs : List (List Int)) (h : Nat) (k : Nat) : ∀ m, k <= m -> (∀ j, k <= j -> j < m -> h ∉ Z05 gs (gs.length - 1 - j)) -> Z1L ls gs tabs m h = Z1L ls gs tabs k h
 | 0, hk, _ => by obtain rfl : k = 0 := (by omega); rfl
 | m + 1, hk, pH => by
  by_cases e : k = m + 1
  ·subst e; rfl
  ·have ih := Z4M ls gs tabs h k m (by omega) (fun j h1 h2 => pH j h1 (by omega))
   rw [Z4b]
   dsimp only
   rw [Z50 (pH m (by omega) (by omega))]
   exact ih
def Z13 (ls : List (Int × Int)) (gs : List PGrp) : Nat -> Int := Z1L ls gs (Z0D ls gs gs.length) gs.length
theorem Zhy {ls : List (Int × Int)} {gs : List PGrp} (hF : Forest ls gs) {g : Nat} (hg : g < gs.length) : Z1L ls gs (Z0D ls gs gs.length) (gs.length - 1 - g) g = Z13 ls gs g := by
 unfold Z13
 refine (Z4M ls gs _ g (gs.length - 1 - g) gs.length (by omega) (fun j h1 h2 hm => ?_)).symm
 have := hF.below (gs.length - 1 - j) (by omega) g hm
 omega
theorem Zcz {ls : List (Int × Int)} {gs : List PGrp} (hF : Forest ls gs) {g : Nat} (hg : g < gs.length) {i : Nat} (hi : i < (Z05 gs g).length) :
 Z13 ls gs ((Z05 gs g).getD i 0) = (((Z71 ls gs (Z0D ls gs gs.length) g (Z13 ls gs g)).2.2.getD i 0 : Nat) : Int) := by
 have e : (Z05 gs g).getD i 0 = (Z05 gs g)[i] := by rw [Z2, Z3 hi]; rfl
 have hm := Z4 hi
 obtain ⟨_, tV⟩ := Z2X.1 hm
 have h1 : Z13 ls gs (Z05 gs g)[i] = Z1L ls gs (Z0D ls gs gs.length) (gs.length - 1 - g + 1) (Z05 gs g)[i] := by
  unfold Z13
  refine Z4M ls gs _ _ (gs.length - 1 - g + 1) gs.length (by omega) (fun j h1 h2 pP => ?_)
  obtain ⟨_, tW⟩ := Z2X.1 pP
  rw [tV] at tW
  omega
 rw [e, h1, Z4b]
 dsimp only
 rw [show gs.length - 1 - (gs.length - 1 - g) = g by omega, Z3S (Z1U gs g) hi, Zhy hF hg]
theorem Zcy (ls : List (Int × Int)) (gs : List PGrp) {g : Nat} (h : ∀ p, p < gs.length -> g ∉ Z05 gs p) : Z13 ls gs g = 0 := by
 unfold Z13
 rw [Z4M ls gs _ g 0 gs.length (ZE _) (fun j h1 h2 => h _ (by omega))]
 rfl
end
section
def pN (ls : List (Int × Int)) (gs : List PGrp) (g : Nat) : Nat := (Z13 ls gs g).toNat
def qN (ls : List (Int × Int)) (gs : List PGrp) (g : Nat) : Nat := if (Z0c gs g).lvl = 0 then (Z0c gs g).items.length else ((Z05 gs g).map (pN ls gs)).sum
def sN (ls : List (Int × Int)) (gs : List PGrp) (g : Nat) : Int := if (Z0c gs g).lvl = 0 then 0 else ((Z05 gs g).map (fun h => ent (Z17 ls gs h) (pN ls gs h))).sum
structure PassOk (ls : List (Int × Int)) (gs : List PGrp) (g : Nat) : Prop where
 nn : 0 <= Z13 ls gs g
 poss : ent (Z17 ls gs g) (pN ls gs g) ≠ -1
structure PassEq (ls : List (Int × Int)) (gs : List PGrp) (g : Nat) : Prop where
 le : pN ls gs g <= qN ls gs g
 enough : qN ls gs g - pN ls gs g = 0 \/ (Z2L ls gs g).1 <= ((qN ls gs g - pN ls gs g : Nat) : Int)
 val : ent (Z17 ls gs g) (pN ls gs g) = sN ls gs g + ((qN ls gs g - pN ls gs g : Nat) : Int) * (Z2L ls gs g).2
theorem Z6L {mn cents : Int} {P c : Nat} (h : Z0j mn cents (P : Nat) (c : Nat) ≠ -1) : P <= c /\ (c - P = 0 \/ mn <= ((c - P : Nat) : Int)) /\ Z0j mn cents (P : Nat) (c : Nat) = ((c - P : Nat) : Int) * cents := by
 unfold Z0j at h ⊢
 split at h
 ·exact absurd rfl h
 ·rename_i hn
  rw [if_neg hn]
  refine ⟨by omega, by omega, ?_⟩
  congr 1; omega
theorem ZaH (n k : Nat) : ent (List.replicate n (-1) ++ [0]) k ≠ -1 -> k = n /\ ent (List.replicate n (-1) ++ [0]) k = 0 := by
 intro h
 unfold ent at h ⊢
 rw [Z2] at h ⊢
 by_cases h1 : k < n
 ·rw [Ka6 (by simpa using h1), List.getElem?_replicate, if_pos h1] at h
  exact absurd rfl h
 ·by_cases h2 : k = n
  ·subst h2
   rw [Kaz (by simp)]
   simp
  ·rw [Kbx (by simp; omega)] at h
   exact absurd rfl h
theorem Z2V {ls : List (Int × Int)} {gs : List PGrp} (hF : Forest ls gs) {g : Nat} (hg : g < gs.length) (hp : PassOk ls gs g) :
 PassEq ls gs g /\ (0 < (Z0c gs g).lvl -> ∀ h ∈ Z05 gs g, PassOk ls gs h) := by
 obtain ⟨l0, l1⟩ := hF.lvl g hg
 have pO := Z3Q hF hg
 have tX := Zc0 hF hg (Z4t hF hg)
 have pA := Z55 hp.poss
 have rD := Z4s hF hg
 have qT := hp.poss
 rw [rD] at pA qT
 rw [Z9I] at pA
 have sJ := ZaI (Z1c ls gs g) (decide ((Z0c gs g).lvl = (ls.length : Int) - 1)) (Z2L ls gs g).1 (Z2L ls gs g).2 pA
 rw [sJ] at qT
 obtain ⟨j, hj, a1, a2, a3⟩ := (Z9u (Z1c ls gs g) (Z2L ls gs g).1 (Z2L ls gs g).2 (pN ls gs g) tX.1 pO _).resolve_left qT
 have rQ : ent (Z17 ls gs g) (pN ls gs g) = ent (Z1c ls gs g) (pN ls gs g + j) + Z0j (Z2L ls gs g).1 (Z2L ls gs g).2 (pN ls gs g : Nat) (pN ls gs g + j : Nat) := by rw [rD, sJ, a3]
 by_cases h0 : (Z0c gs g).lvl = 0
 ·have qF : Z1c ls gs g = List.replicate (Z0c gs g).items.length (-1) ++ [0] := by unfold Z1c Z23; rw [if_pos h0]
  rw [qF] at a2 rQ
  obtain ⟨e1, e2⟩ := ZaH _ _ a2
  have hq : qN ls gs g = pN ls gs g + j := by unfold qN; rw [if_pos h0]; exact e1.symm
  obtain ⟨b1, b2, b3⟩ := Z6L a1
  refine ⟨⟨by omega, by rw [hq]; exact b2, ?_⟩, fun h => by omega⟩
  rw [rQ, e2, b3, hq]
  unfold sN
  rw [if_pos h0]
 ·have qS : 0 < (Z0c gs g).lvl := by omega
  obtain ⟨rP, pF⟩ := hF.parts g hg qS
  have hl : (Z0b ls gs g).length = (Z05 gs g).length := by unfold Z0b; rw [Z7]
  have qF : Z1c ls gs g = Z06 (Z0b ls gs g) (Z0b ls gs g).length := by
   unfold Z1c Z23
   rw [if_neg h0, if_neg (by rw [hl]; exact fun h => pF (Kag.1 h))]
  have rR : Z13 ls gs g = (pN ls gs g : Nat) := by unfold pN; have := hp.nn; omega
  have sK := Zgc (mn := (Z2L ls gs g).1) (cents := (Z2L ls gs g).2) (P := Z13 ls gs g) (most := ent (Z17 ls gs g) (pN ls gs g)) (Z4t hF hg)
   ⟨pN ls gs g + j, by rw [<- qF]; exact a2, by rw [rR]; exact a1, by rw [<- qF, rR]; exact rQ.symm⟩ (Z0b ls gs g).length (Z1 _)
  have tY : Z1k (Z2L ls gs g).1 (Z2L ls gs g).2 (Z13 ls gs g) (ent (Z17 ls gs g) (pN ls gs g)) (Z0b ls gs g) (Z0b ls gs g).length = Z71 ls gs (Z0D ls gs gs.length) g (Z13 ls gs g) := by
   unfold Z71
   rw [hl]
   rfl
  rw [tY] at sK
  obtain ⟨d1, d2, d3, d4, r, d5, d6, d7⟩ := sK
  have tZ : r = 0 := by
   rw [Kb3] at d5
   have := Z55 d5
   simpa [Z06] using this
  subst tZ
  rw [Kb3] at d5 d7
  have hz : ent (Z06 (Z0b ls gs g) 0) 0 = 0 := rfl
  rw [hz] at d7
  rw [Kdc] at d6 d7
  rw [hl] at d1 d3 d4
  have rS : ∀ i, i < (Z05 gs g).length -> pN ls gs ((Z05 gs g).getD i 0) = (Z71 ls gs (Z0D ls gs gs.length) g (Z13 ls gs g)).2.2.getD i 0 := fun i hi => by
   unfold pN; rw [Zcz hF hg hi]; rfl
  have sL : ∀ i, i < (Z05 gs g).length -> Z0E (Z0b ls gs g) i = Z17 ls gs ((Z05 gs g).getD i 0) := fun i hi => by
   unfold Z0E Z0b
   rw [Z2, Kal, Z2, Z3 hi]; rfl
  have rF : (Z71 ls gs (Z0D ls gs gs.length) g (Z13 ls gs g)).1 = qN ls gs g := by
   rw [d2]
   unfold qN
   rw [if_neg h0, <- Z18 (Z05 gs g) (pN ls gs)]
   have e : (Z71 ls gs (Z0D ls gs gs.length) g (Z13 ls gs g)).2.2 = (List.range (Z05 gs g).length).map (fun i => (Z71 ls gs (Z0D ls gs gs.length) g (Z13 ls gs g)).2.2.getD i 0) := by
    rw [<- d1]
    have := Z18 (Z71 ls gs (Z0D ls gs gs.length) g (Z13 ls gs g)).2.2 (fun x => x)
    rw [this]; simp
   rw [e]
   congr 1
   exact (Kbg (fun i hi => rS i (Ka8.1 hi))).symm
  have uA : (Z71 ls gs (Z0D ls gs gs.length) g (Z13 ls gs g)).2.1 = sN ls gs g := by
   rw [d4]
   unfold sN
   rw [if_neg h0, <- Z18 (Z05 gs g) (fun h => ent (Z17 ls gs h) (pN ls gs h))]
   congr 1
   refine Kbg (fun i hi => ?_)
   have hi' := Ka8.1 hi
   rw [sL i hi', rS i hi']
  rw [rF] at d6 d7
  rw [uA] at d7
  rw [rR] at d6 d7
  obtain ⟨b1, b2, b3⟩ := Z6L d6
  refine ⟨⟨b1, b2, ?_⟩, fun _ h hh => ?_⟩
  ·rw [<- d7, b3]; omega
  ·obtain ⟨i, hi, rfl⟩ := Kau.1 hh
   have e : (Z05 gs g).getD i 0 = (Z05 gs g)[i] := by rw [Z2, Z3 hi]; rfl
   refine ⟨?_, ?_⟩
   ·rw [<- e, Zcz hF hg hi]; omega
   ·have := d3 i hi
    rw [sL i hi, <- rS i hi, e] at this
    exact this
end
section
theorem ZcA {ls : List (Int × Int)} {gs : List PGrp} (hF : Forest ls gs) (sM : ∀ g, g < gs.length -> (∀ p, p < gs.length -> g ∉ Z05 gs p) -> ent (Z17 ls gs g) 0 ≠ -1) : ∀ m g, gs.length - g <= m -> g < gs.length -> PassOk ls gs g
 | 0, g, h, hg => by omega
 | m + 1, g, h, hg => by
  by_cases hex : ∃ p, p < gs.length /\ g ∈ Z05 gs p
  ·obtain ⟨p, hp, qC⟩ := hex
   have pA := hF.below p hp g qC
   have ih := ZcA hF sM m p (by omega) hp
   have hs := hF.sub p hp g qC
   have h0 := (hF.lvl g hg).1
   exact (Z2V hF hp ih).2 (by omega) g qC
  ·have pH : ∀ p, p < gs.length -> g ∉ Z05 gs p := fun p hp hm => hex ⟨p, hp, hm⟩
   have e := Zcy ls gs pH
   refine ⟨by rw [e]; exact Kbi _, ?_⟩
   unfold pN
   rw [e]
   exact sM g hg pH
theorem Z7j (x : Int) : ∀ l : List Int, (ZiF x l).Perm (x :: l)
 | [] => List.Perm.refl _
 | y :: r => by
  unfold ZiF
  split
  ·exact List.Perm.refl _
  ·exact ((Z7j x r).cons y).trans (List.Perm.swap x y r)
theorem Z0N : ∀ l : List Int, (Z1l l).Perm l
 | [] => List.Perm.refl _
 | x :: l => by
  show (ZiF x (Z1l l)).Perm (x :: l)
  exact (Z7j x _).trans ((Z0N l).cons x)
theorem Z1t (gs : List PGrp) (f : Nat -> Int) (k : Nat) (p : List Int) : Z0M gs f (k + 1) p =
 (((Z1l ((if (Z0c gs k).lvl = 0 then (Z0c gs k).items else []) ++ (Z05 gs k).flatMap (fun h => (Z0M gs f k p).2.getD h []))).take ((Z1l ((if (Z0c gs k).lvl = 0 then (Z0c gs k).items else []) ++ (Z05 gs k).flatMap (fun h => (Z0M gs f k p).2.getD h []))).length - (f k).toNat)).foldl (fun q i => q.set i.toNat (Z0c gs k).lvl) (Z0M gs f k p).1,
  (Z0M gs f k p).2 ++ [(Z1l ((if (Z0c gs k).lvl = 0 then (Z0c gs k).items else []) ++ (Z05 gs k).flatMap (fun h => (Z0M gs f k p).2.getD h []))).drop ((Z1l ((if (Z0c gs k).lvl = 0 then (Z0c gs k).items else []) ++ (Z05 gs k).flatMap (fun h => (Z0M gs f k p).2.getD h []))).length - (f k).toNat)]) := rfl
theorem Z6f (gs : List PGrp) (f : Nat -> Int) (p : List Int) : ∀ k, (Z0M gs f k p).2.length = k
 | 0 => rfl
 | k + 1 => by rw [Z1t]; simp [Z6f gs f p k]
def Z0m (gs : List PGrp) (f : Nat -> Int) (g : Nat) : List Int := (Z0M gs f (g + 1) []).2.getD g []
theorem Z4L (gs : List PGrp) (f : Nat -> Int) (p p' : List Int) : ∀ k, (Z0M gs f k p).2 = (Z0M gs f k p').2
 | 0 => rfl
 | k + 1 => by rw [Z1t, Z1t, Z4L gs f p p' k]
theorem Z8h (gs : List PGrp) (f : Nat -> Int) (p : List Int) : ∀ k g, g < k -> (Z0M gs f k p).2.getD g [] = Z0m gs f g
 | 0, g, h => absurd h (Ka2 _)
 | k + 1, g, h => by
  have hl := Z6f gs f p k
  by_cases e : g = k
  ·subst e
   unfold Z0m
   rw [Z4L gs f p [] (g + 1)]
  ·rw [<- Z8h gs f p k g (by omega), Z1t]
   simp only [Z2]
   rw [Ka6 (by omega)]
def Z1o (gs : List PGrp) (f : Nat -> Int) (g : Nat) : List Int := Z1l ((if (Z0c gs g).lvl = 0 then (Z0c gs g).items else []) ++ (Z05 gs g).flatMap (Z0m gs f))
def Z3n (gs : List PGrp) (f : Nat -> Int) (g : Nat) : List Int := (Z1o gs f g).take ((Z1o gs f g).length - (f g).toNat)
theorem Zgj {ls : List (Int × Int)} {gs : List PGrp} (hF : Forest ls gs) (f : Nat -> Int) (p : List Int) {g : Nat} (hg : g < gs.length) :
 Z1l ((if (Z0c gs g).lvl = 0 then (Z0c gs g).items else []) ++ (Z05 gs g).flatMap (fun h => (Z0M gs f g p).2.getD h [])) = Z1o gs f g := by
 unfold Z1o
 congr 2
 have : ∀ l : List Nat, (∀ h ∈ l, h < g) -> l.flatMap (fun h => (Z0M gs f g p).2.getD h []) = l.flatMap (Z0m gs f) := fun l => by
  induction l with
  | nil => intro _; rfl
  | cons x r ih =>
   intro hl
   rw [Kao, Kao, ih (fun h hh => hl h (Kaj _ hh)), Z8h gs f p g x (hl x Kaf)]
 exact this _ (fun h hh => hF.below g hg h hh)
theorem Z3z {ls : List (Int × Int)} {gs : List PGrp} (hF : Forest ls gs) (f : Nat -> Int) {g : Nat} (hg : g < gs.length) : Z0m gs f g = (Z1o gs f g).drop ((Z1o gs f g).length - (f g).toNat) := by
 unfold Z0m
 rw [Z1t, Zgj hF f [] hg]
 simp only [Z2]
 rw [Kaz (by rw [Z6f]; exact Z1 _), Z6f, Kb3]
 rfl
theorem Za4 {ls : List (Int × Int)} {gs : List PGrp} (hF : Forest ls gs) (f : Nat -> Int) (p : List Int) {g : Nat} (hg : g < gs.length) : (Z0M gs f (g + 1) p).1 = (Z3n gs f g).foldl (fun q i => q.set i.toNat (Z0c gs g).lvl) (Z0M gs f g p).1 := by
 rw [Z1t, Zgj hF f p hg]; rfl
theorem Z2Q (gs : List PGrp) {ls : List (Int × Int)} (hF : Forest ls gs) (f : Nat -> Int) {g : Nat} (hg : g < gs.length) : Z3n gs f g ++ Z0m gs f g = Z1o gs f g := by
 rw [Z3z hF f hg]
 exact Kcl _ _
theorem Zd4 {ls : List (Int × Int)} {gs : List PGrp} (hF : Forest ls gs) (hp : ∀ g, g < gs.length -> PassOk ls gs g) : ∀ g, g < gs.length -> (Z1o gs (Z13 ls gs) g).length = qN ls gs g /\ (Z0m gs (Z13 ls gs) g).length = pN ls gs g := by
 intro g
 induction g using Nat.strongRecOn with
 | ind g ih =>
  intro hg
  have uB := (Z2V hF hg (hp g hg)).1.le
  have h1 : (Z1o gs (Z13 ls gs) g).length = qN ls gs g := by
   unfold Z1o
   rw [(Z0N _).length_eq]
   by_cases h0 : (Z0c gs g).lvl = 0
   ·rw [if_pos h0]
    unfold qN
    rw [if_pos h0]
    have rT : Z05 gs g = [] := by
     rw [Kdm]
     intro h hh
     have := hF.sub g hg h hh
     have h2 := (hF.lvl h (by have := hF.below g hg h hh; omega)).1
     omega
    rw [rT]; simp
   ·rw [if_neg h0]
    unfold qN
    rw [if_neg h0, Kca, List.length_flatMap]
    congr 1
    refine Kbg (fun h hh => ?_)
    have hb := hF.below g hg h hh
    exact (ih h hb (by omega)).2
  refine ⟨h1, ?_⟩
  rw [Z3z hF _ hg, Kdp, h1]
  show qN ls gs g - (qN ls gs g - pN ls gs g) = _
  omega
end
section
structure Forest2 (ls : List (Int × Int)) (gs : List PGrp) (n : Nat) : Prop extends Forest ls gs where
 nodup : ∀ g, g < gs.length -> (Z0c gs g).items.Nodup
 alone : ∀ g, g < gs.length -> ∀ g', g' < gs.length -> (Z0c gs g).lvl = (Z0c gs g').lvl -> ∀ i, i ∈ (Z0c gs g).items -> i ∈ (Z0c gs g').items -> g = g'
 range : ∀ g, g < gs.length -> ∀ i ∈ (Z0c gs g).items, 0 <= i /\ i < (n : Int)
variable {ls : List (Int × Int)} {gs : List PGrp} {n : Nat} {f : Nat -> Int}
theorem Z2U (hF : Forest2 ls gs n) {g : Nat} (hg : g < gs.length) {i : Int} (h : i ∈ Z0m gs f g) : i ∈ Z1o gs f g := by
 rw [<- Z2Q gs hF.toForest f hg]; exact Kck _ h
theorem Z3L (hF : Forest2 ls gs n) {g : Nat} (hg : g < gs.length) {i : Int} (h : i ∈ Z3n gs f g) : i ∈ Z1o gs f g := by
 rw [<- Z2Q gs hF.toForest f hg]; exact Kcn _ h
theorem ZaN {g : Nat} {i : Int} (h : i ∈ Z1o gs f g) : ((Z0c gs g).lvl = 0 /\ i ∈ (Z0c gs g).items) \/ ∃ h ∈ Z05 gs g, i ∈ Z0m gs f h := by
 unfold Z1o at h
 rw [(Z0N _).mem_iff, ZG] at h
 rcases h with h | h
 ·by_cases h0 : (Z0c gs g).lvl = 0
  ·rw [if_pos h0] at h; exact .inl ⟨h0, h⟩
  ·rw [if_neg h0] at h; cases h
 ·obtain ⟨x, hx, hi⟩ := Ka5.1 h
  exact .inr ⟨x, hx, hi⟩
theorem Z1N (hF : Forest2 ls gs n) : ∀ g, g < gs.length -> ∀ i ∈ Z1o gs f g, i ∈ (Z0c gs g).items := by
 intro g
 induction g using Nat.strongRecOn with
 | ind g ih =>
  intro hg i hi
  rcases ZaN hi with ⟨_, h⟩ | ⟨h, hh, hp⟩
  ·exact h
  ·have hb := hF.below g hg h hh
   have hs := hF.sub g hg h hh
   have hl := (hF.lvl h (by omega)).1
   have := ih h hb (by omega) i (Z2U hF (by omega) hp)
   exact (hF.parts g hg (by omega)).1.mem_iff.1 (Ka5.2 ⟨h, hh, this⟩)
theorem Z53 {l : List Nat} {F : Nat -> List Int} (hl : l.Nodup) (h1 : ∀ h ∈ l, (F h).Nodup) (h2 : ∀ h ∈ l, ∀ h' ∈ l, ∀ i, i ∈ F h -> i ∈ F h' -> h = h') : (l.flatMap F).Nodup := by
 induction l with
 | nil => simp
 | cons x r ih =>
  rw [List.nodup_cons] at hl
  rw [Kao, Kc5]
  refine ⟨h1 x Kaf, ih hl.2 (fun h hh => h1 h (Kaj _ hh)) (fun h hh h' hh' => h2 h (Kaj _ hh) h' (Kaj _ hh')), fun a ha b hb e => ?_⟩
  subst e
  obtain ⟨y, hy, hy'⟩ := Ka5.1 hb
  have := h2 x Kaf y (Kaj _ hy) a ha hy'
  subst this
  exact hl.1 hy
theorem Z8J (hF : Forest2 ls gs n) : ∀ g, g < gs.length -> (Z1o gs f g).Nodup := by
 intro g
 induction g using Nat.strongRecOn with
 | ind g ih =>
  intro hg
  unfold Z1o
  rw [(Z0N _).nodup_iff]
  by_cases h0 : (Z0c gs g).lvl = 0
  ·rw [if_pos h0]
   have rT : Z05 gs g = [] := by
    rw [Kdm]
    intro h hh
    have := hF.sub g hg h hh
    have h2 := (hF.lvl h (by have := hF.below g hg h hh; omega)).1
    omega
   rw [rT]
   simpa using hF.nodup g hg
  ·rw [if_neg h0, Kca]
   refine Z53 (Z1U gs g) (fun h hh => ?_) (fun h hh h' hh' i hi hi' => ?_)
   ·have hb := hF.below g hg h hh
    rw [Z3z hF.toForest f (by omega)]
    exact (ih h hb (by omega)).sublist (List.drop_sublist _ _)
   ·have hb := hF.below g hg h hh
    have hb' := hF.below g hg h' hh'
    have hs := hF.sub g hg h hh
    have hs' := hF.sub g hg h' hh'
    exact hF.alone h (by omega) h' (by omega) (by omega) i (Z1N hF h (by omega) i (Z2U hF (by omega) hi)) (Z1N hF h' (by omega) i (Z2U hF (by omega) hi'))
theorem Z2i (hF : Forest2 ls gs n) {g : Nat} (hg : g < gs.length) {i : Int} (h1 : i ∈ Z3n gs f g) (h2 : i ∈ Z0m gs f g) : False := by
 have := Z8J (f := f) hF g hg
 rw [<- Z2Q gs hF.toForest f hg, Kc5] at this
 exact this.2.2 i h1 i h2 rfl
theorem Zgr (hF : Forest2 ls gs n) : ∀ g', g' < gs.length -> ∀ i ∈ Z1o gs f g', ∀ g, g < gs.length -> (Z0c gs g).lvl < (Z0c gs g').lvl -> i ∈ (Z0c gs g).items -> i ∈ Z0m gs f g := by
 intro g'
 induction g' using Nat.strongRecOn with
 | ind g' ih =>
  intro hg' i hi g hg pA sO
  rcases ZaN hi with ⟨h0, _⟩ | ⟨h, hh, hp⟩
  ·have := (hF.lvl g hg).1
   omega
  ·have hb := hF.below g' hg' h hh
   have hs := hF.sub g' hg' h hh
   have hc := Z2U (f := f) hF (by omega) hp
   by_cases e : (Z0c gs g).lvl = (Z0c gs h).lvl
   ·have := hF.alone g hg h (by omega) e i sO (Z1N hF h (by omega) i hc)
    subst this
    exact hp
   ·exact ih h hb (by omega) i hc g hg (by omega) sO
theorem Z81 (hF : Forest2 ls gs n) {g g' : Nat} (hg : g < gs.length) (hg' : g' < gs.length) {i : Int} (h1 : i ∈ Z3n gs f g) (h2 : i ∈ Z3n gs f g') : g = g' := by
 have c1 := Z3L hF hg h1
 have c2 := Z3L hF hg' h2
 have m1 := Z1N hF g hg i c1
 have m2 := Z1N hF g' hg' i c2
 rcases Int.lt_trichotomy (Z0c gs g).lvl (Z0c gs g').lvl with h | h | h
 ·exact (Z2i hF hg h1 (Zgr hF g' hg' i c2 g hg h m1)).elim
 ·exact hF.alone g hg g' hg' h i m1 m2
 ·exact (Z2i hF hg' h2 (Zgr hF g hg i c1 g' hg' h m2)).elim
theorem ZcV (x : Int) : ∀ (l : List Int) (q : List Int), (∀ i ∈ l, 0 <= i) -> (l.foldl (fun q i => q.set i.toNat x) q).length = q.length /\ ∀ i : Int, 0 <= i -> i.toNat < q.length -> (l.foldl (fun q i => q.set i.toNat x) q).getD i.toNat 0 = if i ∈ l then x else q.getD i.toNat 0
 | [], q, _ => ⟨rfl, fun i _ _ => by simp⟩
 | y :: l, q, h => by
  obtain ⟨a, b⟩ := ZcV x l (q.set y.toNat x) (fun i hi => h i (Kaj _ hi))
  rw [Kb8] at a b
  refine ⟨a, fun i hi hl => ?_⟩
  rw [List.foldl_cons, b i hi hl]
  have hy := h y Kaf
  by_cases h1 : i ∈ l
  ·rw [if_pos h1, if_pos (Kaj _ h1)]
  ·rw [if_neg h1]
   by_cases h2 : i = y
   ·subst h2
    rw [if_pos Kaf, Z2, Kcw hl]
    rfl
   ·rw [if_neg (fun hm => by rcases Kbf.1 hm with e | e; exact h2 e; exact h1 e)]
    rw [Z2, List.getElem?_set_ne (by omega), <- Z2]
theorem Zfa (hF : Forest2 ls gs n) (p : List Int) (pK : p.length = n) : ∀ k, k <= gs.length -> (Z0M gs f k p).1.length = n /\ ∀ i : Int, 0 <= i -> i < (n : Int) ->
 ((∀ g, g < k -> i ∉ Z3n gs f g) -> (Z0M gs f k p).1.getD i.toNat 0 = p.getD i.toNat 0) /\ ∀ g, g < k -> i ∈ Z3n gs f g -> (Z0M gs f k p).1.getD i.toNat 0 = (Z0c gs g).lvl
 | 0, _ => ⟨pK, fun i _ _ => ⟨fun _ => rfl, fun g h => absurd h (Ka2 _)⟩⟩
 | k + 1, hk => by
  obtain ⟨a, b⟩ := Zfa hF p pK k (by omega)
  have uC : ∀ i ∈ Z3n gs f k, 0 <= i := fun i hi => (hF.range k (by omega) i (Z1N hF k (by omega) i (Z3L hF (by omega) hi))).1
  obtain ⟨c, d⟩ := ZcV (Z0c gs k).lvl (Z3n gs f k) (Z0M gs f k p).1 uC
  rw [Za4 hF.toForest f p (by omega)]
  refine ⟨by rw [c, a], fun i h0 h1 => ?_⟩
  have hd := d i h0 (by rw [a]; omega)
  obtain ⟨b1, b2⟩ := b i h0 h1
  refine ⟨fun pH => ?_, fun g hg hi => ?_⟩
  ·rw [hd, if_neg (pH k (by omega))]
   exact b1 (fun g hg => pH g (by omega))
  ·by_cases e : g = k
   ·subst e; rw [hd, if_pos hi]
   ·rw [hd, if_neg (fun hk' => e (Z81 hF (by omega) (by omega) hi hk'))]
    exact b2 g (by omega) hi
end
section
variable {ls : List (Int × Int)} {gs : List PGrp} {n : Nat}
def Z6T (ls : List (Int × Int)) (gs : List PGrp) (n : Nat) (i : Int) : Int := (Zhq ls gs n).getD i.toNat 0
theorem Z94 (ls : List (Int × Int)) (gs : List PGrp) (n : Nat) : Zhq ls gs n = (Z0M gs (Z13 ls gs) gs.length (List.replicate n 0)).1 := rfl
theorem Z6S (hF : Forest2 ls gs n) {g : Nat} (hg : g < gs.length) {i : Int} (h : i ∈ Z3n gs (Z13 ls gs) g) : Z6T ls gs n i = (Z0c gs g).lvl := by
 have hr := hF.range g hg i (Z1N hF g hg i (Z3L hF hg h))
 unfold Z6T
 rw [Z94]
 exact ((Zfa hF (List.replicate n 0) (by simp) gs.length (Z1 _)).2 i hr.1 hr.2).2 g hg h
theorem Z8I (hF : Forest2 ls gs n) {f : Nat -> Int} {g : Nat} (hg : g < gs.length) {i : Int} (h : i ∈ Z1o gs f g) : i ∈ Z3n gs f g \/ i ∈ Z0m gs f g := by
 rw [<- Z2Q gs hF.toForest f hg] at h
 exact ZG.1 h
theorem Zk5 (hF : Forest2 ls gs n) {f : Nat -> Int} : ∀ g, g < gs.length -> ∀ i ∈ (Z0c gs g).items, (∃ g', g' < gs.length /\ (Z0c gs g').lvl <= (Z0c gs g).lvl /\ i ∈ Z3n gs f g') \/ i ∈ Z0m gs f g := by
 intro g
 induction g using Nat.strongRecOn with
 | ind g ih =>
  intro hg i hi
  have rF : i ∈ Z1o gs f g -> (∃ g', g' < gs.length /\ (Z0c gs g').lvl <= (Z0c gs g).lvl /\ i ∈ Z3n gs f g') \/ i ∈ Z0m gs f g := fun hc => by
   rcases Z8I hF hg hc with h | h
   ·exact .inl ⟨g, hg, Kbi _, h⟩
   ·exact .inr h
  by_cases h0 : (Z0c gs g).lvl = 0
  ·refine rF ?_
   unfold Z1o
   rw [(Z0N _).mem_iff, ZG, if_pos h0]
   exact .inl hi
  ·have qS : 0 < (Z0c gs g).lvl := by have := (hF.lvl g hg).1; omega
   obtain ⟨h, hh, rE⟩ := Ka5.1 ((hF.parts g hg qS).1.mem_iff.2 hi)
   have hb := hF.below g hg h hh
   have hs := hF.sub g hg h hh
   rcases ih h hb (by omega) i rE with ⟨g', h1, h2, h3⟩ | hp
   ·exact .inl ⟨g', h1, by omega, h3⟩
   ·refine rF ?_
    unfold Z1o
    rw [(Z0N _).mem_iff, ZG]
    exact .inr (Ka5.2 ⟨h, hh, hp⟩)
theorem Z3y (hF : Forest2 ls gs n) : ∀ m g, gs.length - g <= m -> g < gs.length -> ∀ i ∈ Z0m gs (Z13 ls gs) g, ∃ g', g' < gs.length /\ (Z0c gs g).lvl < (Z0c gs g').lvl /\ i ∈ Z3n gs (Z13 ls gs) g'
 | 0, g, h, hg, i, hi => by omega
 | m + 1, g, h, hg, i, hi => by
  by_cases hex : ∃ p, p < gs.length /\ g ∈ Z05 gs p
  ·obtain ⟨p, hp, qC⟩ := hex
   have pA := hF.below p hp g qC
   have hs := hF.sub p hp g qC
   have hc : i ∈ Z1o gs (Z13 ls gs) p := by
    unfold Z1o
    rw [(Z0N _).mem_iff, ZG]
    exact .inr (Ka5.2 ⟨g, qC, hi⟩)
   rcases Z8I hF hp hc with h1 | h1
   ·exact ⟨p, hp, by omega, h1⟩
   ·obtain ⟨g', a, b, c⟩ := Z3y hF m p (by omega) hp i h1
    exact ⟨g', a, by omega, c⟩
  ·have e := Zcy ls gs (fun p hp hm => hex ⟨p, hp, hm⟩)
   rw [Z3z hF.toForest _ hg, e] at hi
   simp at hi
theorem Z93 (hF : Forest2 ls gs n) {g : Nat} (hg : g < gs.length) {i : Int} (hi : i ∈ (Z0c gs g).items) :
 (Z6T ls gs n i = (Z0c gs g).lvl ↔ i ∈ Z3n gs (Z13 ls gs) g) /\ ((Z0c gs g).lvl < Z6T ls gs n i ↔ i ∈ Z0m gs (Z13 ls gs) g) /\ 0 <= Z6T ls gs n i /\ Z6T ls gs n i < (ls.length : Int) := by
 rcases Zk5 (f := Z13 ls gs) hF g hg i hi with ⟨g', h1, h2, h3⟩ | hp
 ·have e := Z6S hF h1 h3
  have hl := hF.lvl g' h1
  have uD : i ∉ Z0m gs (Z13 ls gs) g := fun hp => by
   obtain ⟨g'', a, b, c⟩ := Z3y hF gs.length g (by omega) hg i hp
   have := Z81 hF h1 a h3 c
   subst this
   omega
  refine ⟨⟨fun h => ?_, fun h => Z6S hF hg h⟩, ⟨fun h => by omega, fun h => absurd h uD⟩, by omega, by omega⟩
  have hm := Z1N hF g' h1 i (Z3L hF h1 h3)
  have := hF.alone g' h1 g hg (by omega) i hm hi
  subst this
  exact h3
 ·obtain ⟨g'', a, b, c⟩ := Z3y hF gs.length g (by omega) hg i hp
  have e := Z6S hF a c
  have hl := hF.lvl g'' a
  have uP := hF.lvl g hg
  refine ⟨⟨fun h => by omega, fun h => (Z2i hF hg h hp).elim⟩, ⟨fun _ => hp, fun _ => by omega⟩, by omega, by omega⟩
theorem ZaM {l t : List Int} (hl : l.Nodup) (ht : t.Nodup) (hs : ∀ i ∈ t, i ∈ l) (p : Int -> Bool) (hp : ∀ i ∈ l, p i = true ↔ i ∈ t) : l.countP p = t.length := by
 rw [List.countP_eq_length_filter]
 refine List.Perm.length_eq ?_
 rw [Kch (hl.filter _) ht]
 intro i
 rw [Kbh]
 exact ⟨fun h => (hp i h.1).1 h.2, fun h => ⟨hs i h, (hp i (hs i h)).2 h⟩⟩
theorem Zbk (hF : Forest2 ls gs n) (hp : ∀ g, g < gs.length -> PassOk ls gs g) {g : Nat} (hg : g < gs.length) :
 takeN (Z6T ls gs n) (Z0c gs g) = qN ls gs g - pN ls gs g /\ Z3o (Z6T ls gs n) (Z0c gs g) = pN ls gs g := by
 obtain ⟨c1, c2⟩ := Zd4 hF.toForest hp g hg
 have uB := (Z2V hF.toForest hg (hp g hg)).1.le
 have rU := Z8J (f := Z13 ls gs) hF g hg
 have qR := Z2Q gs hF.toForest (Z13 ls gs) hg
 have qH : (Z3n gs (Z13 ls gs) g).length = qN ls gs g - pN ls gs g := by
  have := Kah List.length qR
  rw [ZC, c1, c2] at this
  omega
 rw [<- qR, Kc5] at rU
 constructor
 ·rw [<- qH]
  exact ZaM (hF.nodup g hg) rU.1 (fun i hi => Z1N hF g hg i (Z3L hF hg hi)) _ (fun i hi => by rw [Kab]; exact (Z93 hF hg hi).1)
 ·rw [<- c2]
  exact ZaM (hF.nodup g hg) rU.2.1 (fun i hi => Z1N hF g hg i (Z2U hF hg hi)) _ (fun i hi => by rw [Kab]; exact (Z93 hF hg hi).2.1)
theorem Zj5 (hF : Forest2 ls gs n) (hp : ∀ g, g < gs.length -> PassOk ls gs g) : PlanOk ls gs (Z6T ls gs n) :=
 ⟨fun g hg i hi => ⟨(Z93 hF hg hi).2.2.1, (Z93 hF hg hi).2.2.2⟩, fun g hg => by
  have h := (Z2V hF.toForest hg (hp g hg)).1.enough
  have := (Zbk hF hp hg).1
  rw [<- this] at h
  exact h⟩
end
section
structure Forest3 (ls : List (Int × Int)) (gs : List PGrp) (n : Nat) : Prop extends Forest2 ls gs n where
 tops : ∀ g, g < gs.length -> (∀ p, p < gs.length -> g ∉ Z05 gs p) -> (Z0c gs g).lvl = (ls.length : Int) - 1
 last : ∀ g, g < gs.length -> (Z0c gs g).lvl = (ls.length : Int) - 1 -> (Z2L ls gs g).1 <= 0
 cover : ∀ i : Int, 0 <= i -> i < (n : Int) -> ∃ g, g < gs.length /\ (Z0c gs g).lvl = (ls.length : Int) - 1 /\ i ∈ (Z0c gs g).items
variable {ls : List (Int × Int)} {gs : List PGrp} {n : Nat}
theorem Zji (hF : Forest3 ls gs n) : PlanOk ls gs (fun _ => (ls.length : Int) - 1) := by
 refine ⟨fun g hg i hi => ?_, fun g hg => ?_⟩
 ·have := hF.lvl g hg
  exact ⟨by omega, by omega⟩
 ·by_cases h : (Z0c gs g).lvl = (ls.length : Int) - 1
  ·right
   have := hF.last g hg h
   omega
  ·left
   unfold takeN
   rw [List.countP_eq_zero]
   intro i _
   simp
   omega
theorem Zdb (hF : Forest3 ls gs n) : ∀ g, g < gs.length -> PassOk ls gs g := fun g hg =>
 ZcA hF.toForest (fun g hg pH => by
  have hl := hF.tops g hg pH
  have hb := ZdC hF.toForest (Zji hF) g hg
  have h0 : Z3o (fun _ => (ls.length : Int) - 1) (Z0c gs g) = 0 := by
   unfold Z3o
   rw [List.countP_eq_zero]
   intro i _
   simp
   omega
  rw [h0] at hb
  have := Z47 hF.toForest (fun _ => (ls.length : Int) - 1) (Z0c gs g)
  omega) gs.length g (by omega) hg
theorem Zct (hF : Forest3 ls gs n) : PlanOk ls gs (Z6T ls gs n) := Zj5 hF.toForest2 (Zdb hF)
end
end Go.Proofs.YtlgajongmkhcnaaGreatDoor
