import Derived.Test.YtlgajongmkhcnaaGreatDoorQU3
import Derived.Shelf.Strings.Builder1
import Derived.Shelf.Strings.Trim
import Derived.Shelf.Small.Utf8
import Derived.Shelf.Small.Strs
import Derived.Shelf.Strings.BuilderF
import Derived.Shelf.Strings.BuilderK
import Derived.Shelf.Strconv.Itoa0
import Derived.Shelf.Strconv.Itoa1
import Derived.Shelf.LaysM
import Derived.Shelf.Strconv.Itoa2
import Derived.Shelf.Strconv.Itoa3
import Derived.Shelf.Strings.Search1
import Derived.Shelf.Strings.Search2
import Derived.Shelf.Strings.Search3
import Derived.Shelf.Strings.Count
import Derived.Shelf.Strings.Shaped
import Derived.Shelf.Strings.Prefix
import Derived.Shelf.Strings.Split
import Derived.Shelf.Strings.SplitShaped
import Derived.Shelf.Strings.Runes
import Derived.Shelf.Strings.AsciiSet
import Derived.Shelf.Bits.Mul64
import Derived.Shelf.Unicode.DecodeSlow
import Derived.Shelf.Slices.Turned
import Derived.Ground.SlgmProg
import Derived.Shelf.SortM.Plain
import Derived.Shelf.SortM.SortNone
import Derived.Test.YtlgajongmkhcnaaGreatDoorProg
import Derived.Shelf.Strings.SplitCore
import Derived.Lib.IndexBytes
import Derived.Lib.SplitLaws
import Derived.WalkKit
import Derived.Below
import Derived.Lib.Hide
import Derived.Laws.Tables
import Derived.Laws.Rows
import Derived.Test.YtlgajongmkhcnaaGreatDoorQUL
import Derived.Test.YtlgajongmkhcnaaGreatDoorQUC
set_option maxRecDepth 100000
set_option linter.unusedVariables false
set_option linter.unusedSimpArgs false
set_option maxHeartbeats 32000000
namespace Go.Proofs
open Go.Shelf
def Tryz.lays143_ren : Go.Shelf.Ren := ⟨fun | 143 => 94 | 219 => 126 | 217 => 149 | 225 => 150 | 224 => 151 | 267 => 152 | 266 => 183 | 314 => 184 | n => n, fun | 9 => 9 | 3 => 3 | 4 => 4 | 5 => 5 | 46 => 75 | 146 => 248 | 51 => 22 | n => n, fun | 1 => 0 | n => n⟩
theorem Tryz.lays143 : Go.Proofs.Lays.n143 Tryz.prog Tryz.lays143_ren := {
 mixed := by kernel_rfl
 f143 := Tryz.func94.trans (Kah some (by kernel_rfl))
 f217 := Tryz.func149.trans (Kah some (by kernel_rfl))
 f219 := Tryz.func126.trans (Kah some (by kernel_rfl))
 f224 := Tryz.func151.trans (Kah some (by kernel_rfl))
 f225 := Tryz.func150.trans (Kah some (by kernel_rfl))
 f266 := Tryz.func183.trans (Kah some (by kernel_rfl))
 f267 := Tryz.func152.trans (Kah some (by kernel_rfl))
 f314 := Tryz.func184.trans (Kah some (by kernel_rfl))
 t3 := Tryz.underlying3
 a3 := Tryz.isAgg3
 z3 := Tryz.sizeOf3
 v3 := Tryz.zeroValue3
 t4 := Tryz.underlying4
 a4 := Tryz.isAgg4
 z4 := Tryz.sizeOf4
 v4 := Tryz.zeroValue4
 t5 := Tryz.underlying5
 a5 := Tryz.isAgg5
 z5 := Tryz.sizeOf5
 v5 := Tryz.zeroValue5
 t9 := Tryz.underlying9
 a9 := Tryz.isAgg9
 z9 := Tryz.sizeOf9
 v9 := Tryz.zeroValue9
 t46 := Tryz.underlying75
 a46 := Tryz.isAgg75
 z46 := Tryz.sizeOf75
 v46 := Tryz.zeroValue75
 t51 := Tryz.underlying22
 a51 := Tryz.isAgg22
 z51 := Tryz.sizeOf22
 v51 := Tryz.zeroValue22
 t146 := Tryz.underlying248
 a146 := Tryz.isAgg248
 z146 := Tryz.sizeOf248
 v146 := Tryz.zeroValue248
 g1 := by kernel_rfl }
open Go.RowKit Go.Lib in
theorem Tryz.strings_Index_one (s : ByteArray) (c : UInt8) (w : World) :
 Calls Tryz.prog 94 #[.string s, .string ⟨#[c]⟩] w fun e w' => e = .returned (.int .i64 (Lib.indexByte s.data.toList c)) /\ w' = w := Any.strings_Index_one Tryz.lays143 s c w
def Tryz.lays138_ren : Go.Shelf.Ren := ⟨fun | 138 => 93 | 195 => 124 | 218 => 125 | 143 => 94 | 219 => 126 | 217 => 149 | 225 => 150 | 224 => 151 | 267 => 152 | 266 => 183 | 314 => 184 | n => n, fun | 9 => 9 | 3 => 3 | 4 => 4 | 5 => 5 | 0 => 0 | 46 => 75 | 146 => 248 | 51 => 22 | n => n, fun | 1 => 0 | n => n⟩
theorem Tryz.lays138 : Go.Proofs.Lays.n138 Tryz.prog Tryz.lays138_ren := {
 mixed := by kernel_rfl
 f138 := Tryz.func93.trans (Kah some (by kernel_rfl))
 f143 := Tryz.func94.trans (Kah some (by kernel_rfl))
 f195 := Tryz.func124.trans (Kah some (by kernel_rfl))
 f217 := Tryz.func149.trans (Kah some (by kernel_rfl))
 f218 := Tryz.func125.trans (Kah some (by kernel_rfl))
 f219 := Tryz.func126.trans (Kah some (by kernel_rfl))
 f224 := Tryz.func151.trans (Kah some (by kernel_rfl))
 f225 := Tryz.func150.trans (Kah some (by kernel_rfl))
 f266 := Tryz.func183.trans (Kah some (by kernel_rfl))
 f267 := Tryz.func152.trans (Kah some (by kernel_rfl))
 f314 := Tryz.func184.trans (Kah some (by kernel_rfl))
 t0 := Tryz.underlying0
 a0 := Tryz.isAgg0
 z0 := Tryz.sizeOf0
 v0 := Tryz.zeroValue0
 t3 := Tryz.underlying3
 a3 := Tryz.isAgg3
 z3 := Tryz.sizeOf3
 v3 := Tryz.zeroValue3
 t4 := Tryz.underlying4
 a4 := Tryz.isAgg4
 z4 := Tryz.sizeOf4
 v4 := Tryz.zeroValue4
 t5 := Tryz.underlying5
 a5 := Tryz.isAgg5
 z5 := Tryz.sizeOf5
 v5 := Tryz.zeroValue5
 t9 := Tryz.underlying9
 a9 := Tryz.isAgg9
 z9 := Tryz.sizeOf9
 v9 := Tryz.zeroValue9
 t46 := Tryz.underlying75
 a46 := Tryz.isAgg75
 z46 := Tryz.sizeOf75
 v46 := Tryz.zeroValue75
 t51 := Tryz.underlying22
 a51 := Tryz.isAgg22
 z51 := Tryz.sizeOf22
 v51 := Tryz.zeroValue22
 t146 := Tryz.underlying248
 a146 := Tryz.isAgg248
 z146 := Tryz.sizeOf248
 v146 := Tryz.zeroValue248
 g1 := by kernel_rfl }
open Go.RowKit Go.Lib in
theorem Tryz.strings_Count_one (s : ByteArray) (c : UInt8) (w : World) :
 Calls Tryz.prog 93 #[.string s, .string ⟨#[c]⟩] w fun e w' => e = .returned (.int .i64 (Lib.countByte s.data.toList c)) /\ w' = w := Any.strings_Count_one Tryz.lays138 s c w
def Tryz.lays100_ren : Go.Shelf.Ren := ⟨fun | 100 => 18 | 207 => 50 | n => n, fun | 9 => 9 | 4 => 4 | 3 => 3 | n => n, fun | n => n⟩
theorem Tryz.lays100 : Go.Proofs.Lays.n100 Tryz.prog Tryz.lays100_ren := {
 mixed := by kernel_rfl
 f100 := Tryz.func18.trans (Kah some (by kernel_rfl))
 f207 := Tryz.func50.trans (Kah some (by kernel_rfl))
 t3 := Tryz.underlying3
 a3 := Tryz.isAgg3
 z3 := Tryz.sizeOf3
 v3 := Tryz.zeroValue3
 t4 := Tryz.underlying4
 a4 := Tryz.isAgg4
 z4 := Tryz.sizeOf4
 v4 := Tryz.zeroValue4
 t9 := Tryz.underlying9
 a9 := Tryz.isAgg9
 z9 := Tryz.sizeOf9
 v9 := Tryz.zeroValue9 }
open Go.RowKit Go.Lib in
theorem Tryz.strings_HasSuffix (s p : ByteArray) (w : World) (hs : s.size <= 9223372036854775807) :
 Calls Tryz.prog 18 #[.string s, .string p] w fun e w' => e = .returned (.bool (Lib.hasSuffix s.data.toList p.data.toList)) /\ w' = w := Any.strings_HasSuffix Tryz.lays100 s p w hs
def Tryz.lays221_ren : Go.Shelf.Ren := ⟨fun | 221 => 51 | 268 => 92 | 138 => 93 | 143 => 94 | 195 => 124 | 197 => 96 | 218 => 125 | 219 => 126 | 260 => 127 | 217 => 149 | 225 => 150 | 224 => 151 | 267 => 152 | 266 => 183 | 314 => 184 | n => n, fun | 9 => 9 | 3 => 3 | 31 => 84 | 4 => 4 | 0 => 0 | 105 => 191 | 21 => 21 | 5 => 5 | 46 => 75 | 119 => 243 | 139 => 246 | 138 => 245 | 146 => 248 | 51 => 22 | n => n, fun | 1 => 0 | 3 => 1 | 4 => 2 | n => n⟩
theorem Tryz.lays221 : Go.Proofs.Lays.n221 Tryz.prog Tryz.lays221_ren := {
 mixed := by kernel_rfl
 f138 := Tryz.func93.trans (Kah some (by kernel_rfl))
 f143 := Tryz.func94.trans (Kah some (by kernel_rfl))
 f195 := Tryz.func124.trans (Kah some (by kernel_rfl))
 f197 := Tryz.func96.trans (Kah some (by kernel_rfl))
 f217 := Tryz.func149.trans (Kah some (by kernel_rfl))
 f218 := Tryz.func125.trans (Kah some (by kernel_rfl))
 f219 := Tryz.func126.trans (Kah some (by kernel_rfl))
 f221 := Tryz.func51.trans (Kah some (by kernel_rfl))
 f224 := Tryz.func151.trans (Kah some (by kernel_rfl))
 f225 := Tryz.func150.trans (Kah some (by kernel_rfl))
 f260 := Tryz.func127.trans (Kah some (by kernel_rfl))
 f266 := Tryz.func183.trans (Kah some (by kernel_rfl))
 f267 := Tryz.func152.trans (Kah some (by kernel_rfl))
 f268 := Tryz.func92.trans (Kah some (by kernel_rfl))
 f314 := Tryz.func184.trans (Kah some (by kernel_rfl))
 t0 := Tryz.underlying0
 a0 := Tryz.isAgg0
 z0 := Tryz.sizeOf0
 v0 := Tryz.zeroValue0
 t3 := Tryz.underlying3
 a3 := Tryz.isAgg3
 z3 := Tryz.sizeOf3
 v3 := Tryz.zeroValue3
 t4 := Tryz.underlying4
 a4 := Tryz.isAgg4
 z4 := Tryz.sizeOf4
 v4 := Tryz.zeroValue4
 t5 := Tryz.underlying5
 a5 := Tryz.isAgg5
 z5 := Tryz.sizeOf5
 v5 := Tryz.zeroValue5
 t9 := Tryz.underlying9
 a9 := Tryz.isAgg9
 z9 := Tryz.sizeOf9
 v9 := Tryz.zeroValue9
 t21 := Tryz.underlying21
 a21 := Tryz.isAgg21
 z21 := Tryz.sizeOf21
 v21 := Tryz.zeroValue21
 t31 := Tryz.underlying84
 a31 := Tryz.isAgg84
 z31 := Tryz.sizeOf84
 v31 := Tryz.zeroValue84
 t46 := Tryz.underlying75
 a46 := Tryz.isAgg75
 z46 := Tryz.sizeOf75
 v46 := Tryz.zeroValue75
 t51 := Tryz.underlying22
 a51 := Tryz.isAgg22
 z51 := Tryz.sizeOf22
 v51 := Tryz.zeroValue22
 t105 := Tryz.underlying191
 a105 := Tryz.isAgg191
 z105 := Tryz.sizeOf191
 v105 := Tryz.zeroValue191
 t119 := Tryz.underlying243
 a119 := Tryz.isAgg243
 z119 := Tryz.sizeOf243
 t138 := Tryz.underlying245
 a138 := Tryz.isAgg245
 z138 := Tryz.sizeOf245
 v138 := Tryz.zeroValue245
 t139 := Tryz.underlying246
 a139 := Tryz.isAgg246
 z139 := Tryz.sizeOf246
 v139 := Tryz.zeroValue246
 t146 := Tryz.underlying248
 a146 := Tryz.isAgg248
 z146 := Tryz.sizeOf248
 v146 := Tryz.zeroValue248
 g1 := by kernel_rfl
 g3 := by kernel_rfl
 g4 := by kernel_rfl }
def Tryz.lays227_ren : Go.Shelf.Ren := ⟨fun | 227 => 54 | n => n, fun | 9 => 9 | 116 => 142 | 4 => 4 | 0 => 0 | 3 => 3 | 5 => 5 | n => n, fun | n => n⟩
theorem Tryz.lays227 : Go.Proofs.Lays.n227 Tryz.prog Tryz.lays227_ren := {
 mixed := by kernel_rfl
 f227 := Tryz.func54.trans (Kah some (by kernel_rfl))
 t0 := Tryz.underlying0
 a0 := Tryz.isAgg0
 z0 := Tryz.sizeOf0
 v0 := Tryz.zeroValue0
 t3 := Tryz.underlying3
 a3 := Tryz.isAgg3
 z3 := Tryz.sizeOf3
 v3 := Tryz.zeroValue3
 t4 := Tryz.underlying4
 a4 := Tryz.isAgg4
 z4 := Tryz.sizeOf4
 v4 := Tryz.zeroValue4
 t5 := Tryz.underlying5
 a5 := Tryz.isAgg5
 z5 := Tryz.sizeOf5
 v5 := Tryz.zeroValue5
 t9 := Tryz.underlying9
 a9 := Tryz.isAgg9
 z9 := Tryz.sizeOf9
 v9 := Tryz.zeroValue9
 t116 := Tryz.underlying142
 a116 := Tryz.isAgg142
 z116 := Tryz.sizeOf142 }
open Go.RowKit Go.Lib in
theorem Tryz.strings_makeASCIISet (pN : ∀ w, (zeroValue 142).run Tryz.prog w = .ok (.agg (Array.replicate 256 (.bool false))) w) (chars : ByteArray) (w : World) (hs : chars.size < 4294967281) (pO : ∀ (j : Nat) b, chars.data.toList[j]? = some b -> b.toNat < 128) :
 Calls Tryz.prog 54 #[.string chars] w fun e w' => e = .returned (.tuple #[.agg (Lib.setCells chars.data.toList), .bool true]) /\ w' = w.alloc (.cells (Lib.setCells chars.data.toList) 142) := Any.strings_makeASCIISet Tryz.lays227 pN (by kernel_rfl) chars w hs pO
def Tryz.lays228_ren : Go.Shelf.Ren := ⟨fun | 228 => 95 | n => n, fun | 124 => 146 | 5 => 5 | 4 => 4 | 0 => 0 | 116 => 142 | n => n, fun | n => n⟩
theorem Tryz.lays228 : Go.Proofs.Lays.n228 Tryz.prog Tryz.lays228_ren := {
 mixed := by kernel_rfl
 f228 := Tryz.func95.trans (Kah some (by kernel_rfl))
 t0 := Tryz.underlying0
 a0 := Tryz.isAgg0
 z0 := Tryz.sizeOf0
 v0 := Tryz.zeroValue0
 t4 := Tryz.underlying4
 a4 := Tryz.isAgg4
 z4 := Tryz.sizeOf4
 v4 := Tryz.zeroValue4
 t5 := Tryz.underlying5
 a5 := Tryz.isAgg5
 z5 := Tryz.sizeOf5
 v5 := Tryz.zeroValue5
 t116 := Tryz.underlying142
 a116 := Tryz.isAgg142
 z116 := Tryz.sizeOf142
 t124 := Tryz.underlying146
 a124 := Tryz.isAgg146
 z124 := Tryz.sizeOf146
 v124 := Tryz.zeroValue146 }
open Go.RowKit Go.Lib in
theorem Tryz.asciiSet_contains (b : Nat) (x : UInt8) (v : Bool) (w : World) (hc : w.cell? ⟨b, x.toNat, none⟩ = some (.bool v)) :
 Calls Tryz.prog 95 #[.pointer (some ⟨b, 0, none⟩), .int .u8 x.toNat] w fun e w' => e = .returned (.bool v) /\ w' = w := Any.asciiSet_contains Tryz.lays228 b x v w hc
end Go.Proofs
namespace Go.Proofs.YtlgajongmkhcnaaGreatDoor
open Go.RowKit
def Z0s (c : UInt8) : List UInt8 -> List UInt8 -> List (List UInt8)
 | acc, [] => [acc]
 | acc, b :: r => if b = c then acc :: Z0s c [] r else Z0s c (acc ++ [b]) r
theorem Z4H (c : UInt8) : ∀ (l acc : List UInt8), c ∉ l -> Z0s c acc l = [acc ++ l]
 | [], acc, _ => by rw [Z0s, Ka1]
 | b :: r, acc, h => by
  rw [Z0s, if_neg (fun e => h (by rw [e]; exact Kaf)), Z4H c r _ (fun h2 => h (Kaj _ h2))]
  simp
theorem Z4I (c : UInt8) : ∀ (a acc b : List UInt8), c ∉ a -> Z0s c acc (a ++ c :: b) = (acc ++ a) :: Z0s c [] b
 | [], acc, b, _ => by rw [Kca, Z0s, if_pos rfl, Ka1]
 | x :: r, acc, b, h => by
  rw [Kc9, Z0s, if_neg (fun e => h (by rw [e]; exact Kaf)), Z4I c r _ b (fun h2 => h (Kaj _ h2))]
  simp
theorem Z62 (c : UInt8) : ∀ (a b : List UInt8), c ∉ a -> Lib.indexByte (a ++ c :: b) c = (a.length : Int)
 | [], b, _ => by simp [Lib.indexByte]
 | x :: r, b, h => by
  have h1 := Z62 c r b (fun h2 => h (Kaj _ h2))
  have h2 : (x == c) = false := by
   rw [beq_eq_false_iff_ne]
   intro e
   exact h (by rw [e]; exact Kaf)
  have h3 : ((r.length : Int) == -1) = false := by rw [beq_eq_false_iff_ne]; omega
  rw [Kc9, Lib.indexByte, h2, h1, h3]
  simp
theorem Z4v (c : UInt8) : ∀ (n : Nat) (l : List UInt8), l.length <= n -> Lib.splitK [c] 0 (l.count c) l = Z0s c [] l
 | 0, l, h => by
  have : l = [] := Kag.1 (by omega)
  subst this
  rfl
 | n + 1, l, h => by
  by_cases hm : c ∈ l
  ·obtain ⟨a, b, rfl, ha⟩ := List.eq_append_cons_of_mem hm
   have hc : (a ++ c :: b).count c = b.count c + 1 := by
    rw [List.count_append, List.count_eq_zero.2 ha, List.count_cons_self]; omega
   have hi : Lib.index (a ++ c :: b) [c] = (a.length : Int) := by rw [Lib.index_one, Z62 c a b ha]
   have h3 : ((a.length : Int) == -1) = false := by rw [beq_eq_false_iff_ne]; omega
   have hl : b.length <= n := by rw [ZC, Ka9] at h; omega
   rw [hc, Lib.splitK, hi, h3, Z4I c a [] b ha]
   simp only [Kcc, if_false, Kar, Kdc, List.take_left', List.length_singleton, Kca]
   rw [show (a ++ c :: b).drop (a.length + 1) = b by rw [<- List.drop_drop, List.drop_left]; rfl, Z4v c n b hl]
  ·rw [List.count_eq_zero.2 hm, Lib.splitK, Z4H c l [] hm]
   rfl
theorem Z5q (c : UInt8) : ∀ (l acc : List UInt8), (Z0s c acc l).length = l.count c + 1
 | [], acc => rfl
 | b :: r, acc => by
  rw [Z0s]
  by_cases h : b = c
  ·subst h
   rw [if_pos rfl, Ka9, Z5q b r, List.count_cons_self]
  ·rw [if_neg h, Z5q c r, List.count_cons_of_ne h]
abbrev asB (l : List (List UInt8)) : List ByteArray := l.map (fun x => ⟨x.toArray⟩)
theorem Z8W (c : UInt8) (s : ByteArray) : Lib.splitB ⟨#[c]⟩ 0 (Lib.countB s ⟨#[c]⟩) s = asB (Z0s c [] s.data.toList) := by
 have h1 := Lib.splitB_data ⟨#[c]⟩ 0 (Lib.countB s ⟨#[c]⟩) s
 have h2 : Lib.countB s ⟨#[c]⟩ = s.data.toList.count c := by
  show Lib.count s.data.toList [c] = _
  exact Lib.count_one c _
 rw [h2] at h1 ⊢
 have h3 : Lib.splitK (⟨#[c]⟩ : ByteArray).data.toList 0 (s.data.toList.count c) s.data.toList = Z0s c [] s.data.toList := Z4v c _ _ (Z1 _)
 rw [h3] at h1
 rw [<- h1]
 unfold asB
 rw [Kdd]
 have : (fun x : List UInt8 => (⟨x.toArray⟩ : ByteArray)) ∘ (fun b : ByteArray => b.data.toList) = id := by
  funext b
  rfl
 rw [this, List.map_id]
theorem Z9P (s : ByteArray) (c : UInt8) (w : World) (hs : s.size < 4294967281) :
 Calls Tryz.prog 19 #[.string s, .string ⟨#[c]⟩] w fun e w' => e = .returned (.slice (some ⟨w.1.size, 0, none⟩) (Z0s c [] s.data.toList).length (Z0s c [] s.data.toList).length) /\ w' = w.alloc (.cells ((asB (Z0s c [] s.data.toList)).map Value.string).toArray 9) := by
 have pB : (⟨#[c]⟩ : ByteArray).size = 1 := rfl
 have pD : Lib.countB s ⟨#[c]⟩ = s.data.toList.count c := Lib.count_one c _
 have pX : s.data.toList.count c <= s.size := by
  have h1 := List.count_le_length (a := c) (l := s.data.toList)
  simpa using h1
 have g := Any.strings_genSplit_core Tryz.lays221 (by kernel_rfl) s ⟨#[c]⟩ 0 (-1) (Lib.countB s ⟨#[c]⟩ + 1) w hs (by rw [pB]; exact Z1 _) (ZE _)
  (fun x C hx => by
   refine (Tryz.strings_Index_one x c _).mono ?_
   rintro e w' ⟨rfl, rfl⟩
   refine ⟨?_, rfl⟩
   show _ = Ending.returned (Value.int .i64 (Lib.index x.data.toList [c]))
   rw [Lib.index_one])
  ((Tryz.strings_Count_one s c w).mono fun e w' ⟨h1, h2⟩ => ⟨by
   rw [h1, pD]
   rfl, h2⟩) (by decide) (by decide) (by rw [pD, if_pos (by decide)]; omega)
 rw [Kcx, Z8W] at g
 have hl : (asB (Z0s c [] s.data.toList)).length = Lib.countB s ⟨#[c]⟩ + 1 := by
  unfold asB
  rw [Z7, Z5q, pD]
 have e2 : Lib.cellsOf (asB (Z0s c [] s.data.toList)) (Lib.countB s ⟨#[c]⟩ + 1) = ((asB (Z0s c [] s.data.toList)).map Value.string).toArray := by rw [<- hl]; exact Lib.cellsOf_full _
 rw [e2, hl, <- hl] at g
 have pP : (asB (Z0s c [] s.data.toList)).length = (Z0s c [] s.data.toList).length := Z7 ..
 rw [pP] at g
 go_enter Tryz.func19, Tryz.ntmps19
 go_wp2_with (go_at_call 51; refine g.mono ?_; rintro e w1 ⟨rfl, rfl⟩)
 go_ret
 exact ⟨rfl, by unfold asB; rw [Kdd]; rfl⟩
def digC : ByteArray := ⟨#[48, 49, 50, 51, 52, 53, 54, 55, 56, 57, 46]⟩
def InSet (w : World) (b : Nat) (s : ByteArray) : Prop := ∀ k (h : k < s.size), w.cell? ⟨b, (s[k]).toNat, none⟩ = some (.bool true)
theorem InSet.take {w : World} {b : Nat} {s : ByteArray} (h : InSet w b s) (k : Nat) : InSet w b (s.extract 0 k) := fun j hj => by
 have pA : j < k /\ j < s.size := by rw [ByteArray.size_extract] at hj; omega
 have e : (s.extract 0 k)[j] = s[j]'pA.2 := by rw [ByteArray.getElem_extract]; simp
 rw [e]
 exact h j pA.2
theorem InSet.drop {w : World} {b : Nat} {s : ByteArray} (h : InSet w b s) : InSet w b (s.extract 1 s.size) := fun j hj => by
 have pA : 1 + j < s.size := by rw [ByteArray.size_extract] at hj; omega
 have e : (s.extract 1 s.size)[j] = s[1 + j]'pA := by rw [ByteArray.getElem_extract]
 rw [e]
 exact h (1 + j) pA
theorem InSet.below {w w' : World} {b : Nat} {s : ByteArray} (h : InSet w b s) (hb : Below w.1.size w w') (hl : b < w.1.size) : InSet w' b s := fun j hj => (hb.cell (p := ⟨b, (s[j]).toNat, none⟩) hl).trans (h j hj)
theorem Zd9 {B : Nat} {w wr w2 : World} (h : Below B w wr) (hB : B <= wr.1.size) (h2 : Below wr.1.size wr w2) : Below B w w2 := h.trans (h2.mono hB)
theorem Z9w {B : Nat} {a w : World} (h : Below B a w) {g : Nat} (hg : B <= g) (cs : Array Value) : Below B a (w.setRow g cs) :=
 h.trans ⟨rfl, rfl, rfl, by simp, fun k hk => setRow_other _ _ _ _ (by omega)⟩
def Zl4 : Value -> Nat
 | .string t => t.size
 | _ => 0
theorem Z8S (s : ByteArray) (b : Nat) (w : World) (h : InSet w b s) (hb : b < w.1.size) (hs : s.size <= 1000000) :
 Calls Tryz.prog 56 #[.string s, .pointer (some ⟨b, 0, none⟩)] w fun e w' => e = .returned (.string ⟨#[]⟩) /\ Below w.1.size w w' := by
 go_enter Tryz.func56, Tryz.ntmps56
 go_wp2_with fail
 go_loopw [0] (fun v wr => ∃ t : ByteArray, v = .string t /\ InSet w b t /\ t.size <= 1000000 /\ Below w.1.size w wr) (fun v _ => Zl4 v)
 case atStart => exact ⟨s, rfl, h, hs, Z9 _ _⟩
 case round =>
  obtain ⟨t, rfl, ht, pY, hB⟩ := hrel
  have HB := Z0 hB
  by_cases h0 : t.size = 0
  ·have et : t = ⟨#[]⟩ := by
    have e : t.data = #[] := Array.eq_empty_of_size_eq_zero h0
    exact ByteArray.ext e
   subst et
   go_wp2_with fail
   go_ret
   exact ⟨rfl, HB.out⟩
  ·obtain ⟨m, hm⟩ : ∃ m, t.size = m + 1 := ⟨t.size - 1, by omega⟩
   have hk := Tryz.asciiSet_contains b (t[m]'(by omega)) true wr (ht.below hB hb m (by omega))
   have HT := Z0 (ht.take m)
   have HM := Z0 hm
   have pZ : decide ((0 : Int) < (t.size : Int)) = true := Kac (by omega)
   clear ht h0 hB
   go_wp2_with (go_at_call 95; refine hk.mono ?_; rintro e w1 ⟨rfl, pC⟩)
   go_roundw
   case rel => exact ⟨t.extract 0 m, rfl, HT.out, by rw [ByteArray.size_extract]; omega, by first | exact HB.out | (rw [pC]; exact HB.out)⟩
   case measure =>
    show (t.extract 0 m).size < t.size
    rw [ByteArray.size_extract, HM.out]
    omega
theorem Z7O (b : Nat) (w : World) : Calls Tryz.prog 55 #[.string ⟨#[]⟩, .pointer (some ⟨b, 0, none⟩)] w fun e w' => e = .returned (.string ⟨#[]⟩) /\ Below w.1.size w w' := by
 go_enter Tryz.func55, Tryz.ntmps55
 go_wp2_with fail
 go_loopw [0] (fun v wr => v = .string ⟨#[]⟩ /\ Below w.1.size w wr) (fun _ _ => 0)
 case atStart => exact ⟨rfl, Z9 _ _⟩
 case round =>
  obtain ⟨rfl, hB⟩ := hrel
  have HB := Z0 hB
  go_wp2_with fail
  go_ret
  exact ⟨rfl, HB.out⟩
def ZjA (x : UInt8) : Bool := digC.data.toList.contains x
theorem ZgT (s : ByteArray) (w : World) (h : ∀ x ∈ s.data.toList, ZjA x = true) (hs : s.size <= 1000000) :
 Calls Tryz.prog 20 #[.string s, .string digC] w fun e w' => e = .returned (.string ⟨#[]⟩) /\ Below w.1.size w w' := by
 have pE := fun W => Tryz.strings_makeASCIISet (fun w => by kernel_rfl) digC W (by decide) (by
  intro j b hb
  have : ∀ x ∈ digC.data.toList, x.toNat < 128 := by decide
  exact this b (Kdq hb))
 by_cases h0 : s.size = 0
 ·have et : s = ⟨#[]⟩ := by
   have e : s.data = #[] := Array.eq_empty_of_size_eq_zero h0
   exact ByteArray.ext e
  subst et
  clear pE
  unfold digC
  go_enter Tryz.func20, Tryz.ntmps20
  go_wp2_with fail
  go_ret
  exact ⟨rfl, Z9 _ _⟩
 ·have e1 : s.toList.isEmpty = false := by
   rw [ByteArray.toList_eq]
   rw [List.isEmpty_eq_false_iff]
   intro e
   exact h0 (by have := Kah List.length e; simpa using this)
  have pH := Z0 pE
  clear pE
  unfold digC at pH ⊢
  go_enter Tryz.func20, Tryz.ntmps20
  go_wp2_with fail
  refine (pH.out w).mono ?_
  rintro e w1 ⟨rfl, pC⟩
  have pF : Below w.1.size w w1 := by rw [pC]; exact (Z9 _ w).alloc (Z1 _) _
  clear pC
  have pB : (Tryz.prog.info? 142).map (·.size) = some (Lib.setCells [48, 49, 50, 51, 52, 53, 54, 55, 56, 57, 46]).size := by rw [Lib.setCells_size]; kernel_rfl
  have hold : Tryz.zeroCells142.size = (Lib.setCells [48, 49, 50, 51, 52, 53, 54, 55, 56, 57, 46]).size := by rw [Lib.setCells_size]; kernel_rfl
  have pI := Lib.setCells_one [48, 49, 50, 51, 52, 53, 54, 55, 56, 57, 46]
  have pJ := Z0 pB
  have pK := Z0 hold
  have pL := Z0 pI
  clear pB hold pI
  obtain ⟨S, hS⟩ : ∃ S, S = Lib.setCells [48, 49, 50, 51, 52, 53, 54, 55, 56, 57, 46] := ⟨_, rfl⟩
  have pQ := Z0 hS
  rw [<- hS] at pJ pK pL
  simp only [<- hS]
  clear hS
  have pR : Hid (∀ W, W.1[w1.1.size]? = some (.cells S 142 (0, 0)) -> Calls Tryz.prog 56 #[.string s, .pointer (some ⟨w1.1.size, 0, none⟩)] W fun e w' => e = .returned (.string ⟨#[]⟩) /\ Below W.1.size W w') := fun W hW => by
   refine Z8S s w1.1.size W (fun k hk => ?_) (Z5.1 hW).1 hs
   have h1 := h s[k] (Array.mem_toList_iff.2 (Array.getElem_mem (xs := s.data) hk))
   rw [Kaa _ _ _ _ _ _ hW, pQ.out, Lib.setCells_at]
   show some (Value.bool (digC.data.toList.contains s[k])) = _
   unfold ZjA at h1
   rw [h1]
  have pS := Z0 pF
  have pG := pF.size
  clear pF
  go_wp2_with (first
   | (go_at_call 55; refine (Z7O _ _).mono ?_; rintro e w3 ⟨rfl, pT⟩)
   | (go_at_call 56; refine (pR.out _ (setRow_heap _ _ _ _ _ _ (MapKept.heap_alloc w1 _).1)).mono ?_; rintro e w2 ⟨rfl, pM⟩)
   | (with_reducible refine wpList_store_row (o := ⟨none, .store 142 _ _, _, _, _, _⟩) rfl _ _ _ rfl w1.1.size S rfl rfl 142 Tryz.zeroCells142 ?hg pJ.out pK.out pL.out ?_))
  case hg => exact (MapKept.heap_alloc w1 _).1
  go_ret
  exact ⟨rfl, Zd9 (Zd9 (Z9w (pS.out.alloc pG _) pG _) (by simpa [World.setRow] using Nat.le_succ_of_le pG) pM) (by have := pM.size; simp [World.setRow] at this; omega) pT⟩
theorem Z5V (c : UInt8) : ∀ (L : List (List UInt8)), L ≠ [] -> (∀ l ∈ L, c ∉ l) -> Z0s c [] ((L.flatMap (fun l => l ++ [c])).dropLast) = L
 | [], h, _ => absurd rfl h
 | [l], _, h => by
  have h1 := h l Kaf
  rw [Kao, Kct, Ka1, List.dropLast_concat, Z4H c l [] h1]
  rfl
 | l :: l2 :: r, _, h => by
  have h1 := h l Kaf
  have ih := Z5V c (l2 :: r) (by simp) (fun x hx => h x (Kaj _ hx))
  have pU : (l2 :: r).flatMap (fun l => l ++ [c]) ≠ [] := by
   rw [Kao]
   simp
  rw [Kao, List.dropLast_append_of_ne_nil pU, Kbc, List.singleton_append, Z4I c l [] _ h1, ih]
  rfl
theorem Z5U : ∀ (rest : List ByteArray) (f : List UInt8), (32 : UInt8) ∉ f -> (∀ r ∈ rest, (32 : UInt8) ∉ r.data.toList) -> Z0s 32 [] (f ++ Z37 rest) = f :: rest.map (fun r => r.data.toList)
 | [], f, hf, _ => by
  show Z0s 32 [] (f ++ []) = _
  rw [Ka1, Z4H 32 f [] hf]
  rfl
 | r :: rs, f, hf, h => by
  have ih := Z5U rs r.data.toList (h r Kaf) (fun x hx => h x (Kaj _ hx))
  have e : Z37 (r :: rs) = 32 :: (r.data.toList ++ Z37 rs) := by unfold Z37; rw [Kao]; rfl
  rw [e, Z4I 32 f [] _ hf, ih]
  rfl
structure NumW (s : ByteArray) : Prop where
 pos : s.size ≠ 0
 dig : ∀ x ∈ s.data.toList, ZjA x = true
theorem Zjz {x : UInt8} (h : (48 <= x.toNat /\ x.toNat <= 57) \/ x = 46) : ZjA x = true := by
 rcases h with h | rfl
 ·have key : ∀ n : Fin 256, 48 <= n.val /\ n.val <= 57 -> ZjA (UInt8.ofNat n.val) = true := by decide
  have := key ⟨x.toNat, x.toNat_lt⟩ h
  simpa using this
 ·decide
theorem Zd3 {x : UInt8} (h : ZjA x = true) : x ≠ 32 /\ x ≠ 10 := by
 constructor
 ·rintro rfl
  exact absurd h (by decide)
 ·rintro rfl
  exact absurd h (by decide)
theorem Z57 : ∀ (k n : Nat), n < 10 ^ k -> 1 <= k -> ∀ x ∈ Lib.decDigits n, 48 <= x.toNat /\ x.toNat <= 57
 | 0, _, _, h => by omega
 | 1, n, h, _ => by
  have hn : n < 10 := by simpa using h
  intro x hx
  rw [Lib.decDigits_one hn] at hx
  rw [ZI] at hx
  subst hx
  have : (UInt8.ofNat (48 + n)).toNat = 48 + n := by
   rw [UInt8.toNat_ofNat']
   omega
  omega
 | k + 2, n, h, _ => by
  intro x hx
  by_cases hn : n < 10
  ·rw [Lib.decDigits_one hn] at hx
   rw [ZI] at hx
   subst hx
   have : (UInt8.ofNat (48 + n)).toNat = 48 + n := by
    rw [UInt8.toNat_ofNat']
    omega
   omega
  ·rw [Lib.decDigits, dif_neg hn] at hx
   rcases ZG.1 hx with hx | hx
   ·exact Z57 (k + 1) (n / 10) (by rw [Nat.pow_succ] at h; omega) (by omega) x hx
   ·rw [ZI] at hx
    subst hx
    have : (UInt8.ofNat (48 + n % 10)).toNat = 48 + n % 10 := by
     rw [UInt8.toNat_ofNat']
     omega
    omega
theorem ZaL (n : Nat) : Lib.decDigits n ≠ [] := by
 intro e
 have h1 := Lib.decDigits_length n
 rw [e] at h1
 by_cases h : n < 10
 ·rw [Lib.nDigits_small h] at h1; simp at h1
 ·rw [Lib.nDigits_big (by omega)] at h1; simp at h1
theorem Z2D {n : Int} (h0 : 0 <= n) (h1 : n <= 1000000000000000) : NumW (Z1d n) := by
 obtain ⟨m, rfl⟩ : ∃ m : Nat, n = (m : Int) := ⟨n.toNat, by omega⟩
 have e : (Z1d (m : Int)).data.toList = Lib.decDigits m := by
  unfold Z1d
  rw [Lib.itoa_nonneg]
 refine ⟨fun h => ZaL m ?_, fun x hx => ?_⟩
 ·rw [<- e]
  exact Kag.1 (by simpa using h)
 ·rw [e] at hx
  exact Zjz (.inl (Z57 20 m (by omega) (by omega) x hx))
theorem Z4Q {c : Int} (h0 : 0 <= c) (h1 : c <= 1000000000000000) : NumW (Z2B c) := by
 have n1 := Z2D (n := (c.natAbs : Int) / 100) (by omega) (by omega)
 have n2 := Z2D (n := (c.natAbs : Int) % 100) (by omega) (by omega)
 unfold Z2B
 rw [if_neg (by omega), Zjc]
 have n3 : ∀ x ∈ (ZiQ (Z1d ((c.natAbs : Int) % 100))).data.toList, ZjA x = true := fun x hx => by
  unfold ZiQ at hx
  split at hx
  ·rw [ByteArray.data_append, Array.toList_append] at hx
   rcases ZG.1 hx with hx | hx
   ·have : x = 48 := by simpa using hx
    rw [this]; decide
   ·exact n2.dig x hx
  ·exact n2.dig x hx
 refine ⟨fun h => n1.pos ?_, fun x hx => ?_⟩
 ·rw [Kdn, Kdn] at h
  omega
 ·rw [ByteArray.data_append, ByteArray.data_append, Array.toList_append, Array.toList_append] at hx
  rcases ZG.1 hx with hx | hx
  ·rcases ZG.1 hx with hx | hx
   ·exact n1.dig x hx
   ·have : x = 46 := by simpa using hx
    rw [this]; decide
  ·exact n3 x hx
theorem Z7Z {m : Int} {l : Ln} (h : LnIn m l) (hm : m <= 1000000000000000) : ∀ r ∈ Z0U l, NumW r := by
 intro r hr
 unfold Z0U at hr
 simp only [Kbf, Kda, or_false] at hr
 rcases hr with rfl | rfl | rfl | rfl | rfl | rfl | rfl
 ·exact Z2D h.pieces.1 (Kde h.pieces.2 hm)
 ·exact Z2D h.barred.1 (Kde h.barred.2 hm)
 ·exact Z2D h.grams.1 (Kde h.grams.2 hm)
 ·exact Z4Q h.base.1 (Kde h.base.2 hm)
 ·exact Z4Q h.bar.1 (Kde h.bar.2 hm)
 ·exact Z4Q h.saved.1 (Kde h.saved.2 hm)
 ·exact Z4Q h.cents.1 (Kde h.cents.2 hm)
theorem Z8u {m : Int} {l : Ln} (h : LnIn m l) (hm : m <= 1000000000000000) : LnT l := by
 have a : ∀ c : Int, 0 <= c /\ c <= m -> Zb2 c = true := fun c hc => by
  unfold Zb2 Z4T
  rw [ZF, Kab, Kab]
  omega
 have b : ∀ c : Int, 0 <= c /\ c <= m -> I64 c := fun c hc => ⟨by omega, by omega⟩
 refine ⟨?_, b _ h.pieces, b _ h.barred, b _ h.grams⟩
 unfold ZjJ
 rw [a _ h.base, a _ h.bar, a _ h.saved, a _ h.cents]
 rfl
def Z2I (ls : List Lev) (i : Nat) : ByteArray := if i < ls.length then (ls.getD i ⟨⟨#[]⟩, 0, [], 0, 0⟩).name else if i = ls.length then totalS else packedS
def Z2z (ls : List Lev) (X : Man) (i : Nat) : List ByteArray := if i < ls.length then Z0U (X.lines.getD i (Z1m 0)) else if i = ls.length then Z0U X.total else Z5s X
def Z1P (ls : List Lev) (X : Man) (i : Nat) : List UInt8 := (Z2I ls i).data.toList ++ Z37 (Z2z ls X i)
theorem Z8E {α β : Type} {f g : α -> List β} : ∀ l : List α, (∀ i ∈ l, f i = g i) -> l.flatMap f = l.flatMap g
 | [], _ => rfl
 | a :: r, h => by rw [Kao, Kao, h a Kaf, Z8E r (fun i hi => h i (Kaj _ hi))]
theorem Z6z (ls : List Lev) (X : Man) : Z3s ls X = ((List.range (ls.length + 2)).map (Z1P ls X)).flatMap (fun l => l ++ [10]) := by
 unfold Z3s Z49
 rw [Kaq, Kaq, ZD, ZD, Kai, Kai]
 have e1 : (List.range ls.length).flatMap (Zj0 ls X) = ((List.range ls.length).map (Z1P ls X)).flatMap (fun l => l ++ [10]) := by
  rw [List.flatMap_map]
  refine Z8E _ (fun i hi => ?_)
  have hi' := Ka8.1 hi
  unfold Zj0 Z1P Z2I Z2z Z1y
  rw [if_pos hi', if_pos hi']
 have e2 : Z1P ls X ls.length ++ [10] = Z1y totalS (Z0U X.total) := by
  unfold Z1P Z2I Z2z Z1y
  rw [if_neg (Kdg _), if_pos rfl, if_neg (Kdg _), if_pos rfl]
 have e3 : Z1P ls X (ls.length + 1) ++ [10] = Z1y packedS (Z5s X) := by
  unfold Z1P Z2I Z2z Z1y
  rw [if_neg (by omega), if_neg (by omega), if_neg (by omega), if_neg (by omega)]
 rw [e1]
 simp only [Kan, Kbe, Kao, Kct, Ka1]
 rw [e2, e3]
structure ManT (ls : List Lev) (X : Man) : Prop where
 len : X.lines.length = ls.length
 lns : ∀ l ∈ X.lines, LnIn 100000000 l
 tot : LnIn 100000000 X.total
 bns : 0 <= X.buns /\ X.buns <= 100000
 trs : 0 <= X.tras /\ X.tras <= 100000
 cns : 0 <= X.cons /\ X.cons <= 100000
theorem Zje {s : ByteArray} (h : Z2k s = true) : ∀ x ∈ s.data.toList, x ≠ 32 /\ x ≠ 10 := by
 unfold Z2k at h
 rw [ZF] at h
 have h1 := h.2
 unfold Zek at h1
 rw [Kbk] at h1
 intro x hx
 have h2 := h1 x hx
 unfold Z5u at h2
 have h3 := of_decide_eq_true h2
 constructor
 ·rintro rfl
  exact absurd h3 (by decide)
 ·rintro rfl
  exact absurd h3 (by decide)
section
variable {ls : List Lev} {X : Man}
theorem Zbe (h : Z0g ls = true) : ∀ l ∈ ls, Z2k l.name = true := by
 intro l hl
 obtain ⟨i, hi, rfl⟩ := Kau.1 hl
 obtain ⟨_, _, ⟨hs, pV, _, _⟩, _⟩ := Z0I.1 h
 obtain ⟨hh, hr⟩ := Z1a.1 (pV i hi hi)
 obtain ⟨hn, _⟩ := Z1S hh
 exact hn
theorem Z91 (h : ManT ls X) {i : Nat} (hi : i < ls.length + 2) : ∀ r ∈ Z2z ls X i, NumW r := by
 unfold Z2z
 split
 ·rename_i h1
  have h2 : i < X.lines.length := by rw [h.len]; exact h1
  have e : X.lines.getD i (Z1m 0) = X.lines[i] := by rw [Z2, Z3 h2]; rfl
  rw [e]
  exact Z7Z (h.lns _ (Z4 h2)) (by decide)
 ·split
  ·exact Z7Z h.tot (by decide)
  ·intro r hr
   unfold Z5s at hr
   simp only [Kbf, Kda, or_false] at hr
   rcases hr with rfl | rfl | rfl
   ·exact Z2D h.bns.1 (by have := h.bns.2; omega)
   ·exact Z2D h.trs.1 (by have := h.trs.2; omega)
   ·exact Z2D h.cns.1 (by have := h.cns.2; omega)
theorem ZcZ (hr : Z0g ls = true) {i : Nat} (hi : i < ls.length + 2) : ∀ x ∈ (Z2I ls i).data.toList, x ≠ 32 /\ x ≠ 10 := by
 unfold Z2I
 split
 ·rename_i h1
  have e : ls.getD i ⟨⟨#[]⟩, 0, [], 0, 0⟩ = ls[i] := by rw [Z2, Z3 h1]; rfl
  rw [e]
  exact Zje (Zbe hr _ (Z4 h1))
 ·split
  ·decide
  ·decide
theorem Zhe {rest : List ByteArray} (h : ∀ r ∈ rest, NumW r) : (10 : UInt8) ∉ Z37 rest := by
 unfold Z37
 intro hm
 obtain ⟨r, hr, hx⟩ := Ka5.1 hm
 rcases Kbf.1 hx with e | hx
 ·exact absurd e (by decide)
 ·exact (Zd3 ((h r hr).dig _ hx)).2 rfl
theorem Zes (hr : Z0g ls = true) (h : ManT ls X) : Z0s 10 [] (Z3s ls X).dropLast = (List.range (ls.length + 2)).map (Z1P ls X) := by
 rw [Z6z]
 refine Z5V 10 _ (by rw [Kaq]; simp) (fun l hl => ?_)
 obtain ⟨i, hi, rfl⟩ := Kae.1 hl
 have hi' := Ka8.1 hi
 unfold Z1P
 intro hm
 rcases ZG.1 hm with hm | hm
 ·exact (ZcZ hr hi' _ hm).2 rfl
 ·exact Zhe (Z91 h hi') hm
theorem ZeY (hr : Z0g ls = true) (h : ManT ls X) {i : Nat} (hi : i < ls.length + 2) : Z0s 32 [] (Z1P ls X i) = (Z2I ls i).data.toList :: (Z2z ls X i).map (fun r => r.data.toList) :=
 Z5U _ _ (fun hm => (ZcZ hr hi _ hm).1 rfl) (fun r pW hm => (Zd3 ((Z91 h hi r pW).dig _ hm)).1 rfl)
theorem Zhc (ls : List Lev) (X : Man) (i : Nat) : (Z2z ls X i).length = if i <= ls.length then 7 else 3 := by
 unfold Z2z
 by_cases h1 : i < ls.length
 ·rw [if_pos h1, if_pos (by omega)]; rfl
 ·by_cases h2 : i = ls.length
  ·rw [if_neg h1, if_pos h2, if_pos (by omega)]; rfl
  ·rw [if_neg h1, if_neg h2, if_neg (by omega)]; rfl
theorem ZgU (ls : List Lev) (X : Man) : ∃ t, Z3s ls X = t ++ [10] := by
 unfold Z3s Z1y
 exact ⟨_, (Kbc _ _ _).symm⟩
end
end Go.Proofs.YtlgajongmkhcnaaGreatDoor
