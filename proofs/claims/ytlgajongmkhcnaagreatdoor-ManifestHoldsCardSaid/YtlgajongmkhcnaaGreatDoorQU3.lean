import Derived.Test.YtlgajongmkhcnaaGreatDoorQUZ
import Derived.Shelf.Strings.Builder1
import Derived.Shelf.Strings.Trim
import Derived.Shelf.Small.Utf8
import Derived.Shelf.Small.Strs
import Derived.Shelf.Strings.BuilderF
import Derived.Shelf.Strings.BuilderK
import Derived.Shelf.Strconv.Itoa0
import Derived.Shelf.Strconv.Itoa1
import Derived.Shelf.LaysM
import Derived.Shelf.Strconv.Itoa2
import Derived.Shelf.Strconv.Itoa3
import Derived.Shelf.Strings.Search1
import Derived.Shelf.Strings.Search2
import Derived.Shelf.Strings.Search3
import Derived.Shelf.Strings.Count
import Derived.Shelf.Strings.Shaped
import Derived.Shelf.Strings.Prefix
import Derived.Shelf.Strings.Split
import Derived.Shelf.Strings.SplitShaped
import Derived.Shelf.Strings.Runes
import Derived.Shelf.Strings.AsciiSet
import Derived.Shelf.Bits.Mul64
import Derived.Shelf.Unicode.DecodeSlow
import Derived.Shelf.Slices.Turned
import Derived.Ground.SlgmProg
import Derived.Shelf.SortM.Plain
import Derived.Shelf.SortM.SortNone
import Derived.Test.YtlgajongmkhcnaaGreatDoorProg
set_option linter.unusedVariables false
set_option maxHeartbeats 32000000
namespace Go.Proofs
open Go.Shelf
def Tryz.lays169_ren : Go.Shelf.Ren := ⟨fun | 169 => 49 | n => n, fun | 70 => 127 | 9 => 9 | 0 => 0 | 72 => 129 | 37 => 23 | 127 => 187 | 3 => 3 | 5 => 5 | n => n, fun | n => n⟩
theorem Tryz.lays169 : Go.Proofs.Lays.n169 Tryz.prog Tryz.lays169_ren := {
 mixed := by kernel_rfl
 f169 := Tryz.func49.trans (Kah some (by kernel_rfl))
 t0 := Tryz.underlying0
 a0 := Tryz.isAgg0
 z0 := Tryz.sizeOf0
 v0 := Tryz.zeroValue0
 t3 := Tryz.underlying3
 a3 := Tryz.isAgg3
 z3 := Tryz.sizeOf3
 v3 := Tryz.zeroValue3
 t9 := Tryz.underlying9
 a9 := Tryz.isAgg9
 z9 := Tryz.sizeOf9
 v9 := Tryz.zeroValue9
 t37 := Tryz.underlying23
 a37 := Tryz.isAgg23
 z37 := Tryz.sizeOf23
 v37 := Tryz.zeroValue23
 t70 := Tryz.underlying127
 a70 := Tryz.isAgg127
 z70 := Tryz.sizeOf127
 v70 := Tryz.zeroValue127
 t72 := Tryz.underlying129
 a72 := Tryz.isAgg129
 z72 := Tryz.sizeOf129
 v72 := Tryz.zeroValue129
 t127 := Tryz.underlying187
 a127 := Tryz.isAgg187
 z127 := Tryz.sizeOf187
 v127 := Tryz.zeroValue187 }
theorem Tryz.Builder_Extra_169 : Builder.Extra Tryz.prog Tryz.lays169_ren := {
 sizeBuilder := by kernel_rfl
 liesBuilder := by kernel_rfl
 t5 := Tryz.underlying5
 a5 := Tryz.isAgg5
 z5 := Tryz.sizeOf5
 v5 := Tryz.zeroValue5
 infoByte := by kernel_rfl
 cellsByte := by kernel_rfl
 sizeByte := by kernel_rfl
 neB5 := by decide }
def Tryz.laysM171_ren : Go.Shelf.Ren := ⟨fun | 171 => 48 | 243 => 91 | 246 => 123 | 283 => 145 | 284 => 146 | 285 => 147 | 286 => 148 | 129 => 167 | 317 => 179 | 318 => 180 | 319 => 181 | 320 => 182 | 337 => 194 | 338 => 195 | n => n, fun | 3 => 3 | 9 => 9 | 2 => 2 | 4 => 4 | 171 => 237 | 0 => 0 | 53 => 238 | 37 => 23 | 5 => 5 | 173 => 241 | 212 => 267 | 51 => 22 | 20 => 20 | 213 => 268 | 46 => 75 | 232 => 281 | 233 => 282 | n => n, fun | 17 => 3 | 18 => 4 | 19 => 5 | n => n⟩
theorem Tryz.laysM171 : Go.Proofs.LaysM.n171 Tryz.prog Tryz.laysM171_ren := {
 mixed := by kernel_rfl
 f129 := Tryz.func167.trans (Kah some (by kernel_rfl))
 f171 := Tryz.func48.trans (Kah some (by kernel_rfl))
 f243 := Tryz.func91.trans (Kah some (by kernel_rfl))
 f246 := Tryz.func123.trans (Kah some (by kernel_rfl))
 f283 := Tryz.func145.trans (Kah some (by kernel_rfl))
 f284 := Tryz.func146.trans (Kah some (by kernel_rfl))
 f285 := Tryz.func147.trans (Kah some (by kernel_rfl))
 f286 := Tryz.func148.trans (Kah some (by kernel_rfl))
 f317 := Tryz.func179.trans (Kah some (by kernel_rfl))
 f318 := Tryz.func180.trans (Kah some (by kernel_rfl))
 f319 := Tryz.func181.trans (Kah some (by kernel_rfl))
 f320 := Tryz.func182.trans (Kah some (by kernel_rfl))
 f337 := Tryz.func194.trans (Kah some (by kernel_rfl))
 f338 := Tryz.func195.trans (Kah some (by kernel_rfl))
 t0 := Tryz.underlying0
 a0 := Tryz.isAgg0
 z0 := Tryz.sizeOf0
 v0 := Tryz.zeroValue0
 t2 := Tryz.underlying2
 a2 := Tryz.isAgg2
 z2 := Tryz.sizeOf2
 v2 := Tryz.zeroValue2
 t3 := Tryz.underlying3
 a3 := Tryz.isAgg3
 z3 := Tryz.sizeOf3
 v3 := Tryz.zeroValue3
 t4 := Tryz.underlying4
 a4 := Tryz.isAgg4
 z4 := Tryz.sizeOf4
 v4 := Tryz.zeroValue4
 t5 := Tryz.underlying5
 a5 := Tryz.isAgg5
 z5 := Tryz.sizeOf5
 v5 := Tryz.zeroValue5
 t9 := Tryz.underlying9
 a9 := Tryz.isAgg9
 z9 := Tryz.sizeOf9
 v9 := Tryz.zeroValue9
 t20 := Tryz.underlying20
 a20 := Tryz.isAgg20
 z20 := Tryz.sizeOf20
 v20 := Tryz.zeroValue20
 t37 := Tryz.underlying23
 a37 := Tryz.isAgg23
 z37 := Tryz.sizeOf23
 v37 := Tryz.zeroValue23
 t46 := Tryz.underlying75
 a46 := Tryz.isAgg75
 z46 := Tryz.sizeOf75
 v46 := Tryz.zeroValue75
 t51 := Tryz.underlying22
 a51 := Tryz.isAgg22
 z51 := Tryz.sizeOf22
 v51 := Tryz.zeroValue22
 t53 := Tryz.underlying238
 a53 := Tryz.isAgg238
 z53 := Tryz.sizeOf238
 v53 := Tryz.zeroValue238
 t171 := Tryz.underlying237
 a171 := Tryz.isAgg237
 z171 := Tryz.sizeOf237
 v171 := Tryz.zeroValue237
 t173 := Tryz.underlying241
 a173 := Tryz.isAgg241
 z173 := Tryz.sizeOf241
 v173 := Tryz.zeroValue241
 t212 := Tryz.underlying267
 a212 := Tryz.isAgg267
 z212 := Tryz.sizeOf267
 v212 := Tryz.zeroValue267
 t213 := Tryz.underlying268
 a213 := Tryz.isAgg268
 z213 := Tryz.sizeOf268
 t232 := Tryz.underlying281
 a232 := Tryz.isAgg281
 z232 := Tryz.sizeOf281
 v232 := Tryz.zeroValue281
 t233 := Tryz.underlying282
 a233 := Tryz.isAgg282
 z233 := Tryz.sizeOf282
 v233 := Tryz.zeroValue282
 g17 := by kernel_rfl
 g18 := by kernel_rfl
 g19 := by kernel_rfl
 i0 := by kernel_rfl
 i2 := by kernel_rfl
 i3 := by kernel_rfl
 i4 := by kernel_rfl
 i5 := by kernel_rfl
 i9 := by kernel_rfl
 i20 := by kernel_rfl
 i37 := by kernel_rfl
 i46 := by kernel_rfl
 i51 := by kernel_rfl
 i53 := by kernel_rfl
 i171 := by kernel_rfl
 i173 := by kernel_rfl
 i212 := by kernel_rfl
 i232 := by kernel_rfl
 i233 := by kernel_rfl
 m17 := by kernel_rfl
 m18 := by kernel_rfl
 m19 := by kernel_rfl }
open Go.RowKit Go.Sort Go.Lib in
theorem Tryz.strconv_Itoa (n : Int) (h0 : -9223372036854775808 <= n) (h1 : n <= 9223372036854775807) (w : World) (htab : Lib.TabIs Tryz.prog w "internal/strconv.uint64pow10" .u64 Lib.pow10Tab) :
 Calls Tryz.prog 48 #[.int .i64 n] w fun e w' => e = .returned (.string ⟨(Lib.itoa n).toArray⟩) /\ ∃ k os, w' = grow (w.drewN k) os := Any.strconv_Itoa Tryz.laysM171 n h0 h1 w htab
def Tryz.lays99_ren : Go.Shelf.Ren := ⟨fun | 99 => 113 | 206 => 137 | n => n, fun | 9 => 9 | 4 => 4 | 3 => 3 | n => n, fun | n => n⟩
theorem Tryz.lays99 : Go.Proofs.Lays.n99 Tryz.prog Tryz.lays99_ren := {
 mixed := by kernel_rfl
 f99 := Tryz.func113.trans (Kah some (by kernel_rfl))
 f206 := Tryz.func137.trans (Kah some (by kernel_rfl))
 t3 := Tryz.underlying3
 a3 := Tryz.isAgg3
 z3 := Tryz.sizeOf3
 v3 := Tryz.zeroValue3
 t4 := Tryz.underlying4
 a4 := Tryz.isAgg4
 z4 := Tryz.sizeOf4
 v4 := Tryz.zeroValue4
 t9 := Tryz.underlying9
 a9 := Tryz.isAgg9
 z9 := Tryz.sizeOf9
 v9 := Tryz.zeroValue9 }
open Go.RowKit Go.Lib in
theorem Tryz.strings_HasPrefix (s p : ByteArray) (w : World) :
 Calls Tryz.prog 113 #[.string s, .string p] w fun e w' => e = .returned (.bool (Lib.hasPrefix s.data.toList p.data.toList)) /\ w' = w := Any.strings_HasPrefix Tryz.lays99 s p w
def Tryz.lays212_ren : Go.Shelf.Ren := ⟨fun | 212 => 130 | 263 => 155 | 264 => 156 | n => n, fun | 46 => 75 | 51 => 22 | 146 => 248 | 53 => 238 | 148 => 250 | n => n, fun | n => n⟩
theorem Tryz.lays212 : Go.Proofs.Lays.n212 Tryz.prog Tryz.lays212_ren := {
 mixed := by kernel_rfl
 f212 := Tryz.func130.trans (Kah some (by kernel_rfl))
 f263 := Tryz.func155.trans (Kah some (by kernel_rfl))
 f264 := Tryz.func156.trans (Kah some (by kernel_rfl))
 t46 := Tryz.underlying75
 a46 := Tryz.isAgg75
 z46 := Tryz.sizeOf75
 v46 := Tryz.zeroValue75
 t51 := Tryz.underlying22
 a51 := Tryz.isAgg22
 z51 := Tryz.sizeOf22
 v51 := Tryz.zeroValue22
 t53 := Tryz.underlying238
 a53 := Tryz.isAgg238
 z53 := Tryz.sizeOf238
 v53 := Tryz.zeroValue238
 t146 := Tryz.underlying248
 a146 := Tryz.isAgg248
 z146 := Tryz.sizeOf248
 v146 := Tryz.zeroValue248
 t148 := Tryz.underlying250
 a148 := Tryz.isAgg250
 z148 := Tryz.sizeOf250
 v148 := Tryz.zeroValue250 }
open Go.RowKit Go.Lib in
theorem Tryz.bits_Mul (x y : Nat) (hx : x < 18446744073709551616) (hy : y < 18446744073709551616) (w : World) :
 Calls Tryz.prog 130 #[.int .u64 x, .int .u64 y] w fun e w' => e = .returned (.tuple #[.int .u64 ((x * y / 18446744073709551616 : Nat) : Int), .int .u64 ((x * y % 18446744073709551616 : Nat) : Int)]) /\ w' = w := Any.bits_Mul Tryz.lays212 x y hx hy w
def Tryz.laysSlM5_f106_ren : Go.Shelf.Ren := ⟨fun | 5 => 106 | 8 => 135 | 7 => 134 | 19 => 166 | 20 => 167 | 10 => 157 | 11 => 158 | 12 => 159 | 13 => 160 | 14 => 161 | 15 => 162 | 16 => 163 | 17 => 164 | 18 => 165 | 30 => 185 | 31 => 186 | 32 => 187 | 33 => 188 | 34 => 189 | 35 => 190 | 40 => 196 | n => n, fun | 23 => 35 | 25 => 3 | 3 => 3 | 32 => 75 | 22 => 35 | 0 => 0 | 44 => 22 | 46 => 238 | 4 => 4 | 36 => 254 | 35 => 253 | 41 => 211 | 5 => 5 | 9 => 9 | 53 => 270 | 57 => 72 | 63 => 277 | 64 => 278 | n => n, fun | n => n⟩
theorem Tryz.laysSlM5_f106 : Go.Proofs.SlLaysM.n5 Tryz.prog Tryz.laysSlM5_f106_ren := {
 mixed := by kernel_rfl
 f5 := ⟨Tryz.f106.name, by decide, Tryz.func106.trans (Kah some (by kernel_rfl))⟩
 f7 := ⟨Tryz.f134.name, by decide, Tryz.func134.trans (Kah some (by kernel_rfl))⟩
 f8 := Tryz.func135.trans (Kah some (by kernel_rfl))
 f10 := ⟨Tryz.f157.name, by decide, Tryz.func157.trans (Kah some (by kernel_rfl))⟩
 f11 := ⟨Tryz.f158.name, by decide, Tryz.func158.trans (Kah some (by kernel_rfl))⟩
 f12 := ⟨Tryz.f159.name, by decide, Tryz.func159.trans (Kah some (by kernel_rfl))⟩
 f13 := ⟨Tryz.f160.name, by decide, Tryz.func160.trans (Kah some (by kernel_rfl))⟩
 f14 := ⟨Tryz.f161.name, by decide, Tryz.func161.trans (Kah some (by kernel_rfl))⟩
 f15 := ⟨Tryz.f162.name, by decide, Tryz.func162.trans (Kah some (by kernel_rfl))⟩
 f16 := ⟨Tryz.f163.name, by decide, Tryz.func163.trans (Kah some (by kernel_rfl))⟩
 f17 := ⟨Tryz.f164.name, by decide, Tryz.func164.trans (Kah some (by kernel_rfl))⟩
 f18 := ⟨Tryz.f165.name, by decide, Tryz.func165.trans (Kah some (by kernel_rfl))⟩
 f19 := Tryz.func166.trans (Kah some (by kernel_rfl))
 f20 := Tryz.func167.trans (Kah some (by kernel_rfl))
 f30 := ⟨Tryz.f185.name, by decide, Tryz.func185.trans (Kah some (by kernel_rfl))⟩
 f31 := Tryz.func186.trans (Kah some (by kernel_rfl))
 f32 := Tryz.func187.trans (Kah some (by kernel_rfl))
 f33 := ⟨Tryz.f188.name, by decide, Tryz.func188.trans (Kah some (by kernel_rfl))⟩
 f34 := ⟨Tryz.f189.name, by decide, Tryz.func189.trans (Kah some (by kernel_rfl))⟩
 f35 := ⟨Tryz.f190.name, by decide, Tryz.func190.trans (Kah some (by kernel_rfl))⟩
 f40 := ⟨Tryz.f196.name, by decide, Tryz.func196.trans (Kah some (by kernel_rfl))⟩
 t0 := Tryz.underlying0
 a0 := Tryz.isAgg0
 z0 := Tryz.sizeOf0
 v0 := Tryz.zeroValue0
 t3 := Tryz.underlying3
 a3 := Tryz.isAgg3
 z3 := Tryz.sizeOf3
 v3 := Tryz.zeroValue3
 t4 := Tryz.underlying4
 a4 := Tryz.isAgg4
 z4 := Tryz.sizeOf4
 v4 := Tryz.zeroValue4
 t5 := Tryz.underlying5
 a5 := Tryz.isAgg5
 z5 := Tryz.sizeOf5
 v5 := Tryz.zeroValue5
 t9 := Tryz.underlying9
 a9 := Tryz.isAgg9
 z9 := Tryz.sizeOf9
 v9 := Tryz.zeroValue9
 t22 := Tryz.underlying35
 a22 := Tryz.isAgg35
 z22 := Tryz.sizeOf35
 v22 := Tryz.zeroValue35
 t23 := Tryz.underlying35
 a23 := Tryz.isAgg35
 z23 := Tryz.sizeOf35
 v23 := Tryz.zeroValue35
 t25 := Tryz.underlying3
 a25 := Tryz.isAgg3
 z25 := Tryz.sizeOf3
 v25 := Tryz.zeroValue3
 t32 := Tryz.underlying75
 a32 := Tryz.isAgg75
 z32 := Tryz.sizeOf75
 v32 := Tryz.zeroValue75
 t35 := Tryz.underlying253
 a35 := Tryz.isAgg253
 z35 := Tryz.sizeOf253
 v35 := Tryz.zeroValue253
 t36 := Tryz.underlying254
 a36 := Tryz.isAgg254
 z36 := Tryz.sizeOf254
 v36 := Tryz.zeroValue254
 t41 := Tryz.underlying211
 a41 := Tryz.isAgg211
 z41 := Tryz.sizeOf211
 v41 := Tryz.zeroValue211
 t44 := Tryz.underlying22
 a44 := Tryz.isAgg22
 z44 := Tryz.sizeOf22
 v44 := Tryz.zeroValue22
 t46 := Tryz.underlying238
 a46 := Tryz.isAgg238
 z46 := Tryz.sizeOf238
 v46 := Tryz.zeroValue238
 t53 := Tryz.underlying270
 a53 := Tryz.isAgg270
 z53 := Tryz.sizeOf270
 v53 := Tryz.zeroValue270
 t57 := Tryz.underlying72
 a57 := Tryz.isAgg72
 z57 := Tryz.sizeOf72
 v57 := Tryz.zeroValue72
 t63 := Tryz.underlying277
 a63 := Tryz.isAgg277
 z63 := Tryz.sizeOf277
 v63 := Tryz.zeroValue277
 t64 := Tryz.underlying278
 a64 := Tryz.isAgg278
 z64 := Tryz.sizeOf278
 v64 := Tryz.zeroValue278 }
open Go.Sort Go.RowKit in
theorem Tryz.slices_Sort_int (blk off cap : Nat) (zs : List Int) (w : World) (hH : Holds (Value.int .i64) w blk off zs.toArray) (hblk : blk < w.1.size) (hsz : zs.length < 4611686018427387904) :
 Calls Tryz.prog 106 #[.slice (some ⟨blk, off, none⟩) zs.length cap] w fun e w' =>
  e = .returned (.tuple #[]) /\ ∃ n os, w' = grow (putRow (Value.int .i64) (Sort.ahead w n) blk off (zs.mergeSort fun x y => decide (x <= y)).toArray) os := AnyM.slices_Sort_int Tryz.laysSlM5_f106 blk off cap zs w hH hblk hsz
open Go.RowKit Go.Sort in
theorem Tryz.slices_Sort_int_none (p : Option Addr) (cap : Nat) (w : World) :
 Calls Tryz.prog 106 #[.slice p 0 cap] w fun e w' => e = .returned (.tuple #[]) /\ w' = w := AnyM.slices_Sort_int_none Tryz.laysSlM5_f106 p cap w
end Go.Proofs
namespace Go.Proofs.YtlgajongmkhcnaaGreatDoor
open Go.RowKit
def Tryz.bld_ren : Go.Shelf.Ren := ⟨fun | 240 => 89 | 276 => 122 | 166 => 45 | 167 => 46 | n => n, fun | 0 => 0 | 3 => 3 | 4 => 4 | 5 => 5 | 9 => 9 | 20 => 20 | 37 => 23 | 70 => 127 | 72 => 129 | 75 => 131 | 80 => 138 | 164 => 218 | n => n, fun n => n⟩
theorem Tryz.bld166 : Go.Proofs.Lays.n166 Tryz.prog Tryz.bld_ren := {
 mixed := by kernel_rfl
 f166 := Tryz.func45.trans (Kah some (by kernel_rfl))
 f240 := Tryz.func89.trans (Kah some (by kernel_rfl))
 f276 := Tryz.func122.trans (Kah some (by kernel_rfl))
 t0 := Tryz.underlying0
 a0 := Tryz.isAgg0
 z0 := Tryz.sizeOf0
 v0 := Tryz.zeroValue0
 t3 := Tryz.underlying3
 a3 := Tryz.isAgg3
 z3 := Tryz.sizeOf3
 v3 := Tryz.zeroValue3
 t4 := Tryz.underlying4
 a4 := Tryz.isAgg4
 z4 := Tryz.sizeOf4
 v4 := Tryz.zeroValue4
 t9 := Tryz.underlying9
 a9 := Tryz.isAgg9
 z9 := Tryz.sizeOf9
 v9 := Tryz.zeroValue9
 t20 := Tryz.underlying20
 a20 := Tryz.isAgg20
 z20 := Tryz.sizeOf20
 v20 := Tryz.zeroValue20
 t37 := Tryz.underlying23
 a37 := Tryz.isAgg23
 z37 := Tryz.sizeOf23
 v37 := Tryz.zeroValue23
 t70 := Tryz.underlying127
 a70 := Tryz.isAgg127
 z70 := Tryz.sizeOf127
 v70 := Tryz.zeroValue127
 t72 := Tryz.underlying129
 a72 := Tryz.isAgg129
 z72 := Tryz.sizeOf129
 v72 := Tryz.zeroValue129
 t75 := Tryz.underlying131
 a75 := Tryz.isAgg131
 z75 := Tryz.sizeOf131
 v75 := Tryz.zeroValue131
 t164 := Tryz.underlying218
 a164 := Tryz.isAgg218
 z164 := Tryz.sizeOf218
 v164 := Tryz.zeroValue218 }
theorem Tryz.bld167 : Go.Proofs.Lays.n167 Tryz.prog Tryz.bld_ren := {
 mixed := by kernel_rfl
 f167 := Tryz.func46.trans (Kah some (by kernel_rfl))
 f240 := Tryz.func89.trans (Kah some (by kernel_rfl))
 f276 := Tryz.func122.trans (Kah some (by kernel_rfl))
 t0 := Tryz.underlying0
 a0 := Tryz.isAgg0
 z0 := Tryz.sizeOf0
 v0 := Tryz.zeroValue0
 t4 := Tryz.underlying4
 a4 := Tryz.isAgg4
 z4 := Tryz.sizeOf4
 v4 := Tryz.zeroValue4
 t5 := Tryz.underlying5
 a5 := Tryz.isAgg5
 z5 := Tryz.sizeOf5
 v5 := Tryz.zeroValue5
 t9 := Tryz.underlying9
 a9 := Tryz.isAgg9
 z9 := Tryz.sizeOf9
 v9 := Tryz.zeroValue9
 t20 := Tryz.underlying20
 a20 := Tryz.isAgg20
 z20 := Tryz.sizeOf20
 v20 := Tryz.zeroValue20
 t37 := Tryz.underlying23
 a37 := Tryz.isAgg23
 z37 := Tryz.sizeOf23
 v37 := Tryz.zeroValue23
 t70 := Tryz.underlying127
 a70 := Tryz.isAgg127
 z70 := Tryz.sizeOf127
 v70 := Tryz.zeroValue127
 t72 := Tryz.underlying129
 a72 := Tryz.isAgg129
 z72 := Tryz.sizeOf129
 v72 := Tryz.zeroValue129
 t75 := Tryz.underlying131
 a75 := Tryz.isAgg131
 z75 := Tryz.sizeOf131
 v75 := Tryz.zeroValue131
 t164 := Tryz.underlying218
 a164 := Tryz.isAgg218
 z164 := Tryz.sizeOf218
 v164 := Tryz.zeroValue218 }
theorem Tryz.bld_extra : Builder.Extra Tryz.prog Tryz.bld_ren := {
 sizeBuilder := by kernel_rfl
 liesBuilder := by kernel_rfl
 t5 := Tryz.underlying5
 a5 := Tryz.isAgg5
 z5 := Tryz.sizeOf5
 v5 := Tryz.zeroValue5
 infoByte := by kernel_rfl
 cellsByte := by kernel_rfl
 sizeByte := by kernel_rfl
 neB5 := by decide }
abbrev BldF (B b : Nat) (l : List UInt8) (w : World) : Prop := Lib.IsBuilderF 129 5 B b (Lib.byteCells l) w
abbrev Ziq (b : Nat) (w w' : World) : Prop := Lib.OthersKept 5 (some b) w w'
theorem Z4o (B b : Nat) (l : List UInt8) (c : UInt8) (w : World) (h : BldF B b l w) (hlen : l.length + 1 <= 140737488355328) (hBw : B <= w.1.size) :
 Calls Tryz.prog 46 #[.pointer (some ⟨b, 0, none⟩), .int .u8 (c.toNat : Int)] w fun e w' => e = .returned .nilIface /\ BldF B b (l ++ [c]) w' /\ Below B w w' /\ Ziq b w w' := by
 refine (Any.Builder_WriteByte_k Tryz.bld167 Tryz.bld_extra B b (Lib.byteCells l) (c.toNat : Int) w h (by rw [Lib.byteCells_length]; exact hlen) hBw).mono ?_
 rintro e w' ⟨rfl, h1, h2, h3⟩
 refine ⟨rfl, .inr ?_, h2, h3⟩
 have e : Lib.byteCells (l ++ [c]) = Lib.byteCells l ++ [.int .u8 (c.toNat : Int)] := by unfold Lib.byteCells; rw [ZD]; rfl
 rw [e]; exact h1
theorem Z3q (B b : Nat) (l : List UInt8) (s : ByteArray) (w : World) (h : BldF B b l w) (hlen : l.length + s.size <= 140737488355328) (hBw : B <= w.1.size) :
 Calls Tryz.prog 45 #[.pointer (some ⟨b, 0, none⟩), .string s] w fun e w' => e = .returned (.tuple #[.int .i64 s.size, .nilIface]) /\ BldF B b (l ++ s.data.toList) w' /\ Below B w w' /\ Ziq b w w' := by
 refine (Any.Builder_WriteString_k Tryz.bld166 Tryz.bld_extra B b (Lib.byteCells l) s w h (by rw [Lib.byteCells_length]; exact hlen) hBw).mono ?_
 rintro e w' ⟨rfl, h1, h2, h3⟩
 refine ⟨rfl, .inr ?_, h2, h3⟩
 have e : Lib.byteCells (l ++ s.data.toList) = Lib.byteCells l ++ Lib.strCells s := by unfold Lib.byteCells Lib.strCells; rw [ZD]
 rw [e]; exact h1
theorem Z5K (B b : Nat) (l : List UInt8) (w : World) (h : BldF B b l w) (hBw : B <= w.1.size) :
 Calls Tryz.prog 49 #[.pointer (some ⟨b, 0, none⟩)] w fun e w' => e = .returned (.string ⟨l.toArray⟩) /\ Below B w w' := by
 refine (Any.Builder_String_any_k Tryz.lays169 Tryz.Builder_Extra_169 B b l w h hBw).mono ?_
 rintro e w' ⟨rfl, _, h2, _⟩
 exact ⟨rfl, h2⟩
theorem BldF.lt {B b : Nat} {l : List UInt8} {w : World} (h : BldF B b l w) : b < w.1.size := by
 rcases h with ⟨_, v, hb, _⟩ | ⟨_, v, hb, _⟩ <;> exact (Z5.1 hb).1
theorem BldF.below {B b : Nat} {l : List UInt8} {w w' : World} (h : BldF B b l w) (hb : Below w.1.size w w') : BldF B b l w' := by
 have hlt := BldF.lt h
 have hg : w.grownBy w' none := ⟨hb.os, hb.tape, hb.output, hb.size, fun k hk _ => hb.block k hk⟩
 rcases h with ⟨h1, v, h2, h3, h4⟩ | ⟨h1, v, h2, h3, h4⟩
 ·exact .inl ⟨h1, v, (hb.block b hlt).trans h2, h3.kept hg (Classical.or_iff_not_imp_left.2 (fun e e2 => e e2)), h4⟩
 ·exact .inr ⟨h1, v, (hb.block b hlt).trans h2, h3.kept hg (Classical.or_iff_not_imp_left.2 (fun e e2 => e e2)), h4⟩
theorem ZjI (w : World) : BldF w.1.size w.1.size [] (w.alloc (.cells #[.pointer none, .slice none 0 0] 129)) :=
 Lib.IsBuilderF.of (Lib.fresh_isBuilder 129 5 w)
end Go.Proofs.YtlgajongmkhcnaaGreatDoor
