/-
 DERIVED: THE SHELF's CONTRACTS AT THIS DUMP, IN PLAIN WORDS (tools/lay-plain.mjs out of 'ShelfP.lean', which tools/lay-shelf.mjs wrote): THE SAME DECLARATIONS UNDER THE SAME NAMES: 'import', 'namespace', 'open', 'def', 'theorem' AND NOTHING ELSE: no command of the shelf's: FOR A HAND-IN. Each laying: the table of numbers ('.._ren') and one theorem, a field a fact of the dump's own or the kernel's comparison; each contract: ONE APPLICATION.
-/
import Derived.Shelf.Strings.Builder1
import Derived.Shelf.Strings.Builder2
import Derived.Shelf.Small.Strs
import Derived.Shelf.Utf8.RuneCount
import Derived.Shelf.Strconv.Itoa0
import Derived.Shelf.Strconv.Itoa1
import Derived.Shelf.LaysM
import Derived.Shelf.Strconv.Itoa2
import Derived.Shelf.Strconv.Itoa3
import Derived.Ground.MpProg
import Derived.Shelf.Pu.ParseUintPublic10
import Derived.Shelf.Strings.Search1
import Derived.Shelf.Strings.Search2
import Derived.Shelf.Strings.Search3
import Derived.Shelf.Strings.Cut
import Derived.Shelf.Strings.Count
import Derived.Shelf.Strings.Shaped
import Derived.Shelf.Strings.Prefix
import Derived.Shelf.Strings.Split
import Derived.Shelf.Strings.Replace
import Derived.Shelf.Strings.SplitShaped
import Derived.Shelf.Unicode.Decode
import Derived.Shelf.Strings.RuneCount
import Derived.Shelf.Bits.Mul64
import Derived.Shelf.Unicode.DecodeSlow
import Derived.Shelf.Unicode.DecodeAny
import Derived.Ground.Names2Prog
import Derived.Shelf.Slices.SearchI
import Derived.Test.YtkkblmdgedmdfaaGreatDoorProg
import Derived.Lib.Walk
import Derived.Lib.ItoaMem
import Derived.WalkKit
import Derived.BigCall
import Derived.BigGuard
import Derived.KernelRfl
namespace Go.Proofs
open Go.Shelf
def Tryz.lays283_ren : Go.Shelf.Ren := ⟨fun | 283 => 297 | n => n, fun | 3 => 3 | 9 => 9 | 4 => 4 | n => n, fun | n => n⟩
theorem Tryz.lays283 : Go.Proofs.Lays.n283 Tryz.prog Tryz.lays283_ren := {
 mixed := by kernel_rfl
 f283 := Tryz.func297.trans (congrArg some (by kernel_rfl))
 t3 := Tryz.underlying3
 a3 := Tryz.isAgg3
 z3 := Tryz.sizeOf3
 v3 := Tryz.zeroValue3
 t4 := Tryz.underlying4
 a4 := Tryz.isAgg4
 z4 := Tryz.sizeOf4
 v4 := Tryz.zeroValue4
 t9 := Tryz.underlying9
 a9 := Tryz.isAgg9
 z9 := Tryz.sizeOf9
 v9 := Tryz.zeroValue9 }
open Go.Lib in
theorem Tryz.internal_strconv_small (i : Nat) (h : i < 100) (w : World) :
    Calls Tryz.prog 297 #[.int .i64 i] w fun e w' => e = .returned (.string ⟨(Lib.decDigits i).toArray⟩) ∧ w' = w := Any.internal_strconv_small Tryz.lays283 i h w
def Tryz.laysM284_ren : Go.Shelf.Ren := ⟨fun | 284 => 298 | 129 => 305 | 317 => 304 | 318 => 306 | n => n, fun | 53 => 327 | 3 => 3 | 212 => 421 | 0 => 0 | 4 => 4 | 46 => 289 | 5 => 5 | 9 => 9 | n => n, fun | 17 => 5 | n => n⟩
theorem Tryz.laysM284 : Go.Proofs.LaysM.n284 Tryz.prog Tryz.laysM284_ren := {
 mixed := by kernel_rfl
 f129 := Tryz.func305.trans (congrArg some (by kernel_rfl))
 f284 := Tryz.func298.trans (congrArg some (by kernel_rfl))
 f317 := Tryz.func304.trans (congrArg some (by kernel_rfl))
 f318 := Tryz.func306.trans (congrArg some (by kernel_rfl))
 t0 := Tryz.underlying0
 a0 := Tryz.isAgg0
 z0 := Tryz.sizeOf0
 v0 := Tryz.zeroValue0
 t3 := Tryz.underlying3
 a3 := Tryz.isAgg3
 z3 := Tryz.sizeOf3
 v3 := Tryz.zeroValue3
 t4 := Tryz.underlying4
 a4 := Tryz.isAgg4
 z4 := Tryz.sizeOf4
 v4 := Tryz.zeroValue4
 t5 := Tryz.underlying5
 a5 := Tryz.isAgg5
 z5 := Tryz.sizeOf5
 v5 := Tryz.zeroValue5
 t9 := Tryz.underlying9
 a9 := Tryz.isAgg9
 z9 := Tryz.sizeOf9
 v9 := Tryz.zeroValue9
 t46 := Tryz.underlying289
 a46 := Tryz.isAgg289
 z46 := Tryz.sizeOf289
 v46 := Tryz.zeroValue289
 t53 := Tryz.underlying327
 a53 := Tryz.isAgg327
 z53 := Tryz.sizeOf327
 v53 := Tryz.zeroValue327
 t212 := Tryz.underlying421
 a212 := Tryz.isAgg421
 z212 := Tryz.sizeOf421
 v212 := Tryz.zeroValue421
 g17 := by kernel_rfl
 i0 := by kernel_rfl
 i3 := by kernel_rfl
 i4 := by kernel_rfl
 i5 := by kernel_rfl
 i9 := by kernel_rfl
 i46 := by kernel_rfl
 i53 := by kernel_rfl
 i212 := by kernel_rfl
 m17 := by kernel_rfl }
open Go.Lib in
theorem Tryz.internal_strconv_numDigits (u : Nat) (h1 : 1 ≤ u) (h2 : u < 18446744073709551616) (w : World) (htab : Lib.TabIs Tryz.prog w "internal/strconv.uint64pow10" .u64 Lib.pow10Tab) :
    Calls Tryz.prog 298 #[.int .u64 u] w fun e w' => e = .returned (.int .i64 (Lib.nDigits u)) ∧ w' = w := Any.internal_strconv_numDigits Tryz.laysM284 u h1 h2 w htab
def Tryz.lays285_ren : Go.Shelf.Ren := ⟨fun | 285 => 299 | n => n, fun | 37 => 182 | 53 => 327 | 3 => 3 | 4 => 4 | 51 => 232 | 9 => 9 | 5 => 5 | 0 => 0 | n => n, fun | n => n⟩
theorem Tryz.lays285 : Go.Proofs.Lays.n285 Tryz.prog Tryz.lays285_ren := {
 mixed := by kernel_rfl
 f285 := Tryz.func299.trans (congrArg some (by kernel_rfl))
 t0 := Tryz.underlying0
 a0 := Tryz.isAgg0
 z0 := Tryz.sizeOf0
 v0 := Tryz.zeroValue0
 t3 := Tryz.underlying3
 a3 := Tryz.isAgg3
 z3 := Tryz.sizeOf3
 v3 := Tryz.zeroValue3
 t4 := Tryz.underlying4
 a4 := Tryz.isAgg4
 z4 := Tryz.sizeOf4
 v4 := Tryz.zeroValue4
 t5 := Tryz.underlying5
 a5 := Tryz.isAgg5
 z5 := Tryz.sizeOf5
 v5 := Tryz.zeroValue5
 t9 := Tryz.underlying9
 a9 := Tryz.isAgg9
 z9 := Tryz.sizeOf9
 v9 := Tryz.zeroValue9
 t37 := Tryz.underlying182
 a37 := Tryz.isAgg182
 z37 := Tryz.sizeOf182
 v37 := Tryz.zeroValue182
 t51 := Tryz.underlying232
 a51 := Tryz.isAgg232
 z51 := Tryz.sizeOf232
 v51 := Tryz.zeroValue232
 t53 := Tryz.underlying327
 a53 := Tryz.isAgg327
 z53 := Tryz.sizeOf327
 v53 := Tryz.zeroValue327 }
open Go.RowKit Go.Sort Go.Lib in
theorem Tryz.internal_strconv_formatBase10 (blk off cap : Nat) (u : Nat) (d : Array UInt8) (w : World) (hH : Holds (fun (b : UInt8) => Value.int .u8 (b.toNat : Int)) w blk off d) (hu : u < 10 ^ d.size) (hu64 : u < 18446744073709551616) (hsz : d.size < 4611686018427387904) :
    Calls Tryz.prog 299 #[.slice (some ⟨blk, off, none⟩) d.size cap, .int .u64 u] w fun e w' =>
     e = .returned (.tuple #[]) ∧ ∃ (n v' : Nat) (dk : Array UInt8), w' = (putRow (fun (b : UInt8) => Value.int .u8 (b.toNat : Int)) w blk off dk).drewN n ∧ FmtInv d.size u 0 v' dk := Any.internal_strconv_formatBase10 Tryz.lays285 blk off cap u d w hH hu hu64 hsz
def Tryz.laysPu14_ren : Go.Shelf.Ren := ⟨fun | 14 => 221 | 16 => 238 | 17 => 239 | 19 => 254 | 20 => 255 | 21 => 256 | 22 => 257 | 23 => 258 | 24 => 259 | 25 => 269 | 27 => 271 | 26 => 270 | 28 => 281 | 29 => 287 | 30 => 297 | 31 => 298 | 32 => 299 | 33 => 300 | 35 => 305 | 34 => 304 | 36 => 306 | 37 => 307 | 38 => 308 | 39 => 309 | 40 => 310 | n => n, fun | 9 => 9 | 3 => 3 | 22 => 327 | 24 => 187 | 25 => 346 | 4 => 4 | 34 => 373 | 5 => 5 | 36 => 289 | 37 => 182 | 0 => 0 | 39 => 375 | 21 => 21 | 44 => 386 | 47 => 235 | 50 => 396 | 48 => 394 | 2 => 2 | 52 => 412 | 55 => 415 | 59 => 421 | 60 => 232 | 20 => 20 | 61 => 422 | 65 => 425 | 66 => 426 | 67 => 89 | n => n, fun | 0 => 3 | 1 => 4 | 2 => 5 | 3 => 6 | 4 => 7 | n => n⟩
theorem Tryz.laysPu14 : Go.Proofs.LaysPu.n14 Tryz.prog Tryz.laysPu14_ren := {
 mixed := by kernel_rfl
 f14 := Tryz.func221.trans (congrArg some (by kernel_rfl))
 f16 := Tryz.func238.trans (congrArg some (by kernel_rfl))
 f17 := Tryz.func239.trans (congrArg some (by kernel_rfl))
 f19 := Tryz.func254.trans (congrArg some (by kernel_rfl))
 f20 := Tryz.func255.trans (congrArg some (by kernel_rfl))
 f21 := Tryz.func256.trans (congrArg some (by kernel_rfl))
 f22 := Tryz.func257.trans (congrArg some (by kernel_rfl))
 f23 := Tryz.func258.trans (congrArg some (by kernel_rfl))
 f24 := Tryz.func259.trans (congrArg some (by kernel_rfl))
 f25 := Tryz.func269.trans (congrArg some (by kernel_rfl))
 f26 := Tryz.func270.trans (congrArg some (by kernel_rfl))
 f27 := Tryz.func271.trans (congrArg some (by kernel_rfl))
 f28 := Tryz.func281.trans (congrArg some (by kernel_rfl))
 f29 := Tryz.func287.trans (congrArg some (by kernel_rfl))
 f30 := Tryz.func297.trans (congrArg some (by kernel_rfl))
 f31 := Tryz.func298.trans (congrArg some (by kernel_rfl))
 f32 := Tryz.func299.trans (congrArg some (by kernel_rfl))
 f33 := Tryz.func300.trans (congrArg some (by kernel_rfl))
 f34 := Tryz.func304.trans (congrArg some (by kernel_rfl))
 f35 := Tryz.func305.trans (congrArg some (by kernel_rfl))
 f36 := Tryz.func306.trans (congrArg some (by kernel_rfl))
 f37 := Tryz.func307.trans (congrArg some (by kernel_rfl))
 f38 := Tryz.func308.trans (congrArg some (by kernel_rfl))
 f39 := Tryz.func309.trans (congrArg some (by kernel_rfl))
 f40 := Tryz.func310.trans (congrArg some (by kernel_rfl))
 t0 := Tryz.underlying0
 a0 := Tryz.isAgg0
 z0 := Tryz.sizeOf0
 v0 := Tryz.zeroValue0
 i0 := by kernel_rfl
 t2 := Tryz.underlying2
 a2 := Tryz.isAgg2
 z2 := Tryz.sizeOf2
 v2 := Tryz.zeroValue2
 i2 := by kernel_rfl
 t3 := Tryz.underlying3
 a3 := Tryz.isAgg3
 z3 := Tryz.sizeOf3
 v3 := Tryz.zeroValue3
 i3 := by kernel_rfl
 t4 := Tryz.underlying4
 a4 := Tryz.isAgg4
 z4 := Tryz.sizeOf4
 v4 := Tryz.zeroValue4
 i4 := by kernel_rfl
 t5 := Tryz.underlying5
 a5 := Tryz.isAgg5
 z5 := Tryz.sizeOf5
 v5 := Tryz.zeroValue5
 i5 := by kernel_rfl
 t9 := Tryz.underlying9
 a9 := Tryz.isAgg9
 z9 := Tryz.sizeOf9
 v9 := Tryz.zeroValue9
 i9 := by kernel_rfl
 t20 := Tryz.underlying20
 a20 := Tryz.isAgg20
 z20 := Tryz.sizeOf20
 v20 := Tryz.zeroValue20
 i20 := by kernel_rfl
 t21 := Tryz.underlying21
 a21 := Tryz.isAgg21
 z21 := Tryz.sizeOf21
 v21 := Tryz.zeroValue21
 i21 := by kernel_rfl
 t22 := Tryz.underlying327
 a22 := Tryz.isAgg327
 z22 := Tryz.sizeOf327
 v22 := Tryz.zeroValue327
 i22 := by kernel_rfl
 t24 := Tryz.underlying187
 a24 := Tryz.isAgg187
 z24 := Tryz.sizeOf187
 v24 := Tryz.zeroValue187
 i24 := by kernel_rfl
 t25 := Tryz.underlying346
 a25 := Tryz.isAgg346
 z25 := Tryz.sizeOf346
 v25 := Tryz.zeroValue346
 i25 := by kernel_rfl
 t34 := Tryz.underlying373
 a34 := Tryz.isAgg373
 z34 := Tryz.sizeOf373
 v34 := Tryz.zeroValue373
 i34 := by kernel_rfl
 c34 := by kernel_rfl
 t36 := Tryz.underlying289
 a36 := Tryz.isAgg289
 z36 := Tryz.sizeOf289
 v36 := Tryz.zeroValue289
 i36 := by kernel_rfl
 t37 := Tryz.underlying182
 a37 := Tryz.isAgg182
 z37 := Tryz.sizeOf182
 v37 := Tryz.zeroValue182
 i37 := by kernel_rfl
 t39 := Tryz.underlying375
 a39 := Tryz.isAgg375
 z39 := Tryz.sizeOf375
 v39 := Tryz.zeroValue375
 i39 := by kernel_rfl
 t44 := Tryz.underlying386
 a44 := Tryz.isAgg386
 z44 := Tryz.sizeOf386
 v44 := Tryz.zeroValue386
 i44 := by kernel_rfl
 t47 := Tryz.underlying235
 a47 := Tryz.isAgg235
 z47 := Tryz.sizeOf235
 v47 := Tryz.zeroValue235
 i47 := by kernel_rfl
 t48 := Tryz.underlying394
 a48 := Tryz.isAgg394
 z48 := Tryz.sizeOf394
 v48 := Tryz.zeroValue394
 i48 := by kernel_rfl
 t50 := Tryz.underlying396
 a50 := Tryz.isAgg396
 z50 := Tryz.sizeOf396
 v50 := Tryz.zeroValue396
 i50 := by kernel_rfl
 t52 := Tryz.underlying412
 a52 := Tryz.isAgg412
 z52 := Tryz.sizeOf412
 v52 := Tryz.zeroValue412
 i52 := by kernel_rfl
 t55 := Tryz.underlying415
 a55 := Tryz.isAgg415
 z55 := Tryz.sizeOf415
 v55 := Tryz.zeroValue415
 i55 := by kernel_rfl
 t59 := Tryz.underlying421
 a59 := Tryz.isAgg421
 z59 := Tryz.sizeOf421
 v59 := Tryz.zeroValue421
 i59 := by kernel_rfl
 t60 := Tryz.underlying232
 a60 := Tryz.isAgg232
 z60 := Tryz.sizeOf232
 v60 := Tryz.zeroValue232
 i60 := by kernel_rfl
 t61 := Tryz.underlying422
 a61 := Tryz.isAgg422
 z61 := Tryz.sizeOf422
 t65 := Tryz.underlying425
 a65 := Tryz.isAgg425
 z65 := Tryz.sizeOf425
 v65 := Tryz.zeroValue425
 i65 := by kernel_rfl
 t66 := Tryz.underlying426
 a66 := Tryz.isAgg426
 z66 := Tryz.sizeOf426
 v66 := Tryz.zeroValue426
 i66 := by kernel_rfl
 t67 := Tryz.underlying89
 a67 := Tryz.isAgg89
 z67 := Tryz.sizeOf89
 v67 := Tryz.zeroValue89
 i67 := by kernel_rfl
 g0 := by kernel_rfl
 m0 := by kernel_rfl
 g1 := by kernel_rfl
 m1 := by kernel_rfl
 g2 := by kernel_rfl
 m2 := by kernel_rfl
 g3 := by kernel_rfl
 m3 := by kernel_rfl
 g4 := by kernel_rfl
 m4 := by kernel_rfl }
open Go.RowKit in
theorem Tryz.strconv_ParseUint_10_at64_ok (s : ByteArray) (hmax : s.size ≤ 9223372036854775806) (u : Nat) (h : Lib.parseUintB 64 s.data.toList = .ok u) (w : World) :
    Calls Tryz.prog 221 #[.string s, .int .i64 10, .int .i64 64] w fun e w' => e = .returned (.tuple #[.int .u64 u, .nilIface]) ∧ (w' = w ∨ w' = Lib.bytesWorld w 5 s) := Any.strconv_ParseUint_10_at64_ok Tryz.laysPu14 s hmax u h w
def Tryz.lays145_ren : Go.Shelf.Ren := ⟨fun | 145 => 123 | 220 => 164 | 219 => 130 | 217 => 170 | 225 => 171 | 224 => 172 | 267 => 173 | 266 => 204 | 314 => 205 | n => n, fun | 9 => 9 | 4 => 4 | 59 => 229 | 3 => 3 | 5 => 5 | 46 => 289 | 146 => 329 | 51 => 232 | n => n, fun | 1 => 0 | n => n⟩
theorem Tryz.lays145 : Go.Proofs.Lays.n145 Tryz.prog Tryz.lays145_ren := {
 mixed := by kernel_rfl
 f145 := Tryz.func123.trans (congrArg some (by kernel_rfl))
 f217 := Tryz.func170.trans (congrArg some (by kernel_rfl))
 f219 := Tryz.func130.trans (congrArg some (by kernel_rfl))
 f220 := Tryz.func164.trans (congrArg some (by kernel_rfl))
 f224 := Tryz.func172.trans (congrArg some (by kernel_rfl))
 f225 := Tryz.func171.trans (congrArg some (by kernel_rfl))
 f266 := Tryz.func204.trans (congrArg some (by kernel_rfl))
 f267 := Tryz.func173.trans (congrArg some (by kernel_rfl))
 f314 := Tryz.func205.trans (congrArg some (by kernel_rfl))
 t3 := Tryz.underlying3
 a3 := Tryz.isAgg3
 z3 := Tryz.sizeOf3
 v3 := Tryz.zeroValue3
 t4 := Tryz.underlying4
 a4 := Tryz.isAgg4
 z4 := Tryz.sizeOf4
 v4 := Tryz.zeroValue4
 t5 := Tryz.underlying5
 a5 := Tryz.isAgg5
 z5 := Tryz.sizeOf5
 v5 := Tryz.zeroValue5
 t9 := Tryz.underlying9
 a9 := Tryz.isAgg9
 z9 := Tryz.sizeOf9
 v9 := Tryz.zeroValue9
 t46 := Tryz.underlying289
 a46 := Tryz.isAgg289
 z46 := Tryz.sizeOf289
 v46 := Tryz.zeroValue289
 t51 := Tryz.underlying232
 a51 := Tryz.isAgg232
 z51 := Tryz.sizeOf232
 v51 := Tryz.zeroValue232
 t59 := Tryz.underlying229
 a59 := Tryz.isAgg229
 z59 := Tryz.sizeOf229
 v59 := Tryz.zeroValue229
 t146 := Tryz.underlying329
 a146 := Tryz.isAgg329
 z146 := Tryz.sizeOf329
 v146 := Tryz.zeroValue329
 g1 := by kernel_rfl }
open Go.RowKit Go.Lib in
theorem Tryz.strings_Cut (s sep : ByteArray) (m : Int) (w : World) (hs : s.size < 4294967281) (hm : w.cell? ⟨0, 0, none⟩ = some (.int .i64 m)) :
    Calls Tryz.prog 123 #[.string s, .string sep] w fun e w' => e = .returned (.tuple #[.string ⟨(Lib.cut s.data.toList sep.data.toList).1.toArray⟩, .string ⟨(Lib.cut s.data.toList sep.data.toList).2.1.toArray⟩, .bool (Lib.cut s.data.toList sep.data.toList).2.2]) ∧ ∃ n, w' = w.drewN n := Any.strings_Cut Tryz.lays145 s sep m w hs hm
def Tryz.lays99_ren : Go.Shelf.Ren := ⟨fun | 99 => 293 | 206 => 237 | n => n, fun | 9 => 9 | 4 => 4 | 3 => 3 | n => n, fun | n => n⟩
theorem Tryz.lays99 : Go.Proofs.Lays.n99 Tryz.prog Tryz.lays99_ren := {
 mixed := by kernel_rfl
 f99 := Tryz.func293.trans (congrArg some (by kernel_rfl))
 f206 := Tryz.func237.trans (congrArg some (by kernel_rfl))
 t3 := Tryz.underlying3
 a3 := Tryz.isAgg3
 z3 := Tryz.sizeOf3
 v3 := Tryz.zeroValue3
 t4 := Tryz.underlying4
 a4 := Tryz.isAgg4
 z4 := Tryz.sizeOf4
 v4 := Tryz.zeroValue4
 t9 := Tryz.underlying9
 a9 := Tryz.isAgg9
 z9 := Tryz.sizeOf9
 v9 := Tryz.zeroValue9 }
open Go.RowKit Go.Lib in
theorem Tryz.strings_HasPrefix (s p : ByteArray) (w : World) :
    Calls Tryz.prog 293 #[.string s, .string p] w fun e w' => e = .returned (.bool (Lib.hasPrefix s.data.toList p.data.toList)) ∧ w' = w := Any.strings_HasPrefix Tryz.lays99 s p w
def Tryz.lays154_ren : Go.Shelf.Ren := ⟨fun | 154 => 31 | 138 => 82 | 165 => 83 | 143 => 84 | 166 => 85 | 197 => 86 | 169 => 87 | 195 => 126 | 218 => 127 | 240 => 128 | 241 => 129 | 219 => 130 | 260 => 131 | 276 => 168 | 277 => 169 | 217 => 170 | 225 => 171 | 224 => 172 | 267 => 173 | 266 => 204 | 314 => 205 | n => n, fun | 9 => 9 | 3 => 3 | 4 => 4 | 72 => 184 | 0 => 0 | 76 => 188 | 105 => 190 | 21 => 21 | 5 => 5 | 70 => 181 | 20 => 20 | 37 => 182 | 75 => 187 | 127 => 235 | 164 => 285 | 46 => 289 | 119 => 290 | 139 => 293 | 138 => 292 | 146 => 329 | 51 => 232 | 80 => 89 | n => n, fun | 1 => 0 | 3 => 1 | 4 => 2 | n => n⟩
theorem Tryz.lays154 : Go.Proofs.Lays.n154 Tryz.prog Tryz.lays154_ren := {
 mixed := by kernel_rfl
 f138 := Tryz.func82.trans (congrArg some (by kernel_rfl))
 f143 := Tryz.func84.trans (congrArg some (by kernel_rfl))
 f154 := Tryz.func31.trans (congrArg some (by kernel_rfl))
 f165 := Tryz.func83.trans (congrArg some (by kernel_rfl))
 f166 := Tryz.func85.trans (congrArg some (by kernel_rfl))
 f169 := Tryz.func87.trans (congrArg some (by kernel_rfl))
 f195 := Tryz.func126.trans (congrArg some (by kernel_rfl))
 f197 := Tryz.func86.trans (congrArg some (by kernel_rfl))
 f217 := Tryz.func170.trans (congrArg some (by kernel_rfl))
 f218 := Tryz.func127.trans (congrArg some (by kernel_rfl))
 f219 := Tryz.func130.trans (congrArg some (by kernel_rfl))
 f224 := Tryz.func172.trans (congrArg some (by kernel_rfl))
 f225 := Tryz.func171.trans (congrArg some (by kernel_rfl))
 f240 := Tryz.func128.trans (congrArg some (by kernel_rfl))
 f241 := Tryz.func129.trans (congrArg some (by kernel_rfl))
 f260 := Tryz.func131.trans (congrArg some (by kernel_rfl))
 f266 := Tryz.func204.trans (congrArg some (by kernel_rfl))
 f267 := Tryz.func173.trans (congrArg some (by kernel_rfl))
 f276 := Tryz.func168.trans (congrArg some (by kernel_rfl))
 f277 := Tryz.func169.trans (congrArg some (by kernel_rfl))
 f314 := Tryz.func205.trans (congrArg some (by kernel_rfl))
 t0 := Tryz.underlying0
 a0 := Tryz.isAgg0
 z0 := Tryz.sizeOf0
 v0 := Tryz.zeroValue0
 t3 := Tryz.underlying3
 a3 := Tryz.isAgg3
 z3 := Tryz.sizeOf3
 v3 := Tryz.zeroValue3
 t4 := Tryz.underlying4
 a4 := Tryz.isAgg4
 z4 := Tryz.sizeOf4
 v4 := Tryz.zeroValue4
 t5 := Tryz.underlying5
 a5 := Tryz.isAgg5
 z5 := Tryz.sizeOf5
 v5 := Tryz.zeroValue5
 t9 := Tryz.underlying9
 a9 := Tryz.isAgg9
 z9 := Tryz.sizeOf9
 v9 := Tryz.zeroValue9
 t20 := Tryz.underlying20
 a20 := Tryz.isAgg20
 z20 := Tryz.sizeOf20
 v20 := Tryz.zeroValue20
 t21 := Tryz.underlying21
 a21 := Tryz.isAgg21
 z21 := Tryz.sizeOf21
 v21 := Tryz.zeroValue21
 t37 := Tryz.underlying182
 a37 := Tryz.isAgg182
 z37 := Tryz.sizeOf182
 v37 := Tryz.zeroValue182
 t46 := Tryz.underlying289
 a46 := Tryz.isAgg289
 z46 := Tryz.sizeOf289
 v46 := Tryz.zeroValue289
 t51 := Tryz.underlying232
 a51 := Tryz.isAgg232
 z51 := Tryz.sizeOf232
 v51 := Tryz.zeroValue232
 t70 := Tryz.underlying181
 a70 := Tryz.isAgg181
 z70 := Tryz.sizeOf181
 v70 := Tryz.zeroValue181
 t72 := Tryz.underlying184
 a72 := Tryz.isAgg184
 z72 := Tryz.sizeOf184
 v72 := Tryz.zeroValue184
 t75 := Tryz.underlying187
 a75 := Tryz.isAgg187
 z75 := Tryz.sizeOf187
 v75 := Tryz.zeroValue187
 t76 := Tryz.underlying188
 a76 := Tryz.isAgg188
 z76 := Tryz.sizeOf188
 v76 := Tryz.zeroValue188
 t105 := Tryz.underlying190
 a105 := Tryz.isAgg190
 z105 := Tryz.sizeOf190
 v105 := Tryz.zeroValue190
 t119 := Tryz.underlying290
 a119 := Tryz.isAgg290
 z119 := Tryz.sizeOf290
 t127 := Tryz.underlying235
 a127 := Tryz.isAgg235
 z127 := Tryz.sizeOf235
 v127 := Tryz.zeroValue235
 t138 := Tryz.underlying292
 a138 := Tryz.isAgg292
 z138 := Tryz.sizeOf292
 v138 := Tryz.zeroValue292
 t139 := Tryz.underlying293
 a139 := Tryz.isAgg293
 z139 := Tryz.sizeOf293
 v139 := Tryz.zeroValue293
 t146 := Tryz.underlying329
 a146 := Tryz.isAgg329
 z146 := Tryz.sizeOf329
 v146 := Tryz.zeroValue329
 t164 := Tryz.underlying285
 a164 := Tryz.isAgg285
 z164 := Tryz.sizeOf285
 v164 := Tryz.zeroValue285
 g1 := by kernel_rfl
 g3 := by kernel_rfl
 g4 := by kernel_rfl }
open Go.RowKit Go.Lib in
theorem Tryz.strings_Replace_none (s old new : ByteArray) (n : Int) (w : World) (h : old = new ∨ n = 0) :
    Calls Tryz.prog 31 #[.string s, .string old, .string new, .int .i64 n] w fun e w' => e = .returned (.string s) ∧ w' = w := Any.strings_Replace_none Tryz.lays154 s old new n w h
open Go.RowKit Go.Lib in
theorem Tryz.strings_Replace_absent (s old new : ByteArray) (n : Int) (m : Int) (w : World) (hs : s.size < 4294967281) (hm : w.cell? ⟨0, 0, none⟩ = some (.int .i64 m)) (h1 : 1 ≤ old.size) (hne : old ≠ new) (hn0 : n ≠ 0) (hc0 : Lib.countB s old = 0) :
    Calls Tryz.prog 31 #[.string s, .string old, .string new, .int .i64 n] w fun e w' => e = .returned (.string s) ∧ w' = w := Any.strings_Replace_absent Tryz.lays154 s old new n m w hs hm h1 hne hn0 hc0
end Go.Proofs
namespace Go.Proofs.YtkkblmdgedmdfaaGreatDoor
open Go.Shelf Go.RowKit Go.Sort Go.Lib

theorem holds_zero0 (w : World) (T : TypeId) (nd : Nat) (hs : nd ≤ 24) : Holds (fun (b : UInt8) => Value.int .u8 (b.toNat : Int)) (w.alloc (.cells zeros24 T)) w.heap.size 0 (Array.replicate nd (0 : UInt8)) := fun j hj => by
  have hj' : j < nd := by simpa using hj
  refine ⟨?_, World.frozen?_alloc_new _ _ _ _⟩
  rw [World.cell?_alloc_new, zeros24_at _ (by omega), getElem!_pos _ j hj]
  simp
theorem fin_pos0 (w : World) (o : Obj) (dk : Array UInt8) (k : Nat) : ∃ os, (putRow (fun (b : UInt8) => Value.int .u8 (b.toNat : Int)) (w.alloc o) w.heap.size 0 dk).drewN k = grow (w.drewN k) os := by
  rw [alloc_eq_grow]
  obtain ⟨os', _, e⟩ := putRow_grow_new (fun (b : UInt8) => Value.int .u8 (b.toNat : Int)) w #[o] w.heap.size 0 dk (Nat.le_refl _)
  exact ⟨os', by rw [e]; rfl⟩

set_option maxHeartbeats 6400000 in
set_option maxRecDepth 100000 in
theorem fmtU_any (u : Nat) (hu64 : u < 18446744073709551616) (w : World) (htab : Lib.TabIs Tryz.prog w "internal/strconv.uint64pow10" .u64 Lib.pow10Tab) :
    Calls Tryz.prog 291 #[.int .u64 u, .int .i64 10] w fun e w' => e = .returned (.string ⟨(Lib.decDigits u).toArray⟩) ∧ ∃ k os, w' = grow (w.drewN k) os := by
  by_cases hs : u < 100
  · have hi : (u : Int) < 100 := by omega
    have hw : IntKind.i64.wrap (u : Int) = u := by rw [IntKind.wrap_i64]; omega
    go_enter Tryz.func291, Tryz.ntmps291
    go_wp2_with (refine (Tryz.internal_strconv_small u hs _).mono ?_; rintro e w' ⟨rfl, rfl⟩)
    go_ret
    exact ⟨rfl, 0, #[], by simp [World.drewN_zero]⟩
  · have hu1 : 1 ≤ u := by omega
    have hi : ¬ (u : Int) < 100 := by omega
    have hnd20 : Lib.nDigits u ≤ 20 := by have := Lib.numDigits_eq u hu1 hu64; split at this <;> omega
    have hb3 : Lib.nDigits u ≤ 24 := by omega
    have hal : Tryz.prog.arrayLen 412 = 24 := by kernel_rfl
    have hsl1 : ∀ W, (Instr.sliceAt 412 (.pointer (some ⟨w.heap.size, 0, none⟩)) none (some (.int .i64 (Lib.nDigits u : Int))) none).run Tryz.prog W = .ok (.slice (some ⟨w.heap.size, 0, none⟩) (Lib.nDigits u) 24) W := fun W => by
      rw [run_sliceAt_array_h W 412 ⟨w.heap.size, 0, none⟩ (by kernel_rfl) .i64 (Lib.nDigits u : Int) (by omega) (by rw [hal]; omega)]
      go_simp
    have hH0 := holds_zero0 w 412 (Lib.nDigits u) (by omega)
    have hfmt := Tryz.internal_strconv_formatBase10 w.heap.size 0 24 u (Array.replicate (Lib.nDigits u) 0) (w.alloc (.cells Lib.zeros24 412)) hH0 (by rw [Array.size_replicate]; exact Lib.lt_pow_nDigits u) hu64 (by rw [Array.size_replicate]; omega)
    rw [Array.size_replicate] at hfmt
    have HH0 := Lib.hid hH0
    clear hH0 hal
    go_enter Tryz.func291, Tryz.ntmps291
    go_wp2_with (first
      | (refine (Tryz.internal_strconv_numDigits u hu1 hu64 _ (Lib.tabIs_alloc htab _)).mono ?_; rintro e w' ⟨rfl, rfl⟩))
    refine hfmt.mono ?_
    rintro e w' ⟨rfl, k, v', dk, rfl, hF⟩
    have hcv : (convert 182 9 (.slice (some ⟨w.heap.size, 0, none⟩) (Lib.nDigits u) 24)).run Tryz.prog ((putRow (fun (b : UInt8) => Value.int .u8 (b.toNat : Int)) (w.alloc (.cells Lib.zeros24 412)) w.heap.size 0 dk).drewN k) = .ok (.string ⟨(Lib.decDigits u).toArray⟩) ((putRow (fun (b : UInt8) => Value.int .u8 (b.toNat : Int)) (w.alloc (.cells Lib.zeros24 412)) w.heap.size 0 dk).drewN k) := by
      have h := run_convert_bytes_back (P := Tryz.prog) ((putRow (fun (b : UInt8) => Value.int .u8 (b.toNat : Int)) (w.alloc (.cells Lib.zeros24 412)) w.heap.size 0 dk).drewN k) 182 9 5 ⟨w.heap.size, 0, none⟩ 24 (Lib.decDigits u) Tryz.underlying182 Tryz.underlying5 Tryz.underlying9 (fun j hj => by
        rw [Lib.row_is_numeral hF j hj, Lib.add_plain, World.cell?_drewN]
        exact cell?_putRow (fun (b : UInt8) => Value.int .u8 (b.toNat : Int)) _ w.heap.size 0 _ dk HH0.out (by rw [hF.size, Array.size_replicate]) j (by rw [hF.size]; rw [Lib.decDigits_length] at hj; exact hj))
      rw [Lib.decDigits_length] at h
      exact h
    go_wp2
    go_ret
    obtain ⟨os, eo⟩ := fin_pos0 w (.cells Lib.zeros24 412) dk k
    exact ⟨rfl, k, os, eo⟩

theorem fmtU (u : Nat) (hu64 : u < 18446744073709551616) (w : World) (htab : Lib.TabIs Tryz.prog w "internal/strconv.uint64pow10" .u64 Lib.pow10Tab) :
    Calls Tryz.prog 283 #[.int .u64 u, .int .i64 10] w fun e w' => e = .returned (.string ⟨(Lib.decDigits u).toArray⟩) ∧ ∃ k os, w' = grow (w.drewN k) os := by
  go_enter Tryz.func283, Tryz.ntmps283
  go_wp2_with (refine (fmtU_any u hu64 w htab).mono ?_; rintro e w' ⟨rfl, k, os, rfl⟩)
  go_ret
  exact ⟨rfl, k, os, rfl⟩

end Go.Proofs.YtkkblmdgedmdfaaGreatDoor
namespace Go.Proofs.YtkkblmdgedmdfaaGreatDoor
set_option linter.unusedSimpArgs false
set_option linter.unusedVariables false

theorem snocInd {α : Type} {motive : List α → Prop} (nil : motive []) (append_singleton : ∀ l a, motive l → motive (l ++ [a])) (l : List α) : motive l := by
  rw [← List.reverse_reverse l]
  induction l.reverse with
  | nil => exact nil
  | cons a l ih => rw [List.reverse_cons]; exact append_singleton _ _ ih

def B9 : Nat := 1000000000

def drop0 : List Nat → List Nat
  | [] => []
  | x :: l => match drop0 l with
    | [] => if x = 0 then [] else [x]
    | r => x :: r
def spill (c : Nat) : List Nat := if h : c = 0 then [] else c % B9 :: spill (c / B9)
termination_by c
decreasing_by exact Nat.div_lt_self (by omega) (by decide)
def carry : List Nat → Nat → List Nat
  | [], c => spill c
  | x :: l, c => (x + c) % B9 :: carry l ((x + c) / B9)
def normD (l : List Nat) : List Nat := drop0 (carry l 0)

def RightD (l : List Nat) : Prop := (∀ x ∈ l, x < B9) ∧ drop0 l = l

theorem carry_id : ∀ {l : List Nat}, (∀ x ∈ l, x < B9) → carry l 0 = l
  | [], _ => by unfold carry spill; simp
  | x :: l, h => by
    have hx : x < B9 := h x (by simp)
    unfold carry
    rw [Nat.add_zero, Nat.mod_eq_of_lt hx, Nat.div_eq_of_lt hx, carry_id (fun y hy => h y (by simp [hy]))]
theorem normD_right {l : List Nat} (h : RightD l) : normD l = l := by
  unfold normD
  rw [carry_id h.1, h.2]
theorem drop0_cons (x : Nat) (l : List Nat) : drop0 (x :: l) = if drop0 l = [] then (if x = 0 then [] else [x]) else x :: drop0 l := by
  rw [drop0]
  split
  · rename_i h; rw [if_pos h]
  · rename_i h; rw [if_neg h]
theorem drop0_drop0 : ∀ (l : List Nat), drop0 (drop0 l) = drop0 l
  | [] => rfl
  | x :: l => by
    have ih := drop0_drop0 l
    rw [drop0_cons x l]
    split
    · split
      · rfl
      · rename_i hx; rw [drop0_cons]; simp [drop0, hx]
    · rename_i h; rw [drop0_cons, ih, if_neg h]
theorem drop0_sub : ∀ {l : List Nat} {x : Nat}, x ∈ drop0 l → x ∈ l
  | [], x, h => by simp [drop0] at h
  | y :: l, x, h => by
    unfold drop0 at h
    split at h
    · split at h <;> simp_all
    · rename_i e
      rcases List.mem_cons.1 h with rfl | h
      · simp
      · exact List.mem_cons_of_mem _ (drop0_sub h)
theorem spill_lt (c : Nat) : ∀ x ∈ spill c, x < B9 := by
  induction c using Nat.strongRecOn with
  | ind c ih =>
    intro x hx
    unfold spill at hx
    split at hx
    · simp at hx
    · rename_i h
      rcases List.mem_cons.1 hx with rfl | hx
      · exact Nat.mod_lt _ (by decide)
      · exact ih _ (Nat.div_lt_self (by omega) (by decide)) x hx
theorem carry_lt : ∀ (l : List Nat) (c : Nat), ∀ x ∈ carry l c, x < B9
  | [], c, x, h => spill_lt c x h
  | y :: l, c, x, h => by
    unfold carry at h
    rcases List.mem_cons.1 h with rfl | h
    · exact Nat.mod_lt _ (by decide)
    · exact carry_lt l _ x h
theorem normD_ok (l : List Nat) : RightD (normD l) := ⟨fun x hx => carry_lt l 0 x (drop0_sub hx), drop0_drop0 _⟩

def dec (n : Nat) : List UInt8 := if h : n < 10 then [UInt8.ofNat (48 + n)] else dec (n / 10) ++ [UInt8.ofNat (48 + n % 10)]
termination_by n
decreasing_by omega
def padN (k n : Nat) : List UInt8 := List.replicate (k - (dec n).length) 48 ++ dec n
def natText (l : List Nat) : List UInt8 :=
  match l.reverse with
  | [] => dec 0
  | t :: r => dec t ++ r.flatMap (padN 9)

def isDec (s : List UInt8) : Bool := s.all fun b => 48 ≤ b.toNat && b.toNat ≤ 57
def valD (s : List UInt8) : Nat := s.foldl (fun a b => a * 10 + (b.toNat - 48)) 0
def chunksE (s : List UInt8) : List Nat := if h : s = [] then [] else valD (s.drop (s.length - 9)) :: chunksE (s.take (s.length - 9))
termination_by s.length
decreasing_by
  have : 0 < s.length := List.length_pos_iff.2 h
  simp; omega
def natOf (s : List UInt8) : Option (List Nat) :=
  if s = [] ∨ (s.length > 1 ∧ s.head? = some 48) ∨ isDec s = false then none else some (normD (chunksE s))

theorem valD_append (s : List UInt8) (b : UInt8) : valD (s ++ [b]) = valD s * 10 + (b.toNat - 48) := by unfold valD; simp
theorem valD_lt : ∀ (s : List UInt8), isDec s = true → valD s < 10 ^ s.length := by
  intro s
  induction s using snocInd with
  | nil => intro; simp [valD]
  | append_singleton s b ih =>
    intro h
    simp only [isDec, List.all_append, Bool.and_eq_true, List.all_cons, List.all_nil, decide_eq_true_eq, Bool.and_true] at h
    have := ih h.1
    rw [valD_append, List.length_append, List.length_singleton, Nat.pow_succ]
    have hb := h.2.2
    omega
theorem valD_pos : ∀ (s : List UInt8) (b : UInt8), isDec (b :: s) = true → b ≠ 48 → 1 ≤ valD (b :: s) := by
  intro s
  induction s using snocInd with
  | nil =>
    intro b h hb
    simp only [isDec, List.all_cons, List.all_nil, Bool.and_true, Bool.and_eq_true, decide_eq_true_eq] at h
    have : b.toNat ≠ 48 := fun e => hb (UInt8.toNat_inj.1 e)
    simp [valD]; omega
  | append_singleton s c ih =>
    intro b h hb
    rw [← List.cons_append] at h ⊢
    simp only [isDec, List.all_append, Bool.and_eq_true] at h
    have := ih b h.1 hb
    rw [valD_append]; omega

theorem ofNat_dig (b : UInt8) (h : 48 ≤ b.toNat) : UInt8.ofNat (48 + (b.toNat - 48)) = b := by
  rw [show 48 + (b.toNat - 48) = b.toNat by omega]
  exact UInt8.ofNat_toNat
theorem dec_valD : ∀ (s : List UInt8) (b : UInt8), isDec (b :: s) = true → (b ≠ 48 ∨ s = []) → dec (valD (b :: s)) = b :: s := by
  intro s
  induction s using snocInd with
  | nil =>
    intro b h _
    simp only [isDec, List.all_cons, List.all_nil, Bool.and_true, Bool.and_eq_true, decide_eq_true_eq] at h
    unfold dec
    have e : valD [b] = b.toNat - 48 := by simp [valD]
    rw [e, dif_pos (by omega), ofNat_dig b h.1]
  | append_singleton s c ih =>
    intro b h hb
    rw [← List.cons_append] at h ⊢
    simp only [isDec, List.all_append, Bool.and_eq_true, List.all_cons, List.all_nil, decide_eq_true_eq, Bool.and_true] at h
    have hb : b ≠ 48 := hb.resolve_right (by simp)
    have hp := valD_pos s b (by simpa [isDec] using h.1) hb
    have ih := ih b (by simpa [isDec] using h.1) (.inl hb)
    rw [valD_append]
    unfold dec
    rw [dif_neg (by omega), show (valD (b :: s) * 10 + (c.toNat - 48)) / 10 = valD (b :: s) by omega, show (valD (b :: s) * 10 + (c.toNat - 48)) % 10 = c.toNat - 48 by omega, ih, ofNat_dig c h.2.1]
theorem valD_zero (s : List UInt8) : valD (48 :: s) = valD s := by simp [valD]
theorem padN_valD : ∀ (s : List UInt8), s ≠ [] → isDec s = true → (dec (valD s)).length ≤ s.length ∧ padN s.length (valD s) = s
  | [], h, _ => absurd rfl h
  | b :: s, _, h => by
    by_cases hb : b = 48 ∧ s ≠ []
    · obtain ⟨rfl, hs⟩ := hb
      have h2 : isDec s = true := by simp only [isDec, List.all_cons, Bool.and_eq_true] at h; exact h.2
      obtain ⟨h3, h4⟩ := padN_valD s hs h2
      rw [valD_zero]
      refine ⟨by simp; omega, ?_⟩
      unfold padN at h4 ⊢
      rw [show (48 :: s).length - (dec (valD s)).length = (s.length - (dec (valD s)).length) + 1 by simp; omega, List.replicate_succ, List.cons_append, h4]
    · have := dec_valD s b h (by
        by_cases e : b = 48
        · exact .inr (by simpa [e] using hb)
        · exact .inl e)
      unfold padN
      rw [this]
      simp

theorem chunksE_lt : ∀ (s : List UInt8), isDec s = true → ∀ x ∈ chunksE s, x < B9 := by
  intro s
  generalize hn : s.length = n
  induction n using Nat.strongRecOn generalizing s with
  | ind n ih =>
    intro h x hx
    unfold chunksE at hx
    split at hx
    · simp at hx
    · rename_i hs
      have hl : 0 < s.length := List.length_pos_iff.2 hs
      rcases List.mem_cons.1 hx with rfl | hx
      · have h2 : isDec (s.drop (s.length - 9)) = true := by
          simp only [isDec, List.all_eq_true] at h ⊢
          exact fun y hy => h y (List.mem_of_mem_drop hy)
        have := valD_lt _ h2
        have h3 : (s.drop (s.length - 9)).length ≤ 9 := by simp; omega
        exact Nat.lt_of_lt_of_le this (Nat.le_trans (Nat.pow_le_pow_right (by omega) h3) (by decide))
      · refine ih (s.length - 9) (by omega) (s.take (s.length - 9)) (by simp) ?_ x hx
        simp only [isDec, List.all_eq_true] at h ⊢
        exact fun y hy => h y (List.mem_of_mem_take hy)

theorem drop0_ne {l : List Nat} {x : Nat} (h : l ≠ []) (h2 : drop0 l = l) : drop0 (x :: l) = x :: l := by
  unfold drop0
  rw [h2]
  split
  · rename_i e; exact absurd rfl h
  · rfl
theorem natText_cons {x : Nat} {l : List Nat} (h : l ≠ []) : natText (x :: l) = natText l ++ padN 9 x := by
  unfold natText
  rw [List.reverse_cons]
  cases e : l.reverse with
  | nil => exact absurd (List.reverse_eq_nil_iff.1 e) h
  | cons t r => simp

theorem chunks_text : ∀ (s : List UInt8) (b : UInt8), isDec (b :: s) = true → b ≠ 48 → chunksE (b :: s) ≠ [] ∧ drop0 (chunksE (b :: s)) = chunksE (b :: s) ∧ natText (chunksE (b :: s)) = b :: s := by
  intro s
  generalize hn : s.length = n
  induction n using Nat.strongRecOn generalizing s with
  | ind n ih =>
    intro b h hb
    rw [chunksE, dif_neg (by simp)]
    refine ⟨by simp, ?_⟩
    by_cases hl : s.length + 1 ≤ 9
    · rw [show (b :: s).length - 9 = 0 by simp; omega, List.drop_zero, List.take_zero, chunksE, dif_pos rfl]
      have hp := valD_pos s b h hb
      refine ⟨by simp [drop0]; omega, ?_⟩
      simp only [natText, List.reverse_singleton, List.flatMap_nil, List.append_nil]
      exact dec_valD s b h (.inl hb)
    · obtain ⟨m, hm⟩ : ∃ m, (b :: s).length - 9 = m + 1 := ⟨s.length - 9, by simp; omega⟩
      have hm2 : m + 9 = s.length := by simp at hm; omega
      rw [hm, List.take_succ_cons, List.drop_succ_cons]
      simp only [isDec, List.all_cons, Bool.and_eq_true] at h
      have hs : isDec s = true := h.2
      obtain ⟨h1, h2, h3⟩ := ih m (by omega) (s.take m) (by simp; omega) b (by
        simp only [isDec, List.all_cons, Bool.and_eq_true]
        exact ⟨h.1, by simp only [isDec, List.all_eq_true] at hs ⊢; exact fun y hy => hs y (List.mem_of_mem_take hy)⟩) hb
      refine ⟨drop0_ne h1 h2, ?_⟩
      rw [natText_cons h1, h3]
      have hd : isDec (s.drop m) = true := by simp only [isDec, List.all_eq_true] at hs ⊢; exact fun y hy => hs y (List.mem_of_mem_drop hy)
      have hdl : (s.drop m).length = 9 := by simp; omega
      have := (padN_valD (s.drop m) (fun e => by rw [e] at hdl; simp at hdl) hd).2
      rw [hdl] at this
      rw [this, List.cons_append, List.take_append_drop]

theorem natOf_text {s : List UInt8} {l : List Nat} (h : natOf s = some l) : RightD l ∧ natText l = s := by
  unfold natOf at h
  split at h
  · cases h
  · rename_i hc
    simp only [not_or, not_and, Bool.not_eq_false] at hc
    obtain ⟨h1, h2, h3⟩ := hc
    cases h
    refine ⟨normD_ok _, ?_⟩
    cases s with
    | nil => exact absurd rfl h1
    | cons b s =>
      unfold normD
      rw [carry_id (chunksE_lt _ h3)]
      by_cases hb : b = 48
      · subst hb
        have : s = [] := by
          cases s with
          | nil => rfl
          | cons c s => exact absurd rfl (h2 (by simp))
        subst this
        have e : chunksE [48] = [0] := by rw [chunksE, dif_neg (by simp)]; simp [valD, chunksE]
        rw [e]
        simp [drop0, natText, dec]
      · obtain ⟨_, g2, g3⟩ := chunks_text s b h3 hb
        rw [g2, g3]

end Go.Proofs.YtkkblmdgedmdfaaGreatDoor
