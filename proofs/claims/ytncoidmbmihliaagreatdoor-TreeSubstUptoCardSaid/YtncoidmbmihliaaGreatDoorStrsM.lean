/-
 DERIVED: THE SHELF's CONTRACTS AT THIS DUMP, IN PLAIN WORDS (tools/lay-plain.mjs out of 'TryzShelfB.lean', which tools/lay-shelf.mjs wrote): THE SAME DECLARATIONS UNDER THE SAME NAMES: 'import', 'namespace', 'open', 'def', 'theorem' AND NOTHING ELSE: no command of the shelf's: FOR A HAND-IN. Each laying: the table of numbers ('.._ren') and one theorem, a field a fact of the dump's own or the kernel's comparison; each contract: ONE APPLICATION.
-/
import Derived.Shelf.LaysM
import Derived.Shelf.Strconv.Itoa3
import Derived.Shelf.Sort.Plain
import Derived.Ground.Names2Prog
import Derived.Shelf.Slices.CompactS
import Derived.Shelf.SlIter.Nil
import Derived.Shelf.SortM.Plain
import Derived.Shelf.SortM.SortNone
import Derived.Ground.GgzProg
import Derived.Ground.SlgmProg
import Derived.Test.YtncoidmbmihliaaGreatDoorProg
import Derived.Test.YtncoidmbmihliaaGreatDoorTm3M
import Derived.Test.YtncoidmbmihliaaGreatDoorEvOpenM
namespace Go.Proofs
open Go.Shelf
def Tryz.laysM171_ren : Go.Shelf.Ren := ⟨fun | 171 => 144 | 243 => 153 | 246 => 157 | 283 => 159 | 284 => 160 | 285 => 161 | 286 => 162 | 129 => 140 | 317 => 163 | 318 => 164 | 319 => 165 | 320 => 166 | 337 => 167 | 338 => 168 | n => n, fun | 3 => 3 | 9 => 9 | 2 => 2 | 4 => 4 | 171 => 211 | 0 => 0 | 53 => 138 | 37 => 168 | 5 => 5 | 173 => 213 | 212 => 217 | 51 => 111 | 20 => 20 | 213 => 218 | 46 => 164 | 232 => 220 | 233 => 221 | n => n, fun | 17 => 0 | 18 => 1 | 19 => 2 | n => n⟩
theorem Tryz.laysM171 : Go.Proofs.LaysM.n171 Tryz.prog Tryz.laysM171_ren := {
 mixed := by kernel_rfl
 f129 := Tryz.func140.trans (congrArg some (by kernel_rfl))
 f171 := Tryz.func144.trans (congrArg some (by kernel_rfl))
 f243 := Tryz.func153.trans (congrArg some (by kernel_rfl))
 f246 := Tryz.func157.trans (congrArg some (by kernel_rfl))
 f283 := Tryz.func159.trans (congrArg some (by kernel_rfl))
 f284 := Tryz.func160.trans (congrArg some (by kernel_rfl))
 f285 := Tryz.func161.trans (congrArg some (by kernel_rfl))
 f286 := Tryz.func162.trans (congrArg some (by kernel_rfl))
 f317 := Tryz.func163.trans (congrArg some (by kernel_rfl))
 f318 := Tryz.func164.trans (congrArg some (by kernel_rfl))
 f319 := Tryz.func165.trans (congrArg some (by kernel_rfl))
 f320 := Tryz.func166.trans (congrArg some (by kernel_rfl))
 f337 := Tryz.func167.trans (congrArg some (by kernel_rfl))
 f338 := Tryz.func168.trans (congrArg some (by kernel_rfl))
 t0 := Tryz.underlying0
 a0 := Tryz.isAgg0
 z0 := Tryz.sizeOf0
 v0 := Tryz.zeroValue0
 t2 := Tryz.underlying2
 a2 := Tryz.isAgg2
 z2 := Tryz.sizeOf2
 v2 := Tryz.zeroValue2
 t3 := Tryz.underlying3
 a3 := Tryz.isAgg3
 z3 := Tryz.sizeOf3
 v3 := Tryz.zeroValue3
 t4 := Tryz.underlying4
 a4 := Tryz.isAgg4
 z4 := Tryz.sizeOf4
 v4 := Tryz.zeroValue4
 t5 := Tryz.underlying5
 a5 := Tryz.isAgg5
 z5 := Tryz.sizeOf5
 v5 := Tryz.zeroValue5
 t9 := Tryz.underlying9
 a9 := Tryz.isAgg9
 z9 := Tryz.sizeOf9
 v9 := Tryz.zeroValue9
 t20 := Tryz.underlying20
 a20 := Tryz.isAgg20
 z20 := Tryz.sizeOf20
 v20 := Tryz.zeroValue20
 t37 := Tryz.underlying168
 a37 := Tryz.isAgg168
 z37 := Tryz.sizeOf168
 v37 := Tryz.zeroValue168
 t46 := Tryz.underlying164
 a46 := Tryz.isAgg164
 z46 := Tryz.sizeOf164
 v46 := Tryz.zeroValue164
 t51 := Tryz.underlying111
 a51 := Tryz.isAgg111
 z51 := Tryz.sizeOf111
 v51 := Tryz.zeroValue111
 t53 := Tryz.underlying138
 a53 := Tryz.isAgg138
 z53 := Tryz.sizeOf138
 v53 := Tryz.zeroValue138
 t171 := Tryz.underlying211
 a171 := Tryz.isAgg211
 z171 := Tryz.sizeOf211
 v171 := Tryz.zeroValue211
 t173 := Tryz.underlying213
 a173 := Tryz.isAgg213
 z173 := Tryz.sizeOf213
 v173 := Tryz.zeroValue213
 t212 := Tryz.underlying217
 a212 := Tryz.isAgg217
 z212 := Tryz.sizeOf217
 v212 := Tryz.zeroValue217
 t213 := Tryz.underlying218
 a213 := Tryz.isAgg218
 z213 := Tryz.sizeOf218
 t232 := Tryz.underlying220
 a232 := Tryz.isAgg220
 z232 := Tryz.sizeOf220
 v232 := Tryz.zeroValue220
 t233 := Tryz.underlying221
 a233 := Tryz.isAgg221
 z233 := Tryz.sizeOf221
 v233 := Tryz.zeroValue221
 g17 := by kernel_rfl
 g18 := by kernel_rfl
 g19 := by kernel_rfl
 i0 := by kernel_rfl
 i2 := by kernel_rfl
 i3 := by kernel_rfl
 i4 := by kernel_rfl
 i5 := by kernel_rfl
 i9 := by kernel_rfl
 i20 := by kernel_rfl
 i37 := by kernel_rfl
 i46 := by kernel_rfl
 i51 := by kernel_rfl
 i53 := by kernel_rfl
 i171 := by kernel_rfl
 i173 := by kernel_rfl
 i212 := by kernel_rfl
 i232 := by kernel_rfl
 i233 := by kernel_rfl
 m17 := by kernel_rfl
 m18 := by kernel_rfl
 m19 := by kernel_rfl }
open Go.RowKit Go.Sort Go.Lib in
theorem Tryz.strconv_Itoa (n : Int) (h0 : -9223372036854775808 ≤ n) (h1 : n ≤ 9223372036854775807) (w : World) (htab : Lib.TabIs Tryz.prog w "internal/strconv.uint64pow10" .u64 Lib.pow10Tab) :
    Calls Tryz.prog 144 #[.int .i64 n] w fun e w' => e = .returned (.string ⟨(Lib.itoa n).toArray⟩) ∧ ∃ k os, w' = grow (w.drewN k) os := Any.strconv_Itoa Tryz.laysM171 n h0 h1 w htab
def Tryz.lays190_ren : Go.Shelf.Ren := ⟨fun | 190 => 91 | 125 => 122 | 258 => 121 | 128 => 139 | 129 => 140 | 302 => 130 | 303 => 131 | 304 => 132 | 305 => 133 | 306 => 134 | 307 => 135 | 308 => 136 | 309 => 137 | 310 => 138 | 333 => 145 | 329 => 146 | 330 => 147 | 334 => 148 | 335 => 149 | 336 => 150 | 344 => 154 | n => n, fun | 31 => 35 | 9 => 9 | 3 => 3 | 46 => 164 | 0 => 0 | 51 => 111 | 53 => 138 | 4 => 4 | 183 => 177 | 182 => 176 | 131 => 182 | 5 => 5 | 218 => 193 | 222 => 197 | 228 => 204 | 229 => 205 | n => n, fun | n => n⟩
theorem Tryz.lays190 : Go.Proofs.Lays.n190 Tryz.prog Tryz.lays190_ren := {
 mixed := by kernel_rfl
 f125 := Tryz.func122.trans (congrArg some (by kernel_rfl))
 f128 := Tryz.func139.trans (congrArg some (by kernel_rfl))
 f129 := Tryz.func140.trans (congrArg some (by kernel_rfl))
 f190 := Tryz.func91.trans (congrArg some (by kernel_rfl))
 f258 := Tryz.func121.trans (congrArg some (by kernel_rfl))
 f302 := Tryz.func130.trans (congrArg some (by kernel_rfl))
 f303 := Tryz.func131.trans (congrArg some (by kernel_rfl))
 f304 := Tryz.func132.trans (congrArg some (by kernel_rfl))
 f305 := Tryz.func133.trans (congrArg some (by kernel_rfl))
 f306 := Tryz.func134.trans (congrArg some (by kernel_rfl))
 f307 := Tryz.func135.trans (congrArg some (by kernel_rfl))
 f308 := Tryz.func136.trans (congrArg some (by kernel_rfl))
 f309 := Tryz.func137.trans (congrArg some (by kernel_rfl))
 f310 := Tryz.func138.trans (congrArg some (by kernel_rfl))
 f329 := Tryz.func146.trans (congrArg some (by kernel_rfl))
 f330 := Tryz.func147.trans (congrArg some (by kernel_rfl))
 f333 := Tryz.func145.trans (congrArg some (by kernel_rfl))
 f334 := Tryz.func148.trans (congrArg some (by kernel_rfl))
 f335 := Tryz.func149.trans (congrArg some (by kernel_rfl))
 f336 := Tryz.func150.trans (congrArg some (by kernel_rfl))
 f344 := Tryz.func154.trans (congrArg some (by kernel_rfl))
 t0 := Tryz.underlying0
 a0 := Tryz.isAgg0
 z0 := Tryz.sizeOf0
 v0 := Tryz.zeroValue0
 t3 := Tryz.underlying3
 a3 := Tryz.isAgg3
 z3 := Tryz.sizeOf3
 v3 := Tryz.zeroValue3
 t4 := Tryz.underlying4
 a4 := Tryz.isAgg4
 z4 := Tryz.sizeOf4
 v4 := Tryz.zeroValue4
 t5 := Tryz.underlying5
 a5 := Tryz.isAgg5
 z5 := Tryz.sizeOf5
 v5 := Tryz.zeroValue5
 t9 := Tryz.underlying9
 a9 := Tryz.isAgg9
 z9 := Tryz.sizeOf9
 v9 := Tryz.zeroValue9
 t31 := Tryz.underlying35
 a31 := Tryz.isAgg35
 z31 := Tryz.sizeOf35
 v31 := Tryz.zeroValue35
 t46 := Tryz.underlying164
 a46 := Tryz.isAgg164
 z46 := Tryz.sizeOf164
 v46 := Tryz.zeroValue164
 t51 := Tryz.underlying111
 a51 := Tryz.isAgg111
 z51 := Tryz.sizeOf111
 v51 := Tryz.zeroValue111
 t53 := Tryz.underlying138
 a53 := Tryz.isAgg138
 z53 := Tryz.sizeOf138
 v53 := Tryz.zeroValue138
 t131 := Tryz.underlying182
 a131 := Tryz.isAgg182
 z131 := Tryz.sizeOf182
 v131 := Tryz.zeroValue182
 t182 := Tryz.underlying176
 a182 := Tryz.isAgg176
 z182 := Tryz.sizeOf176
 v182 := Tryz.zeroValue176
 t183 := Tryz.underlying177
 a183 := Tryz.isAgg177
 z183 := Tryz.sizeOf177
 v183 := Tryz.zeroValue177
 t218 := Tryz.underlying193
 a218 := Tryz.isAgg193
 z218 := Tryz.sizeOf193
 v218 := Tryz.zeroValue193
 t222 := Tryz.underlying197
 a222 := Tryz.isAgg197
 z222 := Tryz.sizeOf197
 v222 := Tryz.zeroValue197
 t228 := Tryz.underlying204
 a228 := Tryz.isAgg204
 z228 := Tryz.sizeOf204
 v228 := Tryz.zeroValue204
 t229 := Tryz.underlying205
 a229 := Tryz.isAgg205
 z229 := Tryz.sizeOf205
 v229 := Tryz.zeroValue205 }
open Go.Sort Go.RowKit in
theorem Tryz.slices_Sort_string (blk off cap : Nat) (ss : List (List UInt8)) (w : World) (hH : Holds encStr w blk off ss.toArray) (hblk : blk < w.heap.size) (hsz : ss.length < 4611686018427387904) :
    Calls Tryz.prog 91 #[.slice (some ⟨blk, off, none⟩) ss.length cap] w fun e w' =>
     e = .returned (.tuple #[]) ∧ ∃ n os, w' = grow (putRow encStr (Sort.ahead w n) blk off (ss.mergeSort fun x y => decide (x ≤ y)).toArray) os := Any.slices_Sort_string Tryz.lays190 blk off cap ss w hH hblk hsz
def Tryz.lays194_ren : Go.Shelf.Ren := ⟨fun | 194 => 129 | n => n, fun | 31 => 35 | 9 => 9 | 3 => 3 | 4 => 4 | 0 => 0 | n => n, fun | n => n⟩
theorem Tryz.lays194 : Go.Proofs.Lays.n194 Tryz.prog Tryz.lays194_ren := {
 mixed := by kernel_rfl
 f194 := Tryz.func129.trans (congrArg some (by kernel_rfl))
 t0 := Tryz.underlying0
 a0 := Tryz.isAgg0
 z0 := Tryz.sizeOf0
 v0 := Tryz.zeroValue0
 t3 := Tryz.underlying3
 a3 := Tryz.isAgg3
 z3 := Tryz.sizeOf3
 v3 := Tryz.zeroValue3
 t4 := Tryz.underlying4
 a4 := Tryz.isAgg4
 z4 := Tryz.sizeOf4
 v4 := Tryz.zeroValue4
 t9 := Tryz.underlying9
 a9 := Tryz.isAgg9
 z9 := Tryz.sizeOf9
 v9 := Tryz.zeroValue9
 t31 := Tryz.underlying35
 a31 := Tryz.isAgg35
 z31 := Tryz.sizeOf35
 v31 := Tryz.zeroValue35 }
open Go.RowKit Go.Lib Go.Sort in
theorem Tryz.slices_Compact_string (blk off cap : Nat) (zs : List (List UInt8)) (w : World) (hH : Holds encStr w blk off zs.toArray) (hsz : zs.length ≤ 9223372036854775807) (hcap : zs.length ≤ cap) :
    Calls Tryz.prog 129 #[.slice (some ⟨blk, off, none⟩) zs.length cap] w fun e w' => e = .returned (.slice (some ⟨blk, off, none⟩) (Lib.compact zs).length cap) ∧ ∃ q, w' = putRow encStr (Sort.ahead w q) blk off (Lib.compact zs ++ List.replicate (zs.length - (Lib.compact zs).length) []).toArray := Any.slices_Compact_string Tryz.lays194 blk off cap zs w hH hsz hcap
open Go.RowKit Go.Lib Go.Sort in
theorem Tryz.slices_Compact_string_empty (a : Option Addr) (cap : Nat) (w : World) :
    Calls Tryz.prog 129 #[.slice a 0 cap] w fun e w' => e = .returned (.slice a 0 cap) ∧ w' = w := Any.slices_Compact_string_empty Tryz.lays194 a cap w
def Tryz.keys51_ren : Go.Shelf.Ren := ⟨fun | 7 => 51 | 10 => 92 | n => n, fun | 23 => 46 | 26 => 9 | 3 => 4 | 28 => 105 | 0 => 0 | 27 => 104 | 33 => 137 | 4 => 4 | n => n, fun | n => n⟩
theorem Tryz.keys51 : Go.Proofs.SlLaysZ.n7 Tryz.prog Tryz.keys51_ren := {
 mixed := by kernel_rfl
 f7 := ⟨Tryz.f51.name, by decide, Tryz.func51.trans (congrArg some (by kernel_rfl))⟩
 f10 := ⟨Tryz.f92.name, by decide, Tryz.func92.trans (congrArg some (by kernel_rfl))⟩
 t0 := Tryz.underlying0
 a0 := Tryz.isAgg0
 z0 := Tryz.sizeOf0
 v0 := Tryz.zeroValue0
 t4 := Tryz.underlying4
 a4 := Tryz.isAgg4
 z4 := Tryz.sizeOf4
 v4 := Tryz.zeroValue4
 t23 := Tryz.underlying46
 a23 := Tryz.isAgg46
 z23 := Tryz.sizeOf46
 v23 := Tryz.zeroValue46
 t26 := Tryz.underlying9
 a26 := Tryz.isAgg9
 z26 := Tryz.sizeOf9
 v26 := Tryz.zeroValue9
 t27 := Tryz.underlying104
 a27 := Tryz.isAgg104
 z27 := Tryz.sizeOf104
 v27 := Tryz.zeroValue104
 t28 := Tryz.underlying105
 a28 := Tryz.isAgg105
 z28 := Tryz.sizeOf105
 v28 := Tryz.zeroValue105
 t33 := Tryz.underlying137
 a33 := Tryz.isAgg137
 z33 := Tryz.sizeOf137
 v33 := Tryz.zeroValue137 }
def Tryz.sorted50_ren : Go.Shelf.Ren := ⟨fun | 6 => 50 | 8 => 90 | 9 => 91 | 11 => 120 | 13 => 122 | 12 => 121 | 23 => 139 | 24 => 140 | 14 => 130 | 15 => 131 | 16 => 132 | 17 => 133 | 18 => 134 | 19 => 135 | 20 => 136 | 21 => 137 | 22 => 138 | 25 => 145 | 26 => 146 | 27 => 147 | 28 => 148 | 29 => 149 | 30 => 150 | 31 => 154 | n => n, fun | 26 => 9 | 28 => 105 | 24 => 35 | 0 => 0 | 3 => 3 | 37 => 164 | 48 => 111 | 50 => 138 | 4 => 4 | 40 => 177 | 39 => 176 | 45 => 182 | 5 => 5 | 9 => 9 | 51 => 193 | 55 => 197 | 57 => 204 | 58 => 205 | 33 => 137 | n => n, fun | n => n⟩
theorem Tryz.sorted50 : Go.Proofs.SlLaysZ.n6 Tryz.prog Tryz.sorted50_ren := {
 mixed := by kernel_rfl
 f6 := ⟨Tryz.f50.name, by decide, Tryz.func50.trans (congrArg some (by kernel_rfl))⟩
 f8 := ⟨Tryz.f90.name, by decide, Tryz.func90.trans (congrArg some (by kernel_rfl))⟩
 f11 := ⟨Tryz.f120.name, by decide, Tryz.func120.trans (congrArg some (by kernel_rfl))⟩
 t0 := Tryz.underlying0
 a0 := Tryz.isAgg0
 z0 := Tryz.sizeOf0
 v0 := Tryz.zeroValue0
 t24 := Tryz.underlying35
 a24 := Tryz.isAgg35
 z24 := Tryz.sizeOf35
 v24 := Tryz.zeroValue35
 t26 := Tryz.underlying9
 a26 := Tryz.isAgg9
 z26 := Tryz.sizeOf9
 v26 := Tryz.zeroValue9
 t28 := Tryz.underlying105
 a28 := Tryz.isAgg105
 z28 := Tryz.sizeOf105
 v28 := Tryz.zeroValue105
 i26 := by kernel_rfl }
def Tryz.sort91_ren : Go.Shelf.Ren := ⟨fun | 6 => 91 | 8 => 122 | 9 => 121 | 19 => 139 | 20 => 140 | 21 => 130 | 22 => 131 | 23 => 132 | 24 => 133 | 25 => 134 | 26 => 135 | 27 => 136 | 28 => 137 | 29 => 138 | 36 => 145 | 31 => 146 | 32 => 147 | 37 => 148 | 38 => 149 | 39 => 150 | 41 => 154 | n => n, fun | 27 => 35 | 29 => 9 | 3 => 3 | 32 => 164 | 26 => 35 | 0 => 0 | 44 => 111 | 46 => 138 | 4 => 4 | 36 => 177 | 35 => 176 | 41 => 182 | 5 => 5 | 9 => 9 | 53 => 193 | 57 => 197 | 63 => 204 | 64 => 205 | n => n, fun | n => n⟩
theorem Tryz.sort91 : Go.Proofs.SlLaysM.n6 Tryz.prog Tryz.sort91_ren := {
 mixed := by kernel_rfl
 f6 := ⟨Tryz.f91.name, by decide, Tryz.func91.trans (congrArg some (by kernel_rfl))⟩
 f8 := Tryz.func122.trans (congrArg some (by kernel_rfl))
 f9 := ⟨Tryz.f121.name, by decide, Tryz.func121.trans (congrArg some (by kernel_rfl))⟩
 f19 := Tryz.func139.trans (congrArg some (by kernel_rfl))
 f20 := Tryz.func140.trans (congrArg some (by kernel_rfl))
 f21 := ⟨Tryz.f130.name, by decide, Tryz.func130.trans (congrArg some (by kernel_rfl))⟩
 f22 := ⟨Tryz.f131.name, by decide, Tryz.func131.trans (congrArg some (by kernel_rfl))⟩
 f23 := ⟨Tryz.f132.name, by decide, Tryz.func132.trans (congrArg some (by kernel_rfl))⟩
 f24 := ⟨Tryz.f133.name, by decide, Tryz.func133.trans (congrArg some (by kernel_rfl))⟩
 f25 := ⟨Tryz.f134.name, by decide, Tryz.func134.trans (congrArg some (by kernel_rfl))⟩
 f26 := ⟨Tryz.f135.name, by decide, Tryz.func135.trans (congrArg some (by kernel_rfl))⟩
 f27 := ⟨Tryz.f136.name, by decide, Tryz.func136.trans (congrArg some (by kernel_rfl))⟩
 f28 := ⟨Tryz.f137.name, by decide, Tryz.func137.trans (congrArg some (by kernel_rfl))⟩
 f29 := ⟨Tryz.f138.name, by decide, Tryz.func138.trans (congrArg some (by kernel_rfl))⟩
 f31 := Tryz.func146.trans (congrArg some (by kernel_rfl))
 f32 := Tryz.func147.trans (congrArg some (by kernel_rfl))
 f36 := ⟨Tryz.f145.name, by decide, Tryz.func145.trans (congrArg some (by kernel_rfl))⟩
 f37 := ⟨Tryz.f148.name, by decide, Tryz.func148.trans (congrArg some (by kernel_rfl))⟩
 f38 := ⟨Tryz.f149.name, by decide, Tryz.func149.trans (congrArg some (by kernel_rfl))⟩
 f39 := ⟨Tryz.f150.name, by decide, Tryz.func150.trans (congrArg some (by kernel_rfl))⟩
 f41 := ⟨Tryz.f154.name, by decide, Tryz.func154.trans (congrArg some (by kernel_rfl))⟩
 t0 := Tryz.underlying0
 a0 := Tryz.isAgg0
 z0 := Tryz.sizeOf0
 v0 := Tryz.zeroValue0
 t3 := Tryz.underlying3
 a3 := Tryz.isAgg3
 z3 := Tryz.sizeOf3
 v3 := Tryz.zeroValue3
 t4 := Tryz.underlying4
 a4 := Tryz.isAgg4
 z4 := Tryz.sizeOf4
 v4 := Tryz.zeroValue4
 t5 := Tryz.underlying5
 a5 := Tryz.isAgg5
 z5 := Tryz.sizeOf5
 v5 := Tryz.zeroValue5
 t9 := Tryz.underlying9
 a9 := Tryz.isAgg9
 z9 := Tryz.sizeOf9
 v9 := Tryz.zeroValue9
 t26 := Tryz.underlying35
 a26 := Tryz.isAgg35
 z26 := Tryz.sizeOf35
 v26 := Tryz.zeroValue35
 t27 := Tryz.underlying35
 a27 := Tryz.isAgg35
 z27 := Tryz.sizeOf35
 v27 := Tryz.zeroValue35
 t29 := Tryz.underlying9
 a29 := Tryz.isAgg9
 z29 := Tryz.sizeOf9
 v29 := Tryz.zeroValue9
 t32 := Tryz.underlying164
 a32 := Tryz.isAgg164
 z32 := Tryz.sizeOf164
 v32 := Tryz.zeroValue164
 t35 := Tryz.underlying176
 a35 := Tryz.isAgg176
 z35 := Tryz.sizeOf176
 v35 := Tryz.zeroValue176
 t36 := Tryz.underlying177
 a36 := Tryz.isAgg177
 z36 := Tryz.sizeOf177
 v36 := Tryz.zeroValue177
 t41 := Tryz.underlying182
 a41 := Tryz.isAgg182
 z41 := Tryz.sizeOf182
 v41 := Tryz.zeroValue182
 t44 := Tryz.underlying111
 a44 := Tryz.isAgg111
 z44 := Tryz.sizeOf111
 v44 := Tryz.zeroValue111
 t46 := Tryz.underlying138
 a46 := Tryz.isAgg138
 z46 := Tryz.sizeOf138
 v46 := Tryz.zeroValue138
 t53 := Tryz.underlying193
 a53 := Tryz.isAgg193
 z53 := Tryz.sizeOf193
 v53 := Tryz.zeroValue193
 t57 := Tryz.underlying197
 a57 := Tryz.isAgg197
 z57 := Tryz.sizeOf197
 v57 := Tryz.zeroValue197
 t63 := Tryz.underlying204
 a63 := Tryz.isAgg204
 z63 := Tryz.sizeOf204
 v63 := Tryz.zeroValue204
 t64 := Tryz.underlying205
 a64 := Tryz.isAgg205
 z64 := Tryz.sizeOf205
 v64 := Tryz.zeroValue205 }
end Go.Proofs
namespace Go.Proofs.YtncoidmbmihliaaGreatDoor
set_option linter.unusedSimpArgs false
set_option linter.unusedVariables false
open Go.RowKit Go.Sort
section
variable {P : Program} {ι : List Nat} {Z : Nat → Nat → Prop} {w : World}
theorem Evo.ofBelow {σ : Sto} (h : Match σ ι Z w) {w' : World} (hb : Below w.heap.size w w') : Evo ι Z w ι Z w' where
 pre := fun _ _ h => h
 img := fun id _ h _ => ⟨id, h⟩
 zmono := fun _ _ h => h
 zsame := fun b j e => World.cell?_of_block (hb.block b (h.zlt b j e))
 csz := fun b hl => by unfold cellsz; rw [hb.block b hl]
 size := hb.size
 keep := fun b hl _ => hb.block b hl
 os := hb.os
 tape := hb.tape
 output := hb.output
 znew := fun _ _ h _ => .inl h
theorem Match.below {σ : Sto} (h : Match σ ι Z w) {w' : World} (hb : Below w.heap.size w w') : Match σ ι Z w' := by
 refine h.go (Evo.ofBelow h hb) h.len (fun id o b ho hb' hl => .inr ⟨ho, hb.block b ((h.obj id o b ho hb').lt hl), fun _ hj => hj⟩) h.inj fun b j hj => Nat.lt_of_lt_of_le (h.zlt b j hj) hb.size
end
theorem tab_pow10 {σ : Sto} {ι : List Nat} {Z : Nat → Nat → Prop} {w : World} (hM : Match σ ι Z w) : Lib.TabIs Tryz.prog w "internal/strconv.uint64pow10" .u64 Lib.pow10Tab := by
 obtain ⟨h1, h2, h3⟩ := hM.glob 0 _ rfl
 have hg : Tryz.prog.globalNamed "internal/strconv.uint64pow10" = some 0 := by kernel_rfl
 unfold Lib.TabIs World.var?
 rw [hg, Option.bind_some]
 generalize hl : ([.int .u64 1, .int .u64 10, .int .u64 100, .int .u64 1000, .int .u64 10000, .int .u64 100000, .int .u64 1000000, .int .u64 10000000, .int .u64 100000000, .int .u64 1000000000, .int .u64 10000000000, .int .u64 100000000000, .int .u64 1000000000000, .int .u64 10000000000000, .int .u64 100000000000000, .int .u64 1000000000000000, .int .u64 10000000000000000, .int .u64 100000000000000000, .int .u64 1000000000000000000, .int .u64 10000000000000000000] : List Value) = l at h1 h3
 have hl2 : (Lib.pow10Tab.map fun z => Value.int .u64 z) = l := by rw [← hl]; kernel_rfl
 rw [hl2]
 have hll : l.length = 20 := by rw [← hl]; rfl
 unfold cellsz at h3
 split at h3
 · rename_i c T fz hc
   rw [hc]
   simp only [Option.some.injEq]
   apply Array.ext
   · simpa using h3
   · intro i hi1 hi2
     have hi : i < l.length := by simpa using hi2
     generalize hp : (Value.pointer (some ⟨0, 0, none⟩)) = p at h1
     generalize hr : l.map AV.lit = row at h1
     generalize ho : (0 : Nat) = off at h1
     cases h1 with
     | eptr _ _ b o U g1 g2 =>
      have hb : b = 0 ∧ o = 0 := by
       injection hp with hp
       injection hp with hp
       injection hp with hp1 hp2
       omega
      obtain ⟨rfl, rfl⟩ := hb
      have hrow : row[i]? = some (.lit l[i]) := by rw [← hr, List.getElem?_map, List.getElem?_eq_getElem hi]; rfl
      have a1 := (g1 i _ hrow).2.2
      have a2 := g2 i _ hrow
      generalize hU : U i = x at a1 a2
      cases a2
      simp only [World.cell?, hc, Nat.zero_add] at a1
      have : c[i]? = some l[i] := by simpa using a1
      rw [Array.getElem?_eq_getElem hi1] at this
      injection this with this
 · omega
def primItoa (args : List AV) (σ : Sto) : Option (ARes × Sto) :=
 match args with
 | [.lit (.int .i64 x)] => if -9223372036854775808 ≤ x ∧ x ≤ 9223372036854775807 then some (.ret (.lit (.string ⟨(Lib.itoa x).toArray⟩)), σ) else none
 | _ => none
theorem primItoa_sound : CallSound Tryz.prog fun f args σ => if f = 144 then primItoa args σ else none := by
 intro f args σ r σ' hr ι Z w us hM hl hargs
 dsimp only at hr
 split at hr
 · rename_i e
   subst e
   unfold primItoa at hr
   split at hr
   · rename_i x
     split at hr
     · rename_i hc
       cases hr
       obtain ⟨h0, h1⟩ := hc
       obtain ⟨u, rfl⟩ := one_arg hl
       have hu := hargs 0 _ u rfl rfl
       cases hu
       refine ⟨Tryz.call144 _ _, (Tryz.strconv_Itoa x h0 h1 w (tab_pow10 hM)).mono ?_⟩
       rintro e w' ⟨rfl, k, os, rfl⟩
       have hb : Below w.heap.size w (grow (w.drewN k) os) := ⟨rfl, rfl, rfl, by show w.heap.size ≤ (w.heap ++ os).size; rw [Array.size_append]; omega, fun j hj => by show (w.heap ++ os)[j]? = w.heap[j]?; rw [Array.getElem?_append_left hj]⟩
       exact ⟨ι, Z, .ofBelow hM hb, hM.below hb, _, rfl, .lit _ rfl⟩
     · cases hr
   · cases hr
 · cases hr
theorem prim_no {S : Sp} {N : Nat} {f : FuncId} (h : S.sp f = none) (hb : S.base f = none) : (S.E N).prim f = none := by
 show (match S.sp f with | some s => some (relPrim (s.S N)) | none => S.base f) = _
 rw [h]; exact hb
theorem prim_base {S : Sp} {N : Nat} {f : FuncId} {g : List AV → Sto → Option (ARes × Sto)} (h : S.sp f = none) (hb : S.base f = some g) : (S.E N).prim f = some g := by
 show (match S.sp f with | some s => some (relPrim (s.S N)) | none => S.base f) = _
 rw [h]; exact hb
structure ExtX (X : Nat → Prop) (σ σ' : Sto) : Prop where
 len : σ.length ≤ σ'.length
 keep : ∀ p, X p → σ'[p]? = σ[p]?
theorem ExtX.refl {X : Nat → Prop} (σ : Sto) : ExtX X σ σ := ⟨Nat.le_refl _, fun _ _ => rfl⟩
theorem ExtX.trans {X : Nat → Prop} {a b c : Sto} (h : ExtX X a b) (k : ExtX X b c) : ExtX X a c := ⟨Nat.le_trans h.len k.len, fun p hp => (k.keep p hp).trans (h.keep p hp)⟩
theorem ExtX.set {X : Nat → Prop} {σ σ' : Sto} (h : ExtX X σ σ') {g : Nat} {o : AObj} (hg : ¬ X g) : ExtX X σ (σ'.set g o) := ⟨by simpa using h.len, fun p hp => by rw [List.getElem?_set_ne (fun e => hg (by rw [e]; exact hp))]; exact h.keep p hp⟩
theorem ExtX.push {X : Nat → Prop} {σ σ' : Sto} (h : ExtX X σ σ') (hX : ∀ p, X p → p < σ'.length) (l : Sto) : ExtX X σ (σ' ++ l) := ⟨by have := h.len; simp; omega, fun p hp => by rw [List.getElem?_append_left (hX p hp)]; exact h.keep p hp⟩
def lb (l : List UInt8) : List AV := l.map fun b => .lit (.int .u8 b.toNat)
theorem lb_append (a b : List UInt8) : lb (a ++ b) = lb a ++ lb b := by simp [lb]
theorem lb_length (l : List UInt8) : (lb l).length = l.length := by simp [lb]
theorem byteAV_lb (s : ByteArray) : byteAV s = lb s.data.toList := rfl
theorem bytesAV_lb : ∀ l : List UInt8, bytesAV (lb l) = some l
 | [] => rfl
 | b :: l => by
  have hb : (0 : Int) ≤ (b.toNat : Int) ∧ (b.toNat : Int) < 256 := ⟨by omega, by have := b.toNat_lt; omega⟩
  show (if 0 ≤ (b.toNat : Int) ∧ (b.toNat : Int) < 256 then (bytesAV (lb l)).map (UInt8.ofNat (b.toNat : Int).toNat :: ·) else none) = _
  rw [if_pos hb, bytesAV_lb l]
  simp
def BufX (X : Nat → Prop) (σ : Sto) (id : Nat) (v : AV) (l : List UInt8) : Prop := (l = [] ∧ v = .sl [] .full) ∨ ∃ g, v = .asl g 0 l.length 1 ∧ g ≠ id ∧ ¬ X g ∧ (σ[g]? = some (.cells (lb l) 5) ∨ σ[g]? = some (.buf (lb l) 5))
def BldX (X : Nat → Prop) (σ : Sto) (id : Nat) (T : TypeId) (l : List UInt8) : Prop := bldT T = true ∧ ∃ v, σ[id]? = some (.cells [.ptr id 0, v] T) ∧ BufX X σ id v l
theorem app_str (X : Nat → Prop) (σ : Sto) (id : Nat) (T : TypeId) (v : AV) (l : List UInt8) (s : ByteArray) (cs : List AV) (hid : σ[id]? = some (.cells cs T)) (hX : ∀ p, X p → p < σ.length) (hb : BufX X σ id v l) (hlen : l.length + s.size ≤ 140737488355328) :
    ∃ (v' : AV) (σ' : Sto) (acc : Acc), ExtX X σ σ' ∧ BufX X σ' id v' (l ++ s.data.toList) ∧ σ'[id]? = some (.cells cs T) ∧ v'.one = true ∧
     ∀ (tm : List AV) (ds : Option Tmp) (ty : TypeId) (po : String) (af : Array Edge) (gu : Option (Nat × Bool)) (x y : Operand), evx tm x = some v → evx tm y = some (.lit (.string s)) →
      evStep Tryz.prog [168] (evx tm) σ ⟨ds, .call ⟨.builtin .append, #[x, y], #[168, 9]⟩, ty, po, af, gu⟩ = some (.val v' σ' acc) := by
 have hss : s.data.toList.length = s.size := by rw [Array.length_toList]; rfl
 have hz : ((Tryz.prog.info? 5).bind fun x => x.zero) = some (.int .u8 0) := zeroOf_5
 have step : ∀ (tm : List AV) (ds : Option Tmp) (ty : TypeId) (po : String) (af : Array Edge) (gu : Option (Nat × Bool)) (x y : Operand), evStep Tryz.prog [168] (evx tm) σ ⟨ds, .call ⟨.builtin .append, #[x, y], #[168, 9]⟩, ty, po, af, gu⟩ = evAppendS Tryz.prog (evx tm) σ 168 9 x y := by
  intro tm ds ty po af gu x y
  unfold evStep
  rw [if_pos (by simp [mutOp])]
  simp [evMut]
 rcases hb with ⟨rfl, rfl⟩ | ⟨g, rfl, hg1, hg2, hg3⟩
 · by_cases hs0 : s.size = 0
   · have hnil : s.data.toList = [] := List.eq_nil_of_length_eq_zero (by omega)
     refine ⟨.sl [] .full, σ, .pure, .refl σ, .inl ⟨by rw [hnil]; rfl, rfl⟩, hid, rfl, fun tm ds ty po af gu x y hx hy => ?_⟩
     rw [step]
     unfold evAppendS
     simp only [Tryz.underlying168, Tryz.underlying9, hx, hy, szOf_5, bytesOf_5, hz]
     simp [hs0]
   · have hs1 : s.size ≤ 140737488355328 := by omega
     refine ⟨.asl σ.length 0 s.size 1, σ ++ [.cells (byteAV s) 5], .grows none σ.length, (ExtX.refl σ).push hX _, .inr ⟨σ.length, by simp [hss], fun e => ?_, (fun h => Nat.lt_irrefl _ (hX _ h)), .inl ?_⟩, ?_, rfl, fun tm ds ty po af gu x y hx hy => ?_⟩
     · have := (List.getElem?_eq_some_iff.1 hid).1; omega
     · rw [List.getElem?_append_right (Nat.le_refl _)]; simp [byteAV_lb]
     · rw [List.getElem?_append_left (List.getElem?_eq_some_iff.1 hid).1]; exact hid
     · rw [step]
       unfold evAppendS
       simp only [Tryz.underlying168, Tryz.underlying9, hx, hy, szOf_5, bytesOf_5, hz]
       simp [hs0, hs1]
 · have hs1 : s.size ≤ 140737488355328 := by omega
   by_cases hs0 : s.size = 0
   · have hnil : s.data.toList = [] := List.eq_nil_of_length_eq_zero (by omega)
     refine ⟨.asl g 0 l.length 1, σ, .pure, .refl σ, .inr ⟨g, by rw [hnil, List.append_nil], hg1, hg2, by rw [hnil, List.append_nil]; exact hg3⟩, hid, rfl, fun tm ds ty po af gu x y hx hy => ?_⟩
     rw [step]
     unfold evAppendS
     simp only [Tryz.underlying168, Tryz.underlying9, hx, hy, szOf_5, bytesOf_5, hz]
     simp [hs0]
   · have hle : l.length + s.size = (l ++ s.data.toList).length := by rw [List.length_append, hss]
     rcases hg3 with hg3 | hg3
     · have lg := (List.getElem?_eq_some_iff.1 hg3).1
       refine ⟨.asl σ.length 0 (l.length + s.size) 1, σ.set g .dead ++ [.cells (lb l ++ byteAV s) 5], .grows (some g) σ.length, (((ExtX.refl σ).set hg2).push (fun p h => by simpa using hX p h) _), .inr ⟨σ.length, by rw [hle], fun e => ?_, (fun h => Nat.lt_irrefl _ (hX _ h)), .inl ?_⟩, ?_, rfl, fun tm ds ty po af gu x y hx hy => ?_⟩
       · have := (List.getElem?_eq_some_iff.1 hid).1; omega
       · rw [List.getElem?_append_right (by simp)]; simp [byteAV_lb, lb_append]
       · rw [List.getElem?_append_left (by simp; exact (List.getElem?_eq_some_iff.1 hid).1), List.getElem?_set_ne hg1]; exact hid
       · rw [step]
         unfold evAppendS
         simp only [Tryz.underlying168, Tryz.underlying9, hx, hy, szOf_5, bytesOf_5, hz]
         simp [hs0, hs1, hlen, hg3, lb_length]
         rw [List.take_of_length_le (by rw [lb_length]; exact Nat.le_refl _)]
     · have lg := (List.getElem?_eq_some_iff.1 hg3).1
       refine ⟨.asl σ.length 0 (l.length + s.size) 1, σ.set g .dead ++ [.buf (lb l ++ byteAV s) 5], .grows (some g) σ.length, (((ExtX.refl σ).set hg2).push (fun p h => by simpa using hX p h) _), .inr ⟨σ.length, by rw [hle], fun e => ?_, (fun h => Nat.lt_irrefl _ (hX _ h)), .inr ?_⟩, ?_, rfl, fun tm ds ty po af gu x y hx hy => ?_⟩
       · have := (List.getElem?_eq_some_iff.1 hid).1; omega
       · rw [List.getElem?_append_right (by simp)]; simp [byteAV_lb, lb_append]
       · rw [List.getElem?_append_left (by simp; exact (List.getElem?_eq_some_iff.1 hid).1), List.getElem?_set_ne hg1]; exact hid
       · rw [step]
         unfold evAppendS
         simp only [Tryz.underlying168, Tryz.underlying9, hx, hy, szOf_5, bytesOf_5, hz]
         simp [hs0, hs1, hlen, hg3, lb_length]
structure BldH (S : Sp) : Prop where
 code : S.code = codeP Tryz.prog
 ck : S.sp 156 = none
 ckb : S.base 156 = some primCheck
 st : S.sp 127 = none
 stb : S.base 127 = some primString
 ws : S.sp 152 = none
 wsb : S.base 152 = none
 wsm : S.ms 152 = [168]
variable {S : Sp} {N : Nat}
theorem check_ev (H : BldH S) {X : Nat → Prop} {σ : Sto} {id : Nat} {T : TypeId} {l : List UInt8} (h : BldX X σ id T l) : CallW Tryz.prog (S.E N) 156 [.ptr id 0] σ fun r σ' => r = .ret (.tup []) ∧ σ' = σ := by
 obtain ⟨hT, v, hσ, hb⟩ := h
 refine CallW.prim (g := primCheck) (prim_base H.ck H.ckb) (σ' := σ) (r := .ret (.tup [])) ?_ ⟨rfl, rfl⟩
 simp [primCheck, hσ, hT]
theorem string_ev (H : BldH S) {X : Nat → Prop} {σ : Sto} {id : Nat} {T : TypeId} {l : List UInt8} (h : BldX X σ id T l) (hl : l ≠ []) (hmax : l.length ≤ 140737488355328) :
    CallW Tryz.prog (S.E N) 127 [.ptr id 0] σ fun r σ' => r = .ret (.lit (.string ⟨l.toArray⟩)) ∧ BldX X σ' id T l ∧ ExtX X σ σ' := by
 obtain ⟨hT, v, hσ, hb⟩ := h
 rcases hb with ⟨rfl, _⟩ | ⟨g, rfl, hg1, hg2, hg3⟩
 · exact absurd rfl hl
 have hlen : 0 < l.length := List.length_pos_iff.2 hl
 have hll := lb_length l
 have htk : (lb l).take l.length = lb l := List.take_of_length_le (by rw [hll]; exact Nat.le_refl _)
 have lg : g < σ.length := by rcases hg3 with h | h <;> exact (List.getElem?_eq_some_iff.1 h).1
 refine CallW.prim (g := primString) (prim_base H.st H.stb) (σ' := σ.set g (.buf (lb l) 5)) (r := .ret (.lit (.string ⟨l.toArray⟩))) ?_ ⟨rfl, ⟨hT, _, by rw [List.getElem?_set_ne hg1]; exact hσ, .inr ⟨g, rfl, hg1, hg2, .inr (List.getElem?_set_self lg)⟩⟩, (ExtX.refl σ).set hg2⟩
 rcases hg3 with hg3 | hg3
 · simp [primString, hσ, hT, hlen, hmax, hg3, hll, htk, bytesAV_lb]
 · simp [primString, hσ, hT, hlen, hmax, hg3, hll, htk, bytesAV_lb]
set_option maxRecDepth 100000 in
set_option maxHeartbeats 1000000 in
theorem writeString_core (H : BldH S) {X : Nat → Prop} {σ00 σ : Sto} {id : Nat} {T : TypeId} {l : List UInt8} (hchk : CallW Tryz.prog (S.E N) 156 [.ptr id 0] σ00 fun r σ' => r = .ret (.tup []) ∧ σ' = σ) (h : BldX X σ id T l) (hX : ∀ p, X p → p < σ.length ∧ p ≠ id) (s : ByteArray) (hlen2 : l.length + s.size ≤ 140737488355328) :
    CallW Tryz.prog (S.E N) 152 [.ptr id 0, .lit (.string s)] σ00 fun r σ' => (∃ v, r = .ret v) ∧ BldX X σ' id T (l ++ s.data.toList) ∧ ExtX X σ σ' := by
 obtain ⟨hT, v, hσ, hb⟩ := h
 have hil := (List.getElem?_eq_some_iff.1 hσ).1
 obtain ⟨v', σ', acc, e1, b1, hid', hone, hap⟩ := app_str X σ id T v l s _ hσ (fun p h => (hX p h).1) hb hlen2
 have hil' := (List.getElem?_eq_some_iff.1 hid').1
 refine CallW.start (fn := Tryz.f152) (M := [168]) (prim_no H.ws H.wsb) (codeOf H.code Tryz.func152 rfl (by kernel_rfl)) rfl H.wsm (zL rfl) fun tm hlen hs => ?_
 have g0 := hs 0 _ rfl
 have g1 := hs 1 _ rfl
 clear hs
 replace hlen : tm.length = 19 := hlen
 refine CW.hide fun R0 hR0 => ?_
 refine CW.seqK fun K hK => CW.region ?_
 simp [symB, List.length_set, andThen, hlen, g0, g1]
 refine hK _ _ ?_; clear hK K
 refine CW.seqK fun K hK => CW.region ?_
 simp (maxDischargeDepth := 8) [symB, List.length_set, andThen, hlen, g0, g1]
 refine hchk.mono ?_
 rintro r σ2 ⟨rfl, rfl⟩
 simp (maxDischargeDepth := 8) [symB, List.length_set, retK, andThen, hlen]
 refine hK _ _ ?_; clear hK K
 refine CW.seqK fun K hK => CW.region ?_
 have hc1 : AV.cells v' = [v'] := by cases v' <;> first | rfl | simp [AV.one] at hone
 have ht1 : AV.notTup v' = true := by cases v' <;> first | rfl | simp [AV.one] at hone
 have hst : ∀ (tm : List AV) (ty : TypeId) (po : String) (af : Array Edge) (gu : Option (Nat × Bool)) (x y : Operand), evx tm x = some (.ptr id 1) → evx tm y = some v' → evStep Tryz.prog [168] (evx tm) σ' ⟨none, .store 168 x y, ty, po, af, gu⟩ = some (.skip (σ'.set id (.cells [.ptr id 0, v'] T)) (.writes id)) := by
  intro tm ty po af gu x y hx hy
  rw [es_store]
  unfold evStepU
  have hl : evLit Tryz.prog (evx tm) σ' ⟨none, .store 168 x y, ty, po, af, gu⟩ = none := by
   unfold evLit
   simp [Op.operands, hx, conc, conc2]
  rw [hl]
  simp [evPure, evMem, hx, hy, hid', hc1, ht1, putCells]
 simp (maxDischargeDepth := 8) [symB, List.length_set, andThen, hlen, g0, g1, hσ, hap, hst]
 refine hK _ _ ?_; clear hK K
 refine CW.seqK fun K hK => CW.region ?_
 simp (maxDischargeDepth := 8) [symB, List.length_set, andThen, hlen, g1]
 refine hK _ _ ?_; clear hK K
 refine CW.ret (hR0 _ _ _ ?_)
 refine ⟨_, by simp [zA, omap, zB, slot_eq, slot_ne, hlen]; rfl, ⟨_, rfl⟩, ⟨hT, v', List.getElem?_set_self hil', ?_⟩, e1.set (fun h => (hX _ h).2 rfl)⟩
 rcases b1 with b1 | ⟨g, q1, q2, q3, q4⟩
 · exact .inl b1
 · refine .inr ⟨g, q1, q2, q3, ?_⟩
   rw [List.getElem?_set_ne (Ne.symm q2)]
   exact q4
def BldF (X : Nat → Prop) (σ : Sto) (id : Nat) (T : TypeId) (l : List UInt8) : Prop := (bldT T = true ∧ l = [] ∧ σ[id]? = some (.cells [.lit (.pointer none), .sl [] .full] T)) ∨ BldX X σ id T l
theorem write_ev (H : BldH S) {X : Nat → Prop} {σ : Sto} {id : Nat} {T : TypeId} {l : List UInt8} (h : BldF X σ id T l) (hX : ∀ p, X p → p < σ.length ∧ p ≠ id) (s : ByteArray) (hlen2 : l.length + s.size ≤ 140737488355328) :
    CallW Tryz.prog (S.E N) 152 [.ptr id 0, .lit (.string s)] σ fun r σ' => (∃ v, r = .ret v) ∧ BldX X σ' id T (l ++ s.data.toList) ∧ ExtX X σ σ' := by
 rcases h with ⟨hT, rfl, hσ⟩ | h
 · have hil := (List.getElem?_eq_some_iff.1 hσ).1
   refine (writeString_core H (σ := σ.set id (.cells [.ptr id 0, .sl [] .full] T)) (l := []) (CallW.prim (g := primCheck) (prim_base H.ck H.ckb) (σ' := σ.set id (.cells [.ptr id 0, .sl [] .full] T)) (r := .ret (.tup [])) (by simp [primCheck, hσ, hT]) ⟨rfl, rfl⟩) ⟨hT, _, List.getElem?_set_self hil, .inl ⟨rfl, rfl⟩⟩ (fun p h => by simpa using hX p h) s (by simpa using hlen2)).mono ?_
   rintro r σ' ⟨h1, h2, h3⟩
   exact ⟨h1, by simpa using h2, ((ExtX.refl σ).set (fun h => (hX _ h).2 rfl)).trans h3⟩
 · exact writeString_core H (check_ev H h) h hX s hlen2
end Go.Proofs.YtncoidmbmihliaaGreatDoor
