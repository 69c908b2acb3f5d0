/-
 DERIVED: THE SHELF's CONTRACTS AT THIS DUMP, IN PLAIN WORDS (tools/lay-plain.mjs out of 'TryzShelfC.lean', which tools/lay-shelf.mjs wrote): THE SAME DECLARATIONS UNDER THE SAME NAMES: 'import', 'namespace', 'open', 'def', 'theorem' AND NOTHING ELSE: no command of the shelf's: FOR A HAND-IN. Each laying: the table of numbers ('.._ren') and one theorem, a field a fact of the dump's own or the kernel's comparison; each contract: ONE APPLICATION.
-/
import Derived.Shelf.LaysM
import Derived.Shelf.Strconv.Itoa3
import Derived.Shelf.Sort.Plain
import Derived.Shelf.Slices.CompactS
import Derived.Shelf.Slices.Cells
import Derived.Shelf.Slices.In.SortNone
import Derived.Shelf.Strings.LastIndex
import Derived.Shelf.Strings.SlTrimAscii
import Derived.Shelf.SlIter.Nil
import Derived.Shelf.SortM.Plain
import Derived.Shelf.SortM.SortNone
import Derived.Ground.GgzProg
import Derived.Ground.SlgmProg
import Derived.Test.YteajcnilihgheaaGreatDoorProg
import Derived.Test.YteajcnilihgheaaGreatDoorEvRange3M
import Derived.Test.YteajcnilihgheaaGreatDoorKOfM
namespace Go.Proofs
open Go.Shelf
def Tryz.laysM171_ren : Go.Shelf.Ren := ⟨fun | 171 => 93 | 243 => 125 | 246 => 147 | 283 => 168 | 284 => 169 | 285 => 170 | 286 => 171 | 129 => 160 | 317 => 181 | 318 => 182 | 319 => 183 | 320 => 184 | 337 => 190 | 338 => 191 | n => n, fun | 3 => 3 | 9 => 9 | 2 => 2 | 4 => 4 | 171 => 250 | 0 => 0 | 53 => 113 | 37 => 74 | 5 => 5 | 173 => 252 | 212 => 263 | 51 => 110 | 20 => 20 | 213 => 264 | 46 => 69 | 232 => 275 | 233 => 276 | n => n, fun | 17 => 1 | 18 => 4 | 19 => 5 | n => n⟩
theorem Tryz.laysM171 : Go.Proofs.LaysM.n171 Tryz.prog Tryz.laysM171_ren := {
 mixed := by kernel_rfl
 f129 := Tryz.func160.trans (congrArg some (by kernel_rfl))
 f171 := Tryz.func93.trans (congrArg some (by kernel_rfl))
 f243 := Tryz.func125.trans (congrArg some (by kernel_rfl))
 f246 := Tryz.func147.trans (congrArg some (by kernel_rfl))
 f283 := Tryz.func168.trans (congrArg some (by kernel_rfl))
 f284 := Tryz.func169.trans (congrArg some (by kernel_rfl))
 f285 := Tryz.func170.trans (congrArg some (by kernel_rfl))
 f286 := Tryz.func171.trans (congrArg some (by kernel_rfl))
 f317 := Tryz.func181.trans (congrArg some (by kernel_rfl))
 f318 := Tryz.func182.trans (congrArg some (by kernel_rfl))
 f319 := Tryz.func183.trans (congrArg some (by kernel_rfl))
 f320 := Tryz.func184.trans (congrArg some (by kernel_rfl))
 f337 := Tryz.func190.trans (congrArg some (by kernel_rfl))
 f338 := Tryz.func191.trans (congrArg some (by kernel_rfl))
 t0 := Tryz.underlying0
 a0 := Tryz.isAgg0
 z0 := Tryz.sizeOf0
 v0 := Tryz.zeroValue0
 t2 := Tryz.underlying2
 a2 := Tryz.isAgg2
 z2 := Tryz.sizeOf2
 v2 := Tryz.zeroValue2
 t3 := Tryz.underlying3
 a3 := Tryz.isAgg3
 z3 := Tryz.sizeOf3
 v3 := Tryz.zeroValue3
 t4 := Tryz.underlying4
 a4 := Tryz.isAgg4
 z4 := Tryz.sizeOf4
 v4 := Tryz.zeroValue4
 t5 := Tryz.underlying5
 a5 := Tryz.isAgg5
 z5 := Tryz.sizeOf5
 v5 := Tryz.zeroValue5
 t9 := Tryz.underlying9
 a9 := Tryz.isAgg9
 z9 := Tryz.sizeOf9
 v9 := Tryz.zeroValue9
 t20 := Tryz.underlying20
 a20 := Tryz.isAgg20
 z20 := Tryz.sizeOf20
 v20 := Tryz.zeroValue20
 t37 := Tryz.underlying74
 a37 := Tryz.isAgg74
 z37 := Tryz.sizeOf74
 v37 := Tryz.zeroValue74
 t46 := Tryz.underlying69
 a46 := Tryz.isAgg69
 z46 := Tryz.sizeOf69
 v46 := Tryz.zeroValue69
 t51 := Tryz.underlying110
 a51 := Tryz.isAgg110
 z51 := Tryz.sizeOf110
 v51 := Tryz.zeroValue110
 t53 := Tryz.underlying113
 a53 := Tryz.isAgg113
 z53 := Tryz.sizeOf113
 v53 := Tryz.zeroValue113
 t171 := Tryz.underlying250
 a171 := Tryz.isAgg250
 z171 := Tryz.sizeOf250
 v171 := Tryz.zeroValue250
 t173 := Tryz.underlying252
 a173 := Tryz.isAgg252
 z173 := Tryz.sizeOf252
 v173 := Tryz.zeroValue252
 t212 := Tryz.underlying263
 a212 := Tryz.isAgg263
 z212 := Tryz.sizeOf263
 v212 := Tryz.zeroValue263
 t213 := Tryz.underlying264
 a213 := Tryz.isAgg264
 z213 := Tryz.sizeOf264
 t232 := Tryz.underlying275
 a232 := Tryz.isAgg275
 z232 := Tryz.sizeOf275
 v232 := Tryz.zeroValue275
 t233 := Tryz.underlying276
 a233 := Tryz.isAgg276
 z233 := Tryz.sizeOf276
 v233 := Tryz.zeroValue276
 g17 := by kernel_rfl
 g18 := by kernel_rfl
 g19 := by kernel_rfl
 i0 := by kernel_rfl
 i2 := by kernel_rfl
 i3 := by kernel_rfl
 i4 := by kernel_rfl
 i5 := by kernel_rfl
 i9 := by kernel_rfl
 i20 := by kernel_rfl
 i37 := by kernel_rfl
 i46 := by kernel_rfl
 i51 := by kernel_rfl
 i53 := by kernel_rfl
 i171 := by kernel_rfl
 i173 := by kernel_rfl
 i212 := by kernel_rfl
 i232 := by kernel_rfl
 i233 := by kernel_rfl
 m17 := by kernel_rfl
 m18 := by kernel_rfl
 m19 := by kernel_rfl }
open Go.RowKit Go.Lib Go.Sort in
theorem Tryz.strconv_Itoa (n : Int) (h0 : -9223372036854775808 ≤ n) (h1 : n ≤ 9223372036854775807) (w : World) (htab : Lib.TabIs Tryz.prog w "internal/strconv.uint64pow10" .u64 Lib.pow10Tab) :
    Calls Tryz.prog 93 #[.int .i64 n] w fun e w' => e = .returned (.string ⟨(Lib.itoa n).toArray⟩) ∧ ∃ k os, w' = grow (w.drewN k) os := Any.strconv_Itoa Tryz.laysM171 n h0 h1 w htab
def Tryz.lays190_ren : Go.Shelf.Ren := ⟨fun | 190 => 109 | 125 => 132 | 258 => 131 | 128 => 159 | 129 => 160 | 302 => 150 | 303 => 151 | 304 => 152 | 305 => 153 | 306 => 154 | 307 => 155 | 308 => 156 | 309 => 157 | 310 => 158 | 333 => 172 | 329 => 173 | 330 => 174 | 334 => 175 | 335 => 176 | 336 => 177 | 344 => 185 | n => n, fun | 31 => 23 | 9 => 9 | 3 => 3 | 46 => 69 | 0 => 0 | 51 => 110 | 53 => 113 | 4 => 4 | 183 => 237 | 182 => 236 | 131 => 241 | 5 => 5 | 218 => 254 | 222 => 258 | 228 => 266 | 229 => 267 | n => n, fun | n => n⟩
theorem Tryz.lays190 : Go.Proofs.Lays.n190 Tryz.prog Tryz.lays190_ren := {
 mixed := by kernel_rfl
 f125 := Tryz.func132.trans (congrArg some (by kernel_rfl))
 f128 := Tryz.func159.trans (congrArg some (by kernel_rfl))
 f129 := Tryz.func160.trans (congrArg some (by kernel_rfl))
 f190 := Tryz.func109.trans (congrArg some (by kernel_rfl))
 f258 := Tryz.func131.trans (congrArg some (by kernel_rfl))
 f302 := Tryz.func150.trans (congrArg some (by kernel_rfl))
 f303 := Tryz.func151.trans (congrArg some (by kernel_rfl))
 f304 := Tryz.func152.trans (congrArg some (by kernel_rfl))
 f305 := Tryz.func153.trans (congrArg some (by kernel_rfl))
 f306 := Tryz.func154.trans (congrArg some (by kernel_rfl))
 f307 := Tryz.func155.trans (congrArg some (by kernel_rfl))
 f308 := Tryz.func156.trans (congrArg some (by kernel_rfl))
 f309 := Tryz.func157.trans (congrArg some (by kernel_rfl))
 f310 := Tryz.func158.trans (congrArg some (by kernel_rfl))
 f329 := Tryz.func173.trans (congrArg some (by kernel_rfl))
 f330 := Tryz.func174.trans (congrArg some (by kernel_rfl))
 f333 := Tryz.func172.trans (congrArg some (by kernel_rfl))
 f334 := Tryz.func175.trans (congrArg some (by kernel_rfl))
 f335 := Tryz.func176.trans (congrArg some (by kernel_rfl))
 f336 := Tryz.func177.trans (congrArg some (by kernel_rfl))
 f344 := Tryz.func185.trans (congrArg some (by kernel_rfl))
 t0 := Tryz.underlying0
 a0 := Tryz.isAgg0
 z0 := Tryz.sizeOf0
 v0 := Tryz.zeroValue0
 t3 := Tryz.underlying3
 a3 := Tryz.isAgg3
 z3 := Tryz.sizeOf3
 v3 := Tryz.zeroValue3
 t4 := Tryz.underlying4
 a4 := Tryz.isAgg4
 z4 := Tryz.sizeOf4
 v4 := Tryz.zeroValue4
 t5 := Tryz.underlying5
 a5 := Tryz.isAgg5
 z5 := Tryz.sizeOf5
 v5 := Tryz.zeroValue5
 t9 := Tryz.underlying9
 a9 := Tryz.isAgg9
 z9 := Tryz.sizeOf9
 v9 := Tryz.zeroValue9
 t31 := Tryz.underlying23
 a31 := Tryz.isAgg23
 z31 := Tryz.sizeOf23
 v31 := Tryz.zeroValue23
 t46 := Tryz.underlying69
 a46 := Tryz.isAgg69
 z46 := Tryz.sizeOf69
 v46 := Tryz.zeroValue69
 t51 := Tryz.underlying110
 a51 := Tryz.isAgg110
 z51 := Tryz.sizeOf110
 v51 := Tryz.zeroValue110
 t53 := Tryz.underlying113
 a53 := Tryz.isAgg113
 z53 := Tryz.sizeOf113
 v53 := Tryz.zeroValue113
 t131 := Tryz.underlying241
 a131 := Tryz.isAgg241
 z131 := Tryz.sizeOf241
 v131 := Tryz.zeroValue241
 t182 := Tryz.underlying236
 a182 := Tryz.isAgg236
 z182 := Tryz.sizeOf236
 v182 := Tryz.zeroValue236
 t183 := Tryz.underlying237
 a183 := Tryz.isAgg237
 z183 := Tryz.sizeOf237
 v183 := Tryz.zeroValue237
 t218 := Tryz.underlying254
 a218 := Tryz.isAgg254
 z218 := Tryz.sizeOf254
 v218 := Tryz.zeroValue254
 t222 := Tryz.underlying258
 a222 := Tryz.isAgg258
 z222 := Tryz.sizeOf258
 v222 := Tryz.zeroValue258
 t228 := Tryz.underlying266
 a228 := Tryz.isAgg266
 z228 := Tryz.sizeOf266
 v228 := Tryz.zeroValue266
 t229 := Tryz.underlying267
 a229 := Tryz.isAgg267
 z229 := Tryz.sizeOf267
 v229 := Tryz.zeroValue267 }
open Go.RowKit Go.Lib Go.Sort in
theorem Tryz.slices_Sort_string (blk off cap : Nat) (ss : List (List UInt8)) (w : World) (hH : Holds encStr w blk off ss.toArray) (hblk : blk < w.heap.size) (hsz : ss.length < 4611686018427387904) :
    Calls Tryz.prog 109 #[.slice (some ⟨blk, off, none⟩) ss.length cap] w fun e w' =>
     e = .returned (.tuple #[]) ∧ ∃ n os, w' = grow (putRow encStr (Sort.ahead w n) blk off (ss.mergeSort fun x y => decide (x ≤ y)).toArray) os := Any.slices_Sort_string Tryz.lays190 blk off cap ss w hH hblk hsz
def Tryz.lays149_ren : Go.Shelf.Ren := ⟨fun | 149 => 123 | 222 => 139 | n => n, fun | 9 => 9 | 5 => 5 | 3 => 3 | 4 => 4 | n => n, fun | n => n⟩
theorem Tryz.lays149 : Go.Proofs.Lays.n149 Tryz.prog Tryz.lays149_ren := {
 mixed := by kernel_rfl
 f149 := Tryz.func123.trans (congrArg some (by kernel_rfl))
 f222 := Tryz.func139.trans (congrArg some (by kernel_rfl))
 t3 := Tryz.underlying3
 a3 := Tryz.isAgg3
 z3 := Tryz.sizeOf3
 v3 := Tryz.zeroValue3
 t4 := Tryz.underlying4
 a4 := Tryz.isAgg4
 z4 := Tryz.sizeOf4
 v4 := Tryz.zeroValue4
 t5 := Tryz.underlying5
 a5 := Tryz.isAgg5
 z5 := Tryz.sizeOf5
 v5 := Tryz.zeroValue5
 t9 := Tryz.underlying9
 a9 := Tryz.isAgg9
 z9 := Tryz.sizeOf9
 v9 := Tryz.zeroValue9 }
open Go.RowKit Go.Lib Go.Sort in
theorem Tryz.strings_LastIndexByte (s : ByteArray) (c : Int) (hs : s.size < 4611686018427387904) (w : World) :
    Calls Tryz.prog 123 #[.string s, .int .u8 c] w fun e w' => e = .returned (.int .i64 (Lib.lastIndexByte s c)) ∧ w' = w := Any.strings_LastIndexByte Tryz.lays149 s c hs w
def Tryz.lays194_ren : Go.Shelf.Ren := ⟨fun | 194 => 149 | n => n, fun | 31 => 23 | 9 => 9 | 3 => 3 | 4 => 4 | 0 => 0 | n => n, fun | n => n⟩
theorem Tryz.lays194 : Go.Proofs.Lays.n194 Tryz.prog Tryz.lays194_ren := {
 mixed := by kernel_rfl
 f194 := Tryz.func149.trans (congrArg some (by kernel_rfl))
 t0 := Tryz.underlying0
 a0 := Tryz.isAgg0
 z0 := Tryz.sizeOf0
 v0 := Tryz.zeroValue0
 t3 := Tryz.underlying3
 a3 := Tryz.isAgg3
 z3 := Tryz.sizeOf3
 v3 := Tryz.zeroValue3
 t4 := Tryz.underlying4
 a4 := Tryz.isAgg4
 z4 := Tryz.sizeOf4
 v4 := Tryz.zeroValue4
 t9 := Tryz.underlying9
 a9 := Tryz.isAgg9
 z9 := Tryz.sizeOf9
 v9 := Tryz.zeroValue9
 t31 := Tryz.underlying23
 a31 := Tryz.isAgg23
 z31 := Tryz.sizeOf23
 v31 := Tryz.zeroValue23 }
open Go.RowKit Go.Lib Go.Sort in
theorem Tryz.slices_Compact_string (blk off cap : Nat) (zs : List (List UInt8)) (w : World) (hH : Holds encStr w blk off zs.toArray) (hsz : zs.length ≤ 9223372036854775807) (hcap : zs.length ≤ cap) :
    Calls Tryz.prog 149 #[.slice (some ⟨blk, off, none⟩) zs.length cap] w fun e w' => e = .returned (.slice (some ⟨blk, off, none⟩) (Lib.compact zs).length cap) ∧ ∃ q, w' = putRow encStr (Sort.ahead w q) blk off (Lib.compact zs ++ List.replicate (zs.length - (Lib.compact zs).length) []).toArray := Any.slices_Compact_string Tryz.lays194 blk off cap zs w hH hsz hcap
open Go.RowKit Go.Lib Go.Sort in
theorem Tryz.slices_Compact_string_empty (a : Option Addr) (cap : Nat) (w : World) :
    Calls Tryz.prog 149 #[.slice a 0 cap] w fun e w' => e = .returned (.slice a 0 cap) ∧ w' = w := Any.slices_Compact_string_empty Tryz.lays194 a cap w
open Go.RowKit Go.Lib Go.Sort in
theorem Tryz.slices_Sort_string_none (p : Option Addr) (cap : Nat) (w : World) :
    Calls Tryz.prog 109 #[.slice p 0 cap] w fun e w' => e = .returned (.tuple #[]) ∧ w' = w := Any.slices_Sort_string_none Tryz.lays190 p cap w
def Tryz.lays160_ren : Go.Shelf.Ren := ⟨fun | 160 => 124 | 232 => 141 | 231 => 140 | 227 => 142 | 234 => 144 | 233 => 143 | 236 => 146 | 235 => 145 | 228 => 164 | 271 => 167 | 151 => 166 | 197 => 165 | 120 => 180 | 152 => 179 | 260 => 178 | 137 => 186 | 119 => 187 | 224 => 188 | 225 => 189 | 217 => 192 | 266 => 193 | n => n, fun | 9 => 9 | 4 => 4 | 3 => 3 | 5 => 5 | 117 => 228 | 116 => 227 | 0 => 0 | 124 => 231 | 21 => 21 | 105 => 247 | 46 => 69 | 119 => 269 | 139 => 272 | 138 => 271 | n => n, fun | 3 => 2 | 4 => 3 | n => n⟩
theorem Tryz.lays160 : Go.Proofs.Lays.n160 Tryz.prog Tryz.lays160_ren := {
 mixed := by kernel_rfl
 f119 := Tryz.func187.trans (congrArg some (by kernel_rfl))
 f120 := Tryz.func180.trans (congrArg some (by kernel_rfl))
 f137 := Tryz.func186.trans (congrArg some (by kernel_rfl))
 f151 := Tryz.func166.trans (congrArg some (by kernel_rfl))
 f152 := Tryz.func179.trans (congrArg some (by kernel_rfl))
 f160 := Tryz.func124.trans (congrArg some (by kernel_rfl))
 f197 := Tryz.func165.trans (congrArg some (by kernel_rfl))
 f217 := Tryz.func192.trans (congrArg some (by kernel_rfl))
 f224 := Tryz.func188.trans (congrArg some (by kernel_rfl))
 f225 := Tryz.func189.trans (congrArg some (by kernel_rfl))
 f227 := Tryz.func142.trans (congrArg some (by kernel_rfl))
 f228 := Tryz.func164.trans (congrArg some (by kernel_rfl))
 f231 := Tryz.func140.trans (congrArg some (by kernel_rfl))
 f232 := Tryz.func141.trans (congrArg some (by kernel_rfl))
 f233 := Tryz.func143.trans (congrArg some (by kernel_rfl))
 f234 := Tryz.func144.trans (congrArg some (by kernel_rfl))
 f235 := Tryz.func145.trans (congrArg some (by kernel_rfl))
 f236 := Tryz.func146.trans (congrArg some (by kernel_rfl))
 f260 := Tryz.func178.trans (congrArg some (by kernel_rfl))
 f266 := Tryz.func193.trans (congrArg some (by kernel_rfl))
 f271 := Tryz.func167.trans (congrArg some (by kernel_rfl))
 t0 := Tryz.underlying0
 a0 := Tryz.isAgg0
 z0 := Tryz.sizeOf0
 v0 := Tryz.zeroValue0
 t3 := Tryz.underlying3
 a3 := Tryz.isAgg3
 z3 := Tryz.sizeOf3
 v3 := Tryz.zeroValue3
 t4 := Tryz.underlying4
 a4 := Tryz.isAgg4
 z4 := Tryz.sizeOf4
 v4 := Tryz.zeroValue4
 t5 := Tryz.underlying5
 a5 := Tryz.isAgg5
 z5 := Tryz.sizeOf5
 v5 := Tryz.zeroValue5
 t9 := Tryz.underlying9
 a9 := Tryz.isAgg9
 z9 := Tryz.sizeOf9
 v9 := Tryz.zeroValue9
 t21 := Tryz.underlying21
 a21 := Tryz.isAgg21
 z21 := Tryz.sizeOf21
 v21 := Tryz.zeroValue21
 t46 := Tryz.underlying69
 a46 := Tryz.isAgg69
 z46 := Tryz.sizeOf69
 v46 := Tryz.zeroValue69
 t105 := Tryz.underlying247
 a105 := Tryz.isAgg247
 z105 := Tryz.sizeOf247
 v105 := Tryz.zeroValue247
 t116 := Tryz.underlying227
 a116 := Tryz.isAgg227
 z116 := Tryz.sizeOf227
 t117 := Tryz.underlying228
 a117 := Tryz.isAgg228
 z117 := Tryz.sizeOf228
 v117 := Tryz.zeroValue228
 t119 := Tryz.underlying269
 a119 := Tryz.isAgg269
 z119 := Tryz.sizeOf269
 t124 := Tryz.underlying231
 a124 := Tryz.isAgg231
 z124 := Tryz.sizeOf231
 v124 := Tryz.zeroValue231
 t138 := Tryz.underlying271
 a138 := Tryz.isAgg271
 z138 := Tryz.sizeOf271
 v138 := Tryz.zeroValue271
 t139 := Tryz.underlying272
 a139 := Tryz.isAgg272
 z139 := Tryz.sizeOf272
 v139 := Tryz.zeroValue272
 g3 := by kernel_rfl
 g4 := by kernel_rfl }
def Tryz.keys70_ren : Go.Shelf.Ren := ⟨fun | 7 => 70 | 10 => 110 | n => n, fun | 23 => 66 | 26 => 9 | 3 => 4 | 28 => 157 | 0 => 0 | 27 => 156 | 33 => 200 | 4 => 4 | n => n, fun | n => n⟩
theorem Tryz.keys70 : Go.Proofs.SlLaysZ.n7 Tryz.prog Tryz.keys70_ren := {
 mixed := by kernel_rfl
 f7 := ⟨Tryz.f70.name, by decide, Tryz.func70.trans (congrArg some (by kernel_rfl))⟩
 f10 := ⟨Tryz.f110.name, by decide, Tryz.func110.trans (congrArg some (by kernel_rfl))⟩
 t0 := Tryz.underlying0
 a0 := Tryz.isAgg0
 z0 := Tryz.sizeOf0
 v0 := Tryz.zeroValue0
 t4 := Tryz.underlying4
 a4 := Tryz.isAgg4
 z4 := Tryz.sizeOf4
 v4 := Tryz.zeroValue4
 t23 := Tryz.underlying66
 a23 := Tryz.isAgg66
 z23 := Tryz.sizeOf66
 v23 := Tryz.zeroValue66
 t26 := Tryz.underlying9
 a26 := Tryz.isAgg9
 z26 := Tryz.sizeOf9
 v26 := Tryz.zeroValue9
 t27 := Tryz.underlying156
 a27 := Tryz.isAgg156
 z27 := Tryz.sizeOf156
 v27 := Tryz.zeroValue156
 t28 := Tryz.underlying157
 a28 := Tryz.isAgg157
 z28 := Tryz.sizeOf157
 v28 := Tryz.zeroValue157
 t33 := Tryz.underlying200
 a33 := Tryz.isAgg200
 z33 := Tryz.sizeOf200
 v33 := Tryz.zeroValue200 }
def Tryz.sorted69_ren : Go.Shelf.Ren := ⟨fun | 6 => 69 | 8 => 108 | 9 => 109 | 11 => 130 | 13 => 132 | 12 => 131 | 23 => 159 | 24 => 160 | 14 => 150 | 15 => 151 | 16 => 152 | 17 => 153 | 18 => 154 | 19 => 155 | 20 => 156 | 21 => 157 | 22 => 158 | 25 => 172 | 26 => 173 | 27 => 174 | 28 => 175 | 29 => 176 | 30 => 177 | 31 => 185 | n => n, fun | 26 => 9 | 28 => 157 | 24 => 23 | 0 => 0 | 3 => 3 | 37 => 69 | 48 => 110 | 50 => 113 | 4 => 4 | 40 => 237 | 39 => 236 | 45 => 241 | 5 => 5 | 9 => 9 | 51 => 254 | 55 => 258 | 57 => 266 | 58 => 267 | 33 => 200 | n => n, fun | n => n⟩
theorem Tryz.sorted69 : Go.Proofs.SlLaysZ.n6 Tryz.prog Tryz.sorted69_ren := {
 mixed := by kernel_rfl
 f6 := ⟨Tryz.f69.name, by decide, Tryz.func69.trans (congrArg some (by kernel_rfl))⟩
 f8 := ⟨Tryz.f108.name, by decide, Tryz.func108.trans (congrArg some (by kernel_rfl))⟩
 f11 := ⟨Tryz.f130.name, by decide, Tryz.func130.trans (congrArg some (by kernel_rfl))⟩
 t0 := Tryz.underlying0
 a0 := Tryz.isAgg0
 z0 := Tryz.sizeOf0
 v0 := Tryz.zeroValue0
 t24 := Tryz.underlying23
 a24 := Tryz.isAgg23
 z24 := Tryz.sizeOf23
 v24 := Tryz.zeroValue23
 t26 := Tryz.underlying9
 a26 := Tryz.isAgg9
 z26 := Tryz.sizeOf9
 v26 := Tryz.zeroValue9
 t28 := Tryz.underlying157
 a28 := Tryz.isAgg157
 z28 := Tryz.sizeOf157
 v28 := Tryz.zeroValue157
 i26 := by kernel_rfl }
def Tryz.sort109_ren : Go.Shelf.Ren := ⟨fun | 6 => 109 | 8 => 132 | 9 => 131 | 19 => 159 | 20 => 160 | 21 => 150 | 22 => 151 | 23 => 152 | 24 => 153 | 25 => 154 | 26 => 155 | 27 => 156 | 28 => 157 | 29 => 158 | 36 => 172 | 31 => 173 | 32 => 174 | 37 => 175 | 38 => 176 | 39 => 177 | 41 => 185 | n => n, fun | 27 => 23 | 29 => 9 | 3 => 3 | 32 => 69 | 26 => 23 | 0 => 0 | 44 => 110 | 46 => 113 | 4 => 4 | 36 => 237 | 35 => 236 | 41 => 241 | 5 => 5 | 9 => 9 | 53 => 254 | 57 => 258 | 63 => 266 | 64 => 267 | n => n, fun | n => n⟩
theorem Tryz.sort109 : Go.Proofs.SlLaysM.n6 Tryz.prog Tryz.sort109_ren := {
 mixed := by kernel_rfl
 f6 := ⟨Tryz.f109.name, by decide, Tryz.func109.trans (congrArg some (by kernel_rfl))⟩
 f8 := Tryz.func132.trans (congrArg some (by kernel_rfl))
 f9 := ⟨Tryz.f131.name, by decide, Tryz.func131.trans (congrArg some (by kernel_rfl))⟩
 f19 := Tryz.func159.trans (congrArg some (by kernel_rfl))
 f20 := Tryz.func160.trans (congrArg some (by kernel_rfl))
 f21 := ⟨Tryz.f150.name, by decide, Tryz.func150.trans (congrArg some (by kernel_rfl))⟩
 f22 := ⟨Tryz.f151.name, by decide, Tryz.func151.trans (congrArg some (by kernel_rfl))⟩
 f23 := ⟨Tryz.f152.name, by decide, Tryz.func152.trans (congrArg some (by kernel_rfl))⟩
 f24 := ⟨Tryz.f153.name, by decide, Tryz.func153.trans (congrArg some (by kernel_rfl))⟩
 f25 := ⟨Tryz.f154.name, by decide, Tryz.func154.trans (congrArg some (by kernel_rfl))⟩
 f26 := ⟨Tryz.f155.name, by decide, Tryz.func155.trans (congrArg some (by kernel_rfl))⟩
 f27 := ⟨Tryz.f156.name, by decide, Tryz.func156.trans (congrArg some (by kernel_rfl))⟩
 f28 := ⟨Tryz.f157.name, by decide, Tryz.func157.trans (congrArg some (by kernel_rfl))⟩
 f29 := ⟨Tryz.f158.name, by decide, Tryz.func158.trans (congrArg some (by kernel_rfl))⟩
 f31 := Tryz.func173.trans (congrArg some (by kernel_rfl))
 f32 := Tryz.func174.trans (congrArg some (by kernel_rfl))
 f36 := ⟨Tryz.f172.name, by decide, Tryz.func172.trans (congrArg some (by kernel_rfl))⟩
 f37 := ⟨Tryz.f175.name, by decide, Tryz.func175.trans (congrArg some (by kernel_rfl))⟩
 f38 := ⟨Tryz.f176.name, by decide, Tryz.func176.trans (congrArg some (by kernel_rfl))⟩
 f39 := ⟨Tryz.f177.name, by decide, Tryz.func177.trans (congrArg some (by kernel_rfl))⟩
 f41 := ⟨Tryz.f185.name, by decide, Tryz.func185.trans (congrArg some (by kernel_rfl))⟩
 t0 := Tryz.underlying0
 a0 := Tryz.isAgg0
 z0 := Tryz.sizeOf0
 v0 := Tryz.zeroValue0
 t3 := Tryz.underlying3
 a3 := Tryz.isAgg3
 z3 := Tryz.sizeOf3
 v3 := Tryz.zeroValue3
 t4 := Tryz.underlying4
 a4 := Tryz.isAgg4
 z4 := Tryz.sizeOf4
 v4 := Tryz.zeroValue4
 t5 := Tryz.underlying5
 a5 := Tryz.isAgg5
 z5 := Tryz.sizeOf5
 v5 := Tryz.zeroValue5
 t9 := Tryz.underlying9
 a9 := Tryz.isAgg9
 z9 := Tryz.sizeOf9
 v9 := Tryz.zeroValue9
 t26 := Tryz.underlying23
 a26 := Tryz.isAgg23
 z26 := Tryz.sizeOf23
 v26 := Tryz.zeroValue23
 t27 := Tryz.underlying23
 a27 := Tryz.isAgg23
 z27 := Tryz.sizeOf23
 v27 := Tryz.zeroValue23
 t29 := Tryz.underlying9
 a29 := Tryz.isAgg9
 z29 := Tryz.sizeOf9
 v29 := Tryz.zeroValue9
 t32 := Tryz.underlying69
 a32 := Tryz.isAgg69
 z32 := Tryz.sizeOf69
 v32 := Tryz.zeroValue69
 t35 := Tryz.underlying236
 a35 := Tryz.isAgg236
 z35 := Tryz.sizeOf236
 v35 := Tryz.zeroValue236
 t36 := Tryz.underlying237
 a36 := Tryz.isAgg237
 z36 := Tryz.sizeOf237
 v36 := Tryz.zeroValue237
 t41 := Tryz.underlying241
 a41 := Tryz.isAgg241
 z41 := Tryz.sizeOf241
 v41 := Tryz.zeroValue241
 t44 := Tryz.underlying110
 a44 := Tryz.isAgg110
 z44 := Tryz.sizeOf110
 v44 := Tryz.zeroValue110
 t46 := Tryz.underlying113
 a46 := Tryz.isAgg113
 z46 := Tryz.sizeOf113
 v46 := Tryz.zeroValue113
 t53 := Tryz.underlying254
 a53 := Tryz.isAgg254
 z53 := Tryz.sizeOf254
 v53 := Tryz.zeroValue254
 t57 := Tryz.underlying258
 a57 := Tryz.isAgg258
 z57 := Tryz.sizeOf258
 v57 := Tryz.zeroValue258
 t63 := Tryz.underlying266
 a63 := Tryz.isAgg266
 z63 := Tryz.sizeOf266
 v63 := Tryz.zeroValue266
 t64 := Tryz.underlying267
 a64 := Tryz.isAgg267
 z64 := Tryz.sizeOf267
 v64 := Tryz.zeroValue267 }
end Go.Proofs
namespace Go.Proofs.YteajcnilihgheaaGreatDoor
set_option linter.unusedSimpArgs false
set_option linter.unusedVariables false
open Go.RowKit Go.Sort
section
variable {P : Program} {ι : List Nat} {Z : Nat → Nat → Prop} {w : World}
theorem Evo.ofBelow {σ : Sto} (h : Match σ ι Z w) {w' : World} (hb : Below w.heap.size w w') : Evo ι Z w ι Z w' where
 pre := fun _ _ h => h
 img := fun id _ h _ => ⟨id, h⟩
 zmono := fun _ _ h => h
 zsame := fun b j e => World.cell?_of_block (hb.block b (h.zlt b j e))
 csz := fun b hl => by unfold cellsz; rw [hb.block b hl]
 size := hb.size
 keep := fun b hl _ => hb.block b hl
 os := hb.os
 tape := hb.tape
 output := hb.output
 znew := fun _ _ h _ => .inl h
theorem Match.below {σ : Sto} (h : Match σ ι Z w) {w' : World} (hb : Below w.heap.size w w') : Match σ ι Z w' := by
 refine h.go (Evo.ofBelow h hb) h.len (fun id o b ho hb' hl => .inr ⟨ho, hb.block b ((h.obj id o b ho hb').lt hl), fun _ hj => hj⟩) h.inj fun b j hj => Nat.lt_of_lt_of_le (h.zlt b j hj) hb.size
end
theorem tab_pow10 {σ : Sto} {ι : List Nat} {Z : Nat → Nat → Prop} {w : World} (hM : Match σ ι Z w) : Lib.TabIs Tryz.prog w "internal/strconv.uint64pow10" .u64 Lib.pow10Tab := by
 obtain ⟨h1, h2, h3⟩ := hM.glob 1 _ rfl
 have hg : Tryz.prog.globalNamed "internal/strconv.uint64pow10" = some 1 := by kernel_rfl
 unfold Lib.TabIs World.var?
 rw [hg, Option.bind_some]
 generalize hl : ([.int .u64 1, .int .u64 10, .int .u64 100, .int .u64 1000, .int .u64 10000, .int .u64 100000, .int .u64 1000000, .int .u64 10000000, .int .u64 100000000, .int .u64 1000000000, .int .u64 10000000000, .int .u64 100000000000, .int .u64 1000000000000, .int .u64 10000000000000, .int .u64 100000000000000, .int .u64 1000000000000000, .int .u64 10000000000000000, .int .u64 100000000000000000, .int .u64 1000000000000000000, .int .u64 10000000000000000000] : List Value) = l at h1 h3
 have hl2 : (Lib.pow10Tab.map fun z => Value.int .u64 z) = l := by rw [← hl]; kernel_rfl
 rw [hl2]
 have hll : l.length = 20 := by rw [← hl]; rfl
 unfold cellsz at h3
 split at h3
 · rename_i c T fz hc
   rw [hc]
   simp only [Option.some.injEq]
   apply Array.ext
   · simpa using h3
   · intro i hi1 hi2
     have hi : i < l.length := by simpa using hi2
     generalize hp : (Value.pointer (some ⟨1, 0, none⟩)) = p at h1
     generalize hr : l.map AV.lit = row at h1
     generalize ho : (0 : Nat) = off at h1
     cases h1 with
     | eptr _ _ b o U g1 g2 =>
      have hb : b = 1 ∧ o = 0 := by
       injection hp with hp
       injection hp with hp
       injection hp with hp1 hp2
       omega
      obtain ⟨rfl, rfl⟩ := hb
      have hrow : row[i]? = some (.lit l[i]) := by rw [← hr, List.getElem?_map, List.getElem?_eq_getElem hi]; rfl
      have a1 := (g1 i _ hrow).2.2
      have a2 := g2 i _ hrow
      generalize hU : U i = x at a1 a2
      cases a2
      simp only [World.cell?, hc, Nat.zero_add] at a1
      have : c[i]? = some l[i] := by simpa using a1
      rw [Array.getElem?_eq_getElem hi1] at this
      injection this with this
 · omega
theorem one_arg {us : Array Value} {d : AV} (h : [d].length = us.size) : ∃ v, us = #[v] := ⟨us[0]'(by simp at h; omega), by
 apply Array.ext
 · simp at h; simp; omega
 · intro i h1 h2; simp at h2; subst h2; rfl⟩
def primItoa (args : List AV) (σ : Sto) : Option (ARes × Sto) :=
 match args with
 | [.lit (.int .i64 x)] => if -9223372036854775808 ≤ x ∧ x ≤ 9223372036854775807 then some (.ret (.lit (.string ⟨(Lib.itoa x).toArray⟩)), σ) else none
 | _ => none
theorem primItoa_sound : CallSound Tryz.prog fun f args σ => if f = 93 then primItoa args σ else none := by
 intro f args σ r σ' hr ι Z w us hM hl hargs
 dsimp only at hr
 split at hr
 · rename_i e
   subst e
   unfold primItoa at hr
   split at hr
   · rename_i x
     split at hr
     · rename_i hc
       cases hr
       obtain ⟨h0, h1⟩ := hc
       obtain ⟨u, rfl⟩ := one_arg hl
       have hu := hargs 0 _ u rfl rfl
       cases hu
       refine ⟨Tryz.call93 _ _, (Tryz.strconv_Itoa x h0 h1 w (tab_pow10 hM)).mono ?_⟩
       rintro e w' ⟨rfl, k, os, rfl⟩
       have hb : Below w.heap.size w (grow (w.drewN k) os) := ⟨rfl, rfl, rfl, by show w.heap.size ≤ (w.heap ++ os).size; rw [Array.size_append]; omega, fun j hj => by show (w.heap ++ os)[j]? = w.heap[j]?; rw [Array.getElem?_append_left hj]⟩
       exact ⟨ι, Z, .ofBelow hM hb, hM.below hb, _, rfl, .lit _ rfl⟩
     · cases hr
   · cases hr
 · cases hr
theorem prim_base {S : Sp} {N : Nat} {f : FuncId} {g : List AV → Sto → Option (ARes × Sto)} (h : S.sp f = none) (hb : S.base f = some g) : (S.E N).prim f = some g := by
 show (match S.sp f with | some s => some (relPrim (s.S N)) | none => S.base f) = _
 rw [h]; exact hb
structure ExtX (X : Nat → Prop) (σ σ' : Sto) : Prop where
 len : σ.length ≤ σ'.length
 keep : ∀ p, X p → σ'[p]? = σ[p]?
theorem ExtX.refl {X : Nat → Prop} (σ : Sto) : ExtX X σ σ := ⟨Nat.le_refl _, fun _ _ => rfl⟩
theorem ExtX.trans {X : Nat → Prop} {a b c : Sto} (h : ExtX X a b) (k : ExtX X b c) : ExtX X a c := ⟨Nat.le_trans h.len k.len, fun p hp => (k.keep p hp).trans (h.keep p hp)⟩
theorem ExtX.set {X : Nat → Prop} {σ σ' : Sto} (h : ExtX X σ σ') {g : Nat} {o : AObj} (hg : ¬ X g) : ExtX X σ (σ'.set g o) := ⟨by simpa using h.len, fun p hp => by rw [List.getElem?_set_ne (fun e => hg (by rw [e]; exact hp))]; exact h.keep p hp⟩
theorem ExtX.push {X : Nat → Prop} {σ σ' : Sto} (h : ExtX X σ σ') (hX : ∀ p, X p → p < σ'.length) (l : Sto) : ExtX X σ (σ' ++ l) := ⟨by have := h.len; simp; omega, fun p hp => by rw [List.getElem?_append_left (hX p hp)]; exact h.keep p hp⟩
abbrev digs : List UInt8 := [48, 49, 50, 51, 52, 53, 54, 55, 56, 57]
def primLast (args : List AV) (σ : Sto) : Option (ARes × Sto) :=
 match args with
 | [.lit (.string s), .lit (.int .u8 c)] => if s.size < 4611686018427387904 then some (.ret (.lit (.int .i64 (Lib.lastIndexByte s c))), σ) else none
 | _ => none
def primTrim (args : List AV) (σ : Sto) : Option (ARes × Sto) :=
 match args with
 | [.lit (.string s), .lit (.string c)] => if s.size < 4611686018427387904 ∧ c.data.toList = digs then some (.ret (.lit (.string ⟨(Lib.trimS s.data.toList digs).toArray⟩)), σ) else none
 | _ => none
theorem two_lits {us : Array Value} {v1 v2 : Value} (hl : ([AV.lit v1, .lit v2] : List AV).length = us.size) {ι : List Nat} {Z : Nat → Nat → Prop} {w : World} (h : ∀ (i : Nat) (a : AV) (u : Value), ([AV.lit v1, .lit v2] : List AV)[i]? = some a → us[i]? = some u → VR ι Z w a u) : us = #[v1, v2] := by
 obtain ⟨u1, u2, rfl⟩ : ∃ u1 u2, us = #[u1, u2] := by
  rcases us with ⟨l⟩
  rcases l with _ | ⟨a, _ | ⟨b, _ | ⟨c, l⟩⟩⟩
  · simp at hl
  · simp at hl
  · exact ⟨a, b, rfl⟩
  · simp at hl
 have h1 := h 0 _ u1 rfl rfl
 have h2 := h 1 _ u2 rfl rfl
 cases h1
 cases h2
 rfl
theorem primLast_sound : CallSound Tryz.prog fun f args σ => if f = 123 then primLast args σ else none := by
 intro f args σ r σ' hr ι Z w us hM hl hargs
 dsimp only at hr
 split at hr
 · rename_i e
   subst e
   unfold primLast at hr
   split at hr
   · rename_i s c
     split at hr
     · rename_i hc
       cases hr
       obtain rfl := two_lits hl hargs
       refine ⟨Tryz.call123 _ _, (Tryz.strings_LastIndexByte s c hc w).mono ?_⟩
       rintro e w' ⟨rfl, rfl⟩
       have hb : Below w'.heap.size w' w' := ⟨rfl, rfl, rfl, Nat.le_refl _, fun j hj => rfl⟩
       exact ⟨ι, Z, .ofBelow hM hb, hM.below hb, _, rfl, .lit _ rfl⟩
     · cases hr
   · cases hr
 · cases hr
theorem primTrim_sound : CallSound Tryz.prog fun f args σ => if f = 124 then primTrim args σ else none := by
 intro f args σ r σ' hr ι Z w us hM hl hargs
 dsimp only at hr
 split at hr
 · rename_i e
   subst e
   unfold primTrim at hr
   split at hr
   · rename_i s c
     split at hr
     · rename_i hc
       cases hr
       obtain rfl := two_lits hl hargs
       obtain ⟨h0, h1⟩ := hc
       have hcs : c.size = 10 := by show c.data.size = 10; rw [← Array.length_toList, h1]; rfl
       have hu := Any.strings_Trim_laid Tryz.lays160 (by kernel_rfl) s c w (by omega) (by omega) (by rw [h1]; exact ascii_of_all (by decide))
       rw [h1] at hu
       refine ⟨Tryz.call124 _ _, hu.mono ?_⟩
       rintro e w' ⟨rfl, hb⟩
       exact ⟨ι, Z, .ofBelow hM hb, hM.below hb, _, rfl, .lit _ rfl⟩
     · cases hr
   · cases hr
 · cases hr
end Go.Proofs.YteajcnilihgheaaGreatDoor
namespace Go.Proofs.YteajcnilihgheaaGreatDoor
set_option linter.unusedSimpArgs false
set_option linter.unusedVariables false
open Go.RowKit
def txtW : List ByteArray → Nat
 | [] => 0
 | x :: l => 1 + x.size + txtW l
theorem txtW_len (l : List ByteArray) : l.length ≤ txtW l := by induction l with | nil => exact Nat.le_refl _ | cons x l ih => simp only [List.length_cons, txtW]; omega
def rgW (k : Int) (dg : List Int) : Nat := if (0 ≤ k ∧ k < 256) ∧ ∀ d ∈ dg, 0 ≤ d ∧ d < 4294967296 then 0 else 10000000000000
mutual
def Trm.w : Trm → Nat
 | .mk k nm ng dg ks => 1 + nm.size + dg.length + trmW ks + rgW k dg
def trmW : List Trm → Nat
 | [] => 0
 | x :: l => x.w + trmW l
end
theorem Trm.w_pos (x : Trm) : 1 ≤ x.w := by obtain ⟨_, _, _, _, _⟩ := x; simp only [Trm.w]; omega
theorem trmW_len (l : List Trm) : l.length ≤ trmW l := by induction l with | nil => exact Nat.le_refl _ | cons x l ih => have := x.w_pos; simp only [List.length_cons, trmW]; omega
theorem trmW_get {l : List Trm} {i : Nat} (h : i < l.length) : l[i].w ≤ trmW l := by
 induction l generalizing i with
 | nil => simp at h
 | cons x l ih =>
  rw [trmW]
  cases i with
  | zero => simp only [List.getElem_cons_zero]; omega
  | succ i => have := ih (i := i) (by simpa using h); simp only [List.getElem_cons_succ]; omega
open Go.Sort
theorem ExtX.less {X Y : Nat → Prop} {σ σ' : Sto} (h : ExtX Y σ σ') (hXY : ∀ p, X p → Y p) : ExtX X σ σ' := ⟨h.len, fun p hp => h.keep p (hXY p hp)⟩
end Go.Proofs.YteajcnilihgheaaGreatDoor
namespace Go.Proofs.YteajcnilihgheaaGreatDoor
set_option linter.unusedSimpArgs false
set_option linter.unusedVariables false
open Go.RowKit
mutual
def Ty.w : Ty → Nat
 | .mk fn st rf ps rs => 1 + st.size + rf.w + prmW ps + tyW rs
def tyW : List Ty → Nat
 | [] => 0
 | x :: l => x.w + tyW l
def Prm.w : Prm → Nat
 | .mk nm ty => 1 + nm.size + ty.w
def prmW : List Prm → Nat
 | [] => 0
 | x :: l => x.w + prmW l
end
theorem Ty.w_pos (x : Ty) : 1 ≤ x.w := by obtain ⟨_, _, _, _, _⟩ := x; simp only [Ty.w]; omega
theorem tyW_len (l : List Ty) : l.length ≤ tyW l := by induction l with | nil => exact Nat.le_refl _ | cons x l ih => have := x.w_pos; simp only [List.length_cons, tyW]; omega
theorem tyW_get {l : List Ty} {i : Nat} (h : i < l.length) : l[i].w ≤ tyW l := by
 induction l generalizing i with
 | nil => simp at h
 | cons x l ih =>
  rw [tyW]
  cases i with
  | zero => simp only [List.getElem_cons_zero]; omega
  | succ i => have := ih (i := i) (by simpa using h); simp only [List.getElem_cons_succ]; omega
theorem Prm.w_pos (x : Prm) : 1 ≤ x.w := by obtain ⟨_, _⟩ := x; simp only [Prm.w]; omega
theorem prmW_len (l : List Prm) : l.length ≤ prmW l := by induction l with | nil => exact Nat.le_refl _ | cons x l ih => have := x.w_pos; simp only [List.length_cons, prmW]; omega
def Atm.w : Atm → Nat
 | .mk k nm ng dg tr => 1 + nm.size + dg.length
def atmW : List Atm → Nat
 | [] => 0
 | x :: l => x.w + atmW l
theorem Atm.w_pos (x : Atm) : 1 ≤ x.w := by obtain ⟨_, _, _, _, _⟩ := x; simp only [Atm.w]; omega
theorem atmW_len (l : List Atm) : l.length ≤ atmW l := by induction l with | nil => exact Nat.le_refl _ | cons x l ih => have := x.w_pos; simp only [List.length_cons, atmW]; omega
mutual
def Exp.w : Exp → Nat
 | .mk k nm ty rh am ar bd => 1 + nm.size + tyW ty + rhsW rh + am.w + armW ar + expW bd
def expW : List Exp → Nat
 | [] => 0
 | x :: l => x.w + expW l
def Rhs.w : Rhs → Nat
 | .mk k nm ats ps rs bd ts => 1 + nm.size + atmW ats + prmW ps + tyW rs + expW bd + trmW ts
def rhsW : List Rhs → Nat
 | [] => 0
 | x :: l => x.w + rhsW l
def Arm.w : Arm → Nat
 | .mk cn ns bd => 1 + cn.size + txtW ns + expW bd
def armW : List Arm → Nat
 | [] => 0
 | x :: l => x.w + armW l
end
theorem Exp.w_pos (x : Exp) : 1 ≤ x.w := by obtain ⟨_, _, _, _, _, _, _⟩ := x; simp only [Exp.w]; omega
theorem expW_len (l : List Exp) : l.length ≤ expW l := by induction l with | nil => exact Nat.le_refl _ | cons x l ih => have := x.w_pos; simp only [List.length_cons, expW]; omega
theorem expW_get {l : List Exp} {i : Nat} (h : i < l.length) : l[i].w ≤ expW l := by
 induction l generalizing i with
 | nil => simp at h
 | cons x l ih =>
  rw [expW]
  cases i with
  | zero => simp only [List.getElem_cons_zero]; omega
  | succ i => have := ih (i := i) (by simpa using h); simp only [List.getElem_cons_succ]; omega
theorem Rhs.w_pos (x : Rhs) : 1 ≤ x.w := by obtain ⟨_, _, _, _, _, _, _⟩ := x; simp only [Rhs.w]; omega
theorem rhsW_len (l : List Rhs) : l.length ≤ rhsW l := by induction l with | nil => exact Nat.le_refl _ | cons x l ih => have := x.w_pos; simp only [List.length_cons, rhsW]; omega
theorem rhsW_get {l : List Rhs} {i : Nat} (h : i < l.length) : l[i].w ≤ rhsW l := by
 induction l generalizing i with
 | nil => simp at h
 | cons x l ih =>
  rw [rhsW]
  cases i with
  | zero => simp only [List.getElem_cons_zero]; omega
  | succ i => have := ih (i := i) (by simpa using h); simp only [List.getElem_cons_succ]; omega
theorem Arm.w_pos (x : Arm) : 1 ≤ x.w := by obtain ⟨_, _, _⟩ := x; simp only [Arm.w]; omega
theorem armW_len (l : List Arm) : l.length ≤ armW l := by induction l with | nil => exact Nat.le_refl _ | cons x l ih => have := x.w_pos; simp only [List.length_cons, armW]; omega
theorem armW_get {l : List Arm} {i : Nat} (h : i < l.length) : l[i].w ≤ armW l := by
 induction l generalizing i with
 | nil => simp at h
 | cons x l ih =>
  rw [armW]
  cases i with
  | zero => simp only [List.getElem_cons_zero]; omega
  | succ i => have := ih (i := i) (by simpa using h); simp only [List.getElem_cons_succ]; omega
theorem prim_none {S : Sp} {N : Nat} {f : FuncId} (h : S.sp f = none) (hb : S.base f = none) : (S.E N).prim f = none := by
 show (match S.sp f with | some s => some (relPrim (s.S N)) | none => S.base f) = _
 rw [h]; exact hb
abbrev strB (l : List UInt8) : ByteArray := ⟨l.toArray⟩
theorem trm1_inj (a b : Trm) (e : [AV.agg a.cs] = [.agg b.cs]) : a = b := by simp only [List.cons.injEq, and_true, AV.agg.injEq] at e; exact Trm.inj e
end Go.Proofs.YteajcnilihgheaaGreatDoor
