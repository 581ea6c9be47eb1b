/- A part of the proof: contracts of functions, over the abstract machine. -/
import Derived.Shelf.SlGeneric
import Derived.Shelf.Strings.Builder1
import Derived.Shelf.Strings.Builder2
import Derived.Shelf.Strings.OnBuilder
import Derived.Shelf.Small.Utf8
import Derived.Shelf.Small.Bits
import Derived.Shelf.Small.Strs
import Derived.Shelf.Strings.BuilderF
import Derived.Shelf.Utf8.RuneCount
import Derived.Shelf.Strconv.Itoa0
import Derived.Shelf.Strconv.Itoa1
import Derived.Shelf.LaysM
import Derived.Shelf.Strconv.Itoa2
import Derived.Shelf.Strconv.Itoa3
import Derived.Shelf.Strings.Search1
import Derived.Shelf.Strings.Search2
import Derived.Shelf.Strings.Search3
import Derived.Shelf.Strings.Count
import Derived.Shelf.Strings.Shaped
import Derived.Shelf.Sort.Plain
import Derived.Shelf.Strings.Split
import Derived.Shelf.Strings.SplitShaped
import Derived.Shelf.Unicode.Latin
import Derived.Shelf.Unicode.Decode
import Derived.Shelf.Strings.Runes
import Derived.Shelf.Strings.RuneCount
import Derived.Shelf.Strings.Explode
import Derived.Shelf.Unicode.DecodeSlow
import Derived.Shelf.Unicode.DecodeAny
import Derived.Shelf.Unicode.CaseLookup
import Derived.Shelf.Unicode.CaseConvert
import Derived.Shelf.Unicode.CaseTo
import Derived.Shelf.Unicode.CaseLaid
import Derived.Ground.Names2Prog
import Derived.Shelf.Slices.Clone
import Derived.Shelf.Slices.SearchI
import Derived.Shelf.Slices.In.SortNone
import Derived.Shelf.SlicesE.Clone
import Derived.Shelf.SlIterI.Nil
import Derived.Ground.GgzProg
import Derived.Ground.SlgmProg
import Derived.Test.YtjaammiblfndaaaGreatDoorProg
set_option linter.unusedVariables false
set_option linter.unusedSimpArgs false
set_option linter.all false
/-
  DERIVED: THE SHELF's CONTRACTS AT THIS DUMP, IN PLAIN WORDS (tools/lay-plain.mjs out of 'TryzShelf.lean', which tools/lay-shelf.mjs wrote): THE SAME DECLARATIONS UNDER THE SAME NAMES: 'import', 'namespace', 'open', 'def', 'theorem' AND NOTHING ELSE: no command of the shelf's: FOR A HAND-IN. Each laying: the table of numbers ('.._ren') and one theorem, a field a fact of the dump's own or the kernel's comparison; each contract: ONE APPLICATION.
-/
namespace Go.Proofs
open Go.Shelf
def Tryz.lays159_ren : Go.Shelf.Ren := ⟨fun | 159 => 296 | 165 => 338 | 166 => 79 | 167 => 339 | 169 => 80 | 230 => 340 | 204 => 341 | 240 => 144 | 241 => 377 | 197 => 329 | 118 => 378 | 168 => 379 | 270 => 380 | 262 => 381 | 276 => 220 | 277 => 390 | 260 => 365 | 242 => 391 | 313 => 392 | 278 => 395 | 274 => 396 | 275 => 397 | n => n, fun | 9 => 9 | 4 => 4 | 3 => 3 | 5 => 5 | 72 => 140 | 0 => 0 | 76 => 147 | 75 => 146 | 107 => 435 | 70 => 138 | 20 => 20 | 37 => 77 | 127 => 239 | 21 => 21 | 105 => 422 | 164 => 332 | 162 => 473 | 203 => 471 | 119 => 461 | 46 => 288 | 139 => 464 | 138 => 463 | 51 => 41 | 160 => 474 | 208 => 482 | 206 => 480 | 80 => 149 | n => n, fun | 13 => 4 | 3 => 1 | 4 => 2 | n => n⟩
theorem Tryz.lays159 : Go.Proofs.Lays.n159 Tryz.prog Tryz.lays159_ren := {
  mixed := by kernel_rfl
  f118 := Tryz.func378.trans (congrArg some (by kernel_rfl))
  f159 := Tryz.func296.trans (congrArg some (by kernel_rfl))
  f165 := Tryz.func338.trans (congrArg some (by kernel_rfl))
  f166 := Tryz.func79.trans (congrArg some (by kernel_rfl))
  f167 := Tryz.func339.trans (congrArg some (by kernel_rfl))
  f168 := Tryz.func379.trans (congrArg some (by kernel_rfl))
  f169 := Tryz.func80.trans (congrArg some (by kernel_rfl))
  f197 := Tryz.func329.trans (congrArg some (by kernel_rfl))
  f204 := Tryz.func341.trans (congrArg some (by kernel_rfl))
  f230 := Tryz.func340.trans (congrArg some (by kernel_rfl))
  f240 := Tryz.func144.trans (congrArg some (by kernel_rfl))
  f241 := Tryz.func377.trans (congrArg some (by kernel_rfl))
  f242 := Tryz.func391.trans (congrArg some (by kernel_rfl))
  f260 := Tryz.func365.trans (congrArg some (by kernel_rfl))
  f262 := Tryz.func381.trans (congrArg some (by kernel_rfl))
  f270 := Tryz.func380.trans (congrArg some (by kernel_rfl))
  f274 := Tryz.func396.trans (congrArg some (by kernel_rfl))
  f275 := Tryz.func397.trans (congrArg some (by kernel_rfl))
  f276 := Tryz.func220.trans (congrArg some (by kernel_rfl))
  f277 := Tryz.func390.trans (congrArg some (by kernel_rfl))
  f278 := Tryz.func395.trans (congrArg some (by kernel_rfl))
  f313 := Tryz.func392.trans (congrArg some (by kernel_rfl))
  t0 := Tryz.underlying0
  a0 := Tryz.isAgg0
  z0 := Tryz.sizeOf0
  v0 := Tryz.zeroValue0
  t3 := Tryz.underlying3
  a3 := Tryz.isAgg3
  z3 := Tryz.sizeOf3
  v3 := Tryz.zeroValue3
  t4 := Tryz.underlying4
  a4 := Tryz.isAgg4
  z4 := Tryz.sizeOf4
  v4 := Tryz.zeroValue4
  t5 := Tryz.underlying5
  a5 := Tryz.isAgg5
  z5 := Tryz.sizeOf5
  v5 := Tryz.zeroValue5
  t9 := Tryz.underlying9
  a9 := Tryz.isAgg9
  z9 := Tryz.sizeOf9
  v9 := Tryz.zeroValue9
  t20 := Tryz.underlying20
  a20 := Tryz.isAgg20
  z20 := Tryz.sizeOf20
  v20 := Tryz.zeroValue20
  t21 := Tryz.underlying21
  a21 := Tryz.isAgg21
  z21 := Tryz.sizeOf21
  v21 := Tryz.zeroValue21
  t37 := Tryz.underlying77
  a37 := Tryz.isAgg77
  z37 := Tryz.sizeOf77
  v37 := Tryz.zeroValue77
  t46 := Tryz.underlying288
  a46 := Tryz.isAgg288
  z46 := Tryz.sizeOf288
  v46 := Tryz.zeroValue288
  t51 := Tryz.underlying41
  a51 := Tryz.isAgg41
  z51 := Tryz.sizeOf41
  v51 := Tryz.zeroValue41
  t70 := Tryz.underlying138
  a70 := Tryz.isAgg138
  z70 := Tryz.sizeOf138
  v70 := Tryz.zeroValue138
  t72 := Tryz.underlying140
  a72 := Tryz.isAgg140
  z72 := Tryz.sizeOf140
  v72 := Tryz.zeroValue140
  t75 := Tryz.underlying146
  a75 := Tryz.isAgg146
  z75 := Tryz.sizeOf146
  v75 := Tryz.zeroValue146
  t76 := Tryz.underlying147
  a76 := Tryz.isAgg147
  z76 := Tryz.sizeOf147
  v76 := Tryz.zeroValue147
  t105 := Tryz.underlying422
  a105 := Tryz.isAgg422
  z105 := Tryz.sizeOf422
  v105 := Tryz.zeroValue422
  t107 := Tryz.underlying435
  a107 := Tryz.isAgg435
  z107 := Tryz.sizeOf435
  v107 := Tryz.zeroValue435
  t119 := Tryz.underlying461
  a119 := Tryz.isAgg461
  z119 := Tryz.sizeOf461
  t127 := Tryz.underlying239
  a127 := Tryz.isAgg239
  z127 := Tryz.sizeOf239
  v127 := Tryz.zeroValue239
  t138 := Tryz.underlying463
  a138 := Tryz.isAgg463
  z138 := Tryz.sizeOf463
  v138 := Tryz.zeroValue463
  t139 := Tryz.underlying464
  a139 := Tryz.isAgg464
  z139 := Tryz.sizeOf464
  v139 := Tryz.zeroValue464
  t160 := Tryz.underlying474
  a160 := Tryz.isAgg474
  z160 := Tryz.sizeOf474
  v160 := Tryz.zeroValue474
  t162 := Tryz.underlying473
  a162 := Tryz.isAgg473
  z162 := Tryz.sizeOf473
  v162 := Tryz.zeroValue473
  t164 := Tryz.underlying332
  a164 := Tryz.isAgg332
  z164 := Tryz.sizeOf332
  v164 := Tryz.zeroValue332
  t203 := Tryz.underlying471
  a203 := Tryz.isAgg471
  z203 := Tryz.sizeOf471
  v203 := Tryz.zeroValue471
  t206 := Tryz.underlying480
  a206 := Tryz.isAgg480
  z206 := Tryz.sizeOf480
  v206 := Tryz.zeroValue480
  t208 := Tryz.underlying482
  a208 := Tryz.isAgg482
  z208 := Tryz.sizeOf482
  v208 := Tryz.zeroValue482
  g3 := by kernel_rfl
  g4 := by kernel_rfl
  g13 := by kernel_rfl }
theorem Tryz.Builder_Extra_159 : Builder.Extra Tryz.prog Tryz.lays159_ren := {
  sizeBuilder := by kernel_rfl
  liesBuilder := by kernel_rfl
  t5 := Tryz.underlying5
  a5 := Tryz.isAgg5
  z5 := Tryz.sizeOf5
  v5 := Tryz.zeroValue5
  infoByte := by kernel_rfl
  cellsByte := by kernel_rfl
  sizeByte := by kernel_rfl
  neB5 := by decide }
open Go.RowKit in
/-- strings.ToLower: "ToLower returns s with all Unicode letters mapped to their lower case.": ON ASCII TEXT OF AT MOST 2^47 BYTES. Below the heap's end the world is as it was: where a letter turns, the call makes a builder and its buffer. (LAID: no walk: one application.) -/
theorem Tryz.strings_ToLower_ascii (s : ByteArray) (w : World) (hs : s.size ≤ 140737488355328) (hascii : ∀ (j : Nat) (b : UInt8), s.data.toList[j]? = some b → b.toNat < 128) :
    Calls Tryz.prog 296 #[.string s] w fun e w' => e = .returned (.string ⟨(Lib.toLowerA s.data.toList).toArray⟩) ∧ Below w.heap.size w w' := Any.strings_ToLower_ascii Tryz.lays159 Tryz.Builder_Extra_159 s w hs hascii
def Tryz.lays189_ren : Go.Shelf.Ren := ⟨fun | 189 => 160 | 125 => 243 | 257 => 242 | 128 => 318 | 129 => 319 | 294 => 309 | 295 => 310 | 296 => 311 | 297 => 312 | 298 => 313 | 299 => 314 | 216 => 315 | 300 => 316 | 301 => 317 | 328 => 356 | 329 => 357 | 330 => 358 | 331 => 359 | 332 => 360 | 215 => 361 | 343 => 382 | n => n, fun | 28 => 22 | 3 => 3 | 46 => 288 | 0 => 0 | 51 => 41 | 53 => 414 | 4 => 4 | 183 => 407 | 182 => 406 | 131 => 274 | 5 => 5 | 9 => 9 | 218 => 447 | 222 => 192 | 228 => 459 | 229 => 208 | n => n, fun | n => n⟩
theorem Tryz.lays189 : Go.Proofs.Lays.n189 Tryz.prog Tryz.lays189_ren := {
  mixed := by kernel_rfl
  f125 := Tryz.func243.trans (congrArg some (by kernel_rfl))
  f128 := Tryz.func318.trans (congrArg some (by kernel_rfl))
  f129 := Tryz.func319.trans (congrArg some (by kernel_rfl))
  f189 := Tryz.func160.trans (congrArg some (by kernel_rfl))
  f215 := Tryz.func361.trans (congrArg some (by kernel_rfl))
  f216 := Tryz.func315.trans (congrArg some (by kernel_rfl))
  f257 := Tryz.func242.trans (congrArg some (by kernel_rfl))
  f294 := Tryz.func309.trans (congrArg some (by kernel_rfl))
  f295 := Tryz.func310.trans (congrArg some (by kernel_rfl))
  f296 := Tryz.func311.trans (congrArg some (by kernel_rfl))
  f297 := Tryz.func312.trans (congrArg some (by kernel_rfl))
  f298 := Tryz.func313.trans (congrArg some (by kernel_rfl))
  f299 := Tryz.func314.trans (congrArg some (by kernel_rfl))
  f300 := Tryz.func316.trans (congrArg some (by kernel_rfl))
  f301 := Tryz.func317.trans (congrArg some (by kernel_rfl))
  f328 := Tryz.func356.trans (congrArg some (by kernel_rfl))
  f329 := Tryz.func357.trans (congrArg some (by kernel_rfl))
  f330 := Tryz.func358.trans (congrArg some (by kernel_rfl))
  f331 := Tryz.func359.trans (congrArg some (by kernel_rfl))
  f332 := Tryz.func360.trans (congrArg some (by kernel_rfl))
  f343 := Tryz.func382.trans (congrArg some (by kernel_rfl))
  t0 := Tryz.underlying0
  a0 := Tryz.isAgg0
  z0 := Tryz.sizeOf0
  v0 := Tryz.zeroValue0
  t3 := Tryz.underlying3
  a3 := Tryz.isAgg3
  z3 := Tryz.sizeOf3
  v3 := Tryz.zeroValue3
  t4 := Tryz.underlying4
  a4 := Tryz.isAgg4
  z4 := Tryz.sizeOf4
  v4 := Tryz.zeroValue4
  t5 := Tryz.underlying5
  a5 := Tryz.isAgg5
  z5 := Tryz.sizeOf5
  v5 := Tryz.zeroValue5
  t9 := Tryz.underlying9
  a9 := Tryz.isAgg9
  z9 := Tryz.sizeOf9
  v9 := Tryz.zeroValue9
  t28 := Tryz.underlying22
  a28 := Tryz.isAgg22
  z28 := Tryz.sizeOf22
  v28 := Tryz.zeroValue22
  t46 := Tryz.underlying288
  a46 := Tryz.isAgg288
  z46 := Tryz.sizeOf288
  v46 := Tryz.zeroValue288
  t51 := Tryz.underlying41
  a51 := Tryz.isAgg41
  z51 := Tryz.sizeOf41
  v51 := Tryz.zeroValue41
  t53 := Tryz.underlying414
  a53 := Tryz.isAgg414
  z53 := Tryz.sizeOf414
  v53 := Tryz.zeroValue414
  t131 := Tryz.underlying274
  a131 := Tryz.isAgg274
  z131 := Tryz.sizeOf274
  v131 := Tryz.zeroValue274
  t182 := Tryz.underlying406
  a182 := Tryz.isAgg406
  z182 := Tryz.sizeOf406
  v182 := Tryz.zeroValue406
  t183 := Tryz.underlying407
  a183 := Tryz.isAgg407
  z183 := Tryz.sizeOf407
  v183 := Tryz.zeroValue407
  t218 := Tryz.underlying447
  a218 := Tryz.isAgg447
  z218 := Tryz.sizeOf447
  v218 := Tryz.zeroValue447
  t222 := Tryz.underlying192
  a222 := Tryz.isAgg192
  z222 := Tryz.sizeOf192
  v222 := Tryz.zeroValue192
  t228 := Tryz.underlying459
  a228 := Tryz.isAgg459
  z228 := Tryz.sizeOf459
  v228 := Tryz.zeroValue459
  t229 := Tryz.underlying208
  a229 := Tryz.isAgg208
  z229 := Tryz.sizeOf208
  v229 := Tryz.zeroValue208 }
open Go.Sort Go.RowKit in
theorem Tryz.slices_Sort_int (blk off cap : Nat) (zs : List Int) (w : World) (hH : Holds (Value.int .i64) w blk off zs.toArray) (hblk : blk < w.heap.size) (hsz : zs.length < 4611686018427387904) :
    Calls Tryz.prog 160 #[.slice (some ⟨blk, off, none⟩) zs.length cap] w fun e w' =>
      e = .returned (.tuple #[]) ∧ ∃ n os, w' = grow (putRow (Value.int .i64) (Sort.ahead w n) blk off (zs.mergeSort fun x y => decide (x ≤ y)).toArray) os := Any.slices_Sort_int Tryz.lays189 blk off cap zs w hH hblk hsz
def Tryz.lays151_ren : Go.Shelf.Ren := ⟨fun | 151 => 298 | 152 => 333 | 137 => 374 | 119 => 375 | 224 => 368 | 225 => 367 | 217 => 366 | 266 => 384 | n => n, fun | 9 => 9 | 21 => 21 | 4 => 4 | 3 => 3 | 5 => 5 | 0 => 0 | 46 => 288 | n => n, fun | n => n⟩
theorem Tryz.lays151 : Go.Proofs.Lays.n151 Tryz.prog Tryz.lays151_ren := {
  mixed := by kernel_rfl
  f119 := Tryz.func375.trans (congrArg some (by kernel_rfl))
  f137 := Tryz.func374.trans (congrArg some (by kernel_rfl))
  f151 := Tryz.func298.trans (congrArg some (by kernel_rfl))
  f152 := Tryz.func333.trans (congrArg some (by kernel_rfl))
  f217 := Tryz.func366.trans (congrArg some (by kernel_rfl))
  f224 := Tryz.func368.trans (congrArg some (by kernel_rfl))
  f225 := Tryz.func367.trans (congrArg some (by kernel_rfl))
  f266 := Tryz.func384.trans (congrArg some (by kernel_rfl))
  t0 := Tryz.underlying0
  a0 := Tryz.isAgg0
  z0 := Tryz.sizeOf0
  v0 := Tryz.zeroValue0
  t3 := Tryz.underlying3
  a3 := Tryz.isAgg3
  z3 := Tryz.sizeOf3
  v3 := Tryz.zeroValue3
  t4 := Tryz.underlying4
  a4 := Tryz.isAgg4
  z4 := Tryz.sizeOf4
  v4 := Tryz.zeroValue4
  t5 := Tryz.underlying5
  a5 := Tryz.isAgg5
  z5 := Tryz.sizeOf5
  v5 := Tryz.zeroValue5
  t9 := Tryz.underlying9
  a9 := Tryz.isAgg9
  z9 := Tryz.sizeOf9
  v9 := Tryz.zeroValue9
  t21 := Tryz.underlying21
  a21 := Tryz.isAgg21
  z21 := Tryz.sizeOf21
  v21 := Tryz.zeroValue21
  t46 := Tryz.underlying288
  a46 := Tryz.isAgg288
  z46 := Tryz.sizeOf288
  v46 := Tryz.zeroValue288 }
open Go.RowKit Go.Lib in
theorem Tryz.strings_ContainsRune_ascii (s : ByteArray) (r : Int) (w : World) (h0 : 0 ≤ r) (h1 : r < 128) :
    Calls Tryz.prog 298 #[.string s, .int .i32 r] w fun e w' => e = .returned (.bool (decide (0 ≤ Lib.indexByte s.data.toList r.toNat.toUInt8))) ∧ w' = w := Any.strings_ContainsRune_ascii Tryz.lays151 s r w h0 h1
open Go.RowKit Go.Sort in
/-- .. and plain. (LAID: no walk: one application.) -/
theorem Tryz.slices_Sort_int_none (p : Option Addr) (cap : Nat) (w : World) :
    Calls Tryz.prog 160 #[.slice p 0 cap] w fun e w' => e = .returned (.tuple #[]) ∧ w' = w := Any.slices_Sort_int_none Tryz.lays189 p cap w
def Tryz.keysA_ren : Go.Shelf.Ren := ⟨fun | 7 => 240 | 10 => 308 | n => n, fun | 23 => 354 | 26 => 3 | 3 => 3 | 28 => 358 | 0 => 0 | 27 => 357 | 33 => 71 | 4 => 4 | n => n, fun | n => n⟩
theorem Tryz.keysA : Go.Proofs.SlLaysZI.n7 Tryz.prog Tryz.keysA_ren := {
  mixed := by kernel_rfl
  f7 := ⟨Tryz.f240.name, by decide, Tryz.func240.trans (congrArg some (by kernel_rfl))⟩
  f10 := ⟨Tryz.f308.name, by decide, Tryz.func308.trans (congrArg some (by kernel_rfl))⟩
  t0 := Tryz.underlying0
  a0 := Tryz.isAgg0
  z0 := Tryz.sizeOf0
  v0 := Tryz.zeroValue0
  t4 := Tryz.underlying4
  a4 := Tryz.isAgg4
  z4 := Tryz.sizeOf4
  v4 := Tryz.zeroValue4
  t23 := Tryz.underlying354
  a23 := Tryz.isAgg354
  z23 := Tryz.sizeOf354
  v23 := Tryz.zeroValue354
  t26 := Tryz.underlying3
  a26 := Tryz.isAgg3
  z26 := Tryz.sizeOf3
  v26 := Tryz.zeroValue3
  t27 := Tryz.underlying357
  a27 := Tryz.isAgg357
  z27 := Tryz.sizeOf357
  v27 := Tryz.zeroValue357
  t28 := Tryz.underlying358
  a28 := Tryz.isAgg358
  z28 := Tryz.sizeOf358
  v28 := Tryz.zeroValue358
  t33 := Tryz.underlying71
  a33 := Tryz.isAgg71
  z33 := Tryz.sizeOf71
  v33 := Tryz.zeroValue71 }
def Tryz.sortedA_ren : Go.Shelf.Ren := ⟨fun | 6 => 239 | 8 => 307 | 9 => 160 | 11 => 355 | 13 => 243 | 12 => 242 | 23 => 318 | 24 => 319 | 14 => 309 | 15 => 310 | 16 => 311 | 17 => 312 | 18 => 313 | 19 => 314 | 20 => 315 | 21 => 316 | 22 => 317 | 25 => 356 | 26 => 357 | 27 => 358 | 28 => 359 | 29 => 360 | 30 => 361 | 31 => 382 | n => n, fun | 26 => 3 | 28 => 358 | 24 => 22 | 0 => 0 | 3 => 3 | 37 => 288 | 48 => 41 | 50 => 414 | 4 => 4 | 40 => 407 | 39 => 406 | 45 => 274 | 5 => 5 | 9 => 9 | 51 => 447 | 55 => 192 | 57 => 459 | 58 => 208 | 33 => 71 | n => n, fun | n => n⟩
theorem Tryz.sortedA : Go.Proofs.SlLaysZI.n6 Tryz.prog Tryz.sortedA_ren := {
  mixed := by kernel_rfl
  f6 := ⟨Tryz.f239.name, by decide, Tryz.func239.trans (congrArg some (by kernel_rfl))⟩
  f8 := ⟨Tryz.f307.name, by decide, Tryz.func307.trans (congrArg some (by kernel_rfl))⟩
  f11 := ⟨Tryz.f355.name, by decide, Tryz.func355.trans (congrArg some (by kernel_rfl))⟩
  t0 := Tryz.underlying0
  a0 := Tryz.isAgg0
  z0 := Tryz.sizeOf0
  v0 := Tryz.zeroValue0
  t24 := Tryz.underlying22
  a24 := Tryz.isAgg22
  z24 := Tryz.sizeOf22
  v24 := Tryz.zeroValue22
  t26 := Tryz.underlying3
  a26 := Tryz.isAgg3
  z26 := Tryz.sizeOf3
  v26 := Tryz.zeroValue3
  t28 := Tryz.underlying358
  a28 := Tryz.isAgg358
  z28 := Tryz.sizeOf358
  v28 := Tryz.zeroValue358
  i26 := by kernel_rfl }
end Go.Proofs
