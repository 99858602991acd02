/-
  DERIVED: THE SHELF's CONTRACTS AT THIS DUMP, IN PLAIN WORDS (tools/lay-plain.mjs out of 'YtknonaboaaiabaaGreatDoorShelf2.lean', which tools/lay-shelf.mjs wrote): THE SAME DECLARATIONS UNDER THE SAME NAMES: 'import', 'namespace', 'open', 'def', 'theorem' AND NOTHING ELSE: no command of the shelf's: FOR A HAND-IN. Each laying: the table of numbers ('.._ren') and one theorem, a field a fact of the dump's own or the kernel's comparison; each contract: ONE APPLICATION.
-/
import Derived.Shelf.Small.Bits
import Derived.Shelf.Small.Wraps
import Derived.Shelf.Sort.Plain
import Derived.Shelf.Slices.In.SortNone
import Derived.Test.YtknonaboaaiabaaGreatDoorProg
namespace Go.Proofs
open Go.Shelf
def Tryz.lays189_ren : Go.Shelf.Ren := ⟨fun | 189 => 253 | 125 => 216 | 257 => 265 | 128 => 249 | 129 => 250 | 294 => 284 | 295 => 285 | 296 => 286 | 297 => 287 | 298 => 288 | 299 => 289 | 216 => 290 | 300 => 291 | 301 => 292 | 328 => 304 | 329 => 261 | 330 => 262 | 331 => 305 | 332 => 306 | 215 => 251 | 343 => 312 | n => n, fun | 28 => 35 | 3 => 3 | 46 => 284 | 0 => 0 | 51 => 313 | 53 => 212 | 4 => 4 | 183 => 307 | 182 => 306 | 131 => 253 | 5 => 5 | 9 => 9 | 218 => 328 | 222 => 198 | 228 => 351 | 229 => 96 | n => n, fun | n => n⟩
theorem Tryz.lays189 : Go.Proofs.Lays.n189 Tryz.prog Tryz.lays189_ren := {
  mixed := by kernel_rfl
  f125 := Tryz.func216.trans (congrArg some (by kernel_rfl))
  f128 := Tryz.func249.trans (congrArg some (by kernel_rfl))
  f129 := Tryz.func250.trans (congrArg some (by kernel_rfl))
  f189 := Tryz.func253.trans (congrArg some (by kernel_rfl))
  f215 := Tryz.func251.trans (congrArg some (by kernel_rfl))
  f216 := Tryz.func290.trans (congrArg some (by kernel_rfl))
  f257 := Tryz.func265.trans (congrArg some (by kernel_rfl))
  f294 := Tryz.func284.trans (congrArg some (by kernel_rfl))
  f295 := Tryz.func285.trans (congrArg some (by kernel_rfl))
  f296 := Tryz.func286.trans (congrArg some (by kernel_rfl))
  f297 := Tryz.func287.trans (congrArg some (by kernel_rfl))
  f298 := Tryz.func288.trans (congrArg some (by kernel_rfl))
  f299 := Tryz.func289.trans (congrArg some (by kernel_rfl))
  f300 := Tryz.func291.trans (congrArg some (by kernel_rfl))
  f301 := Tryz.func292.trans (congrArg some (by kernel_rfl))
  f328 := Tryz.func304.trans (congrArg some (by kernel_rfl))
  f329 := Tryz.func261.trans (congrArg some (by kernel_rfl))
  f330 := Tryz.func262.trans (congrArg some (by kernel_rfl))
  f331 := Tryz.func305.trans (congrArg some (by kernel_rfl))
  f332 := Tryz.func306.trans (congrArg some (by kernel_rfl))
  f343 := Tryz.func312.trans (congrArg some (by kernel_rfl))
  t0 := Tryz.underlying0
  a0 := Tryz.isAgg0
  z0 := Tryz.sizeOf0
  v0 := Tryz.zeroValue0
  t3 := Tryz.underlying3
  a3 := Tryz.isAgg3
  z3 := Tryz.sizeOf3
  v3 := Tryz.zeroValue3
  t4 := Tryz.underlying4
  a4 := Tryz.isAgg4
  z4 := Tryz.sizeOf4
  v4 := Tryz.zeroValue4
  t5 := Tryz.underlying5
  a5 := Tryz.isAgg5
  z5 := Tryz.sizeOf5
  v5 := Tryz.zeroValue5
  t9 := Tryz.underlying9
  a9 := Tryz.isAgg9
  z9 := Tryz.sizeOf9
  v9 := Tryz.zeroValue9
  t28 := Tryz.underlying35
  a28 := Tryz.isAgg35
  z28 := Tryz.sizeOf35
  v28 := Tryz.zeroValue35
  t46 := Tryz.underlying284
  a46 := Tryz.isAgg284
  z46 := Tryz.sizeOf284
  v46 := Tryz.zeroValue284
  t51 := Tryz.underlying313
  a51 := Tryz.isAgg313
  z51 := Tryz.sizeOf313
  v51 := Tryz.zeroValue313
  t53 := Tryz.underlying212
  a53 := Tryz.isAgg212
  z53 := Tryz.sizeOf212
  v53 := Tryz.zeroValue212
  t131 := Tryz.underlying253
  a131 := Tryz.isAgg253
  z131 := Tryz.sizeOf253
  v131 := Tryz.zeroValue253
  t182 := Tryz.underlying306
  a182 := Tryz.isAgg306
  z182 := Tryz.sizeOf306
  v182 := Tryz.zeroValue306
  t183 := Tryz.underlying307
  a183 := Tryz.isAgg307
  z183 := Tryz.sizeOf307
  v183 := Tryz.zeroValue307
  t218 := Tryz.underlying328
  a218 := Tryz.isAgg328
  z218 := Tryz.sizeOf328
  v218 := Tryz.zeroValue328
  t222 := Tryz.underlying198
  a222 := Tryz.isAgg198
  z222 := Tryz.sizeOf198
  v222 := Tryz.zeroValue198
  t228 := Tryz.underlying351
  a228 := Tryz.isAgg351
  z228 := Tryz.sizeOf351
  v228 := Tryz.zeroValue351
  t229 := Tryz.underlying96
  a229 := Tryz.isAgg96
  z229 := Tryz.sizeOf96
  v229 := Tryz.zeroValue96 }
open Go.Sort Go.RowKit in
theorem Tryz.slices_Sort_int (blk off cap : Nat) (zs : List Int) (w : World) (hH : Holds (Value.int .i64) w blk off zs.toArray) (hblk : blk < w.heap.size) (hsz : zs.length < 4611686018427387904) :
    Calls Tryz.prog 253 #[.slice (some ⟨blk, off, none⟩) zs.length cap] w fun e w' =>
      e = .returned (.tuple #[]) ∧ ∃ n os, w' = grow (putRow (Value.int .i64) (Sort.ahead w n) blk off (zs.mergeSort fun x y => decide (x ≤ y)).toArray) os := Any.slices_Sort_int Tryz.lays189 blk off cap zs w hH hblk hsz
def Tryz.lays212_ren : Go.Shelf.Ren := ⟨fun | 212 => 267 | 263 => 297 | 264 => 298 | n => n, fun | 46 => 284 | 51 => 313 | 146 => 359 | 53 => 212 | 148 => 361 | n => n, fun | n => n⟩
theorem Tryz.lays212 : Go.Proofs.Lays.n212 Tryz.prog Tryz.lays212_ren := {
  mixed := by kernel_rfl
  f212 := Tryz.func267.trans (congrArg some (by kernel_rfl))
  f263 := Tryz.func297.trans (congrArg some (by kernel_rfl))
  f264 := Tryz.func298.trans (congrArg some (by kernel_rfl))
  t46 := Tryz.underlying284
  a46 := Tryz.isAgg284
  z46 := Tryz.sizeOf284
  v46 := Tryz.zeroValue284
  t51 := Tryz.underlying313
  a51 := Tryz.isAgg313
  z51 := Tryz.sizeOf313
  v51 := Tryz.zeroValue313
  t53 := Tryz.underlying212
  a53 := Tryz.isAgg212
  z53 := Tryz.sizeOf212
  v53 := Tryz.zeroValue212
  t146 := Tryz.underlying359
  a146 := Tryz.isAgg359
  z146 := Tryz.sizeOf359
  v146 := Tryz.zeroValue359
  t148 := Tryz.underlying361
  a148 := Tryz.isAgg361
  z148 := Tryz.sizeOf361
  v148 := Tryz.zeroValue361 }
open Go.RowKit Go.Sort in
/-- .. and plain. (LAID: no walk: one application.) -/
theorem Tryz.slices_Sort_int_none (p : Option Addr) (cap : Nat) (w : World) :
    Calls Tryz.prog 253 #[.slice p 0 cap] w fun e w' => e = .returned (.tuple #[]) ∧ w' = w := Any.slices_Sort_int_none Tryz.lays189 p cap w
end Go.Proofs
