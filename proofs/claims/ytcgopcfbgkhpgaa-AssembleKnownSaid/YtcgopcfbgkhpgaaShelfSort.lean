/- Contracts of the library, laid at this program by the kit's tool. -/
import Derived.Shelf.Strings.Builder1
import Derived.Shelf.Strings.Builder2
import Derived.Shelf.Strings.OnBuilder
import Derived.Shelf.Small.Bits
import Derived.Shelf.Small.Strs
import Derived.Shelf.Small.Wraps
import Derived.Shelf.Strings.BuilderF
import Derived.Shelf.Strings.Builder2Cap
import Derived.Shelf.Strconv.Itoa0
import Derived.Shelf.Strings.Search1
import Derived.Shelf.Sort.Plain
import Derived.Shelf.Strings.Prefix
import Derived.Shelf.Bits.Mul64
import Derived.Shelf.Strings.Repeat
import Derived.Shelf.Slices.Reverse
import Derived.Shelf.Slices.Clone
import Derived.Shelf.Slices.CompactI
import Derived.Shelf.Slices.Cells
import Derived.Shelf.Slices.In.SortNone
import Derived.Test.YtcgopcfbgkhpgaaProg
namespace Go.Proofs
open Go.Shelf
def Try.lays189_ren : Go.Shelf.Ren := ⟨fun | 189 => 108 | 125 => 154 | 257 => 153 | 128 => 188 | 129 => 189 | 294 => 179 | 295 => 180 | 296 => 181 | 297 => 182 | 298 => 183 | 299 => 184 | 216 => 185 | 300 => 186 | 301 => 187 | 328 => 206 | 329 => 207 | 330 => 208 | 331 => 209 | 332 => 210 | 215 => 211 | 343 => 218 | n => n, fun | 28 => 30 | 3 => 3 | 46 => 183 | 0 => 0 | 51 => 237 | 53 => 240 | 4 => 4 | 183 => 270 | 182 => 269 | 131 => 274 | 5 => 5 | 9 => 9 | 218 => 293 | 222 => 297 | 228 => 302 | 229 => 151 | n => n, fun | n => n⟩
theorem Try.lays189 : Go.Proofs.Lays.n189 Try.prog Try.lays189_ren := {
  mixed := by kernel_rfl
  f125 := Try.func154.trans (congrArg some (by kernel_rfl))
  f128 := Try.func188.trans (congrArg some (by kernel_rfl))
  f129 := Try.func189.trans (congrArg some (by kernel_rfl))
  f189 := Try.func108.trans (congrArg some (by kernel_rfl))
  f215 := Try.func211.trans (congrArg some (by kernel_rfl))
  f216 := Try.func185.trans (congrArg some (by kernel_rfl))
  f257 := Try.func153.trans (congrArg some (by kernel_rfl))
  f294 := Try.func179.trans (congrArg some (by kernel_rfl))
  f295 := Try.func180.trans (congrArg some (by kernel_rfl))
  f296 := Try.func181.trans (congrArg some (by kernel_rfl))
  f297 := Try.func182.trans (congrArg some (by kernel_rfl))
  f298 := Try.func183.trans (congrArg some (by kernel_rfl))
  f299 := Try.func184.trans (congrArg some (by kernel_rfl))
  f300 := Try.func186.trans (congrArg some (by kernel_rfl))
  f301 := Try.func187.trans (congrArg some (by kernel_rfl))
  f328 := Try.func206.trans (congrArg some (by kernel_rfl))
  f329 := Try.func207.trans (congrArg some (by kernel_rfl))
  f330 := Try.func208.trans (congrArg some (by kernel_rfl))
  f331 := Try.func209.trans (congrArg some (by kernel_rfl))
  f332 := Try.func210.trans (congrArg some (by kernel_rfl))
  f343 := Try.func218.trans (congrArg some (by kernel_rfl))
  t0 := Try.underlying0
  a0 := Try.isAgg0
  z0 := Try.sizeOf0
  v0 := Try.zeroValue0
  t3 := Try.underlying3
  a3 := Try.isAgg3
  z3 := Try.sizeOf3
  v3 := Try.zeroValue3
  t4 := Try.underlying4
  a4 := Try.isAgg4
  z4 := Try.sizeOf4
  v4 := Try.zeroValue4
  t5 := Try.underlying5
  a5 := Try.isAgg5
  z5 := Try.sizeOf5
  v5 := Try.zeroValue5
  t9 := Try.underlying9
  a9 := Try.isAgg9
  z9 := Try.sizeOf9
  v9 := Try.zeroValue9
  t28 := Try.underlying30
  a28 := Try.isAgg30
  z28 := Try.sizeOf30
  v28 := Try.zeroValue30
  t46 := Try.underlying183
  a46 := Try.isAgg183
  z46 := Try.sizeOf183
  v46 := Try.zeroValue183
  t51 := Try.underlying237
  a51 := Try.isAgg237
  z51 := Try.sizeOf237
  v51 := Try.zeroValue237
  t53 := Try.underlying240
  a53 := Try.isAgg240
  z53 := Try.sizeOf240
  v53 := Try.zeroValue240
  t131 := Try.underlying274
  a131 := Try.isAgg274
  z131 := Try.sizeOf274
  v131 := Try.zeroValue274
  t182 := Try.underlying269
  a182 := Try.isAgg269
  z182 := Try.sizeOf269
  v182 := Try.zeroValue269
  t183 := Try.underlying270
  a183 := Try.isAgg270
  z183 := Try.sizeOf270
  v183 := Try.zeroValue270
  t218 := Try.underlying293
  a218 := Try.isAgg293
  z218 := Try.sizeOf293
  v218 := Try.zeroValue293
  t222 := Try.underlying297
  a222 := Try.isAgg297
  z222 := Try.sizeOf297
  v222 := Try.zeroValue297
  t228 := Try.underlying302
  a228 := Try.isAgg302
  z228 := Try.sizeOf302
  v228 := Try.zeroValue302
  t229 := Try.underlying151
  a229 := Try.isAgg151
  z229 := Try.sizeOf151
  v229 := Try.zeroValue151 }
open Go.Sort Go.RowKit in
theorem Try.slices_Sort_int (blk off cap : Nat) (zs : List Int) (w : World) (hH : Holds (Value.int .i64) w blk off zs.toArray) (hblk : blk < w.heap.size) (hsz : zs.length < 4611686018427387904) :
    Calls Try.prog 108 #[.slice (some ⟨blk, off, none⟩) zs.length cap] w fun e w' =>
      e = .returned (.tuple #[]) ∧ ∃ n os, w' = grow (putRow (Value.int .i64) (Sort.ahead w n) blk off (zs.mergeSort fun x y => decide (x ≤ y)).toArray) os := Any.slices_Sort_int Try.lays189 blk off cap zs w hH hblk hsz
open Go.RowKit Go.Sort in
theorem Try.slices_Sort_int_none (p : Option Addr) (cap : Nat) (w : World) :
    Calls Try.prog 108 #[.slice p 0 cap] w fun e w' => e = .returned (.tuple #[]) ∧ w' = w := Any.slices_Sort_int_none Try.lays189 p cap w
end Go.Proofs
