/- maps.Keys and slices.Sorted, laid at this program by the kit's tool. -/
import Derived.Shelf.SlIterI.Nil
import Derived.Ground.GgzProg
import Derived.Test.YtcgopcfbgkhpgaaProg
namespace Go.Proofs
open Go.Shelf
def Try.keysA_ren : Go.Shelf.Ren := ⟨fun | 7 => 134 | 10 => 167 | n => n, fun | 23 => 207 | 26 => 3 | 3 => 4 | 28 => 176 | 0 => 0 | 27 => 175 | 33 => 166 | 4 => 4 | n => n, fun | n => n⟩
theorem Try.keysA : Go.Proofs.SlLaysZI.n7 Try.prog Try.keysA_ren := {
  mixed := by kernel_rfl
  f7 := ⟨Try.f134.name, by decide, Try.func134.trans (congrArg some (by kernel_rfl))⟩
  f10 := ⟨Try.f167.name, by decide, Try.func167.trans (congrArg some (by kernel_rfl))⟩
  t0 := Try.underlying0
  a0 := Try.isAgg0
  z0 := Try.sizeOf0
  v0 := Try.zeroValue0
  t4 := Try.underlying4
  a4 := Try.isAgg4
  z4 := Try.sizeOf4
  v4 := Try.zeroValue4
  t23 := Try.underlying207
  a23 := Try.isAgg207
  z23 := Try.sizeOf207
  v23 := Try.zeroValue207
  t26 := Try.underlying3
  a26 := Try.isAgg3
  z26 := Try.sizeOf3
  v26 := Try.zeroValue3
  t27 := Try.underlying175
  a27 := Try.isAgg175
  z27 := Try.sizeOf175
  v27 := Try.zeroValue175
  t28 := Try.underlying176
  a28 := Try.isAgg176
  z28 := Try.sizeOf176
  v28 := Try.zeroValue176
  t33 := Try.underlying166
  a33 := Try.isAgg166
  z33 := Try.sizeOf166
  v33 := Try.zeroValue166 }
def Try.sortedA_ren : Go.Shelf.Ren := ⟨fun | 6 => 133 | 8 => 110 | 9 => 108 | 11 => 155 | 13 => 154 | 12 => 153 | 23 => 188 | 24 => 189 | 14 => 179 | 15 => 180 | 16 => 181 | 17 => 182 | 18 => 183 | 19 => 184 | 20 => 185 | 21 => 186 | 22 => 187 | 25 => 206 | 26 => 207 | 27 => 208 | 28 => 209 | 29 => 210 | 30 => 211 | 31 => 218 | n => n, fun | 26 => 3 | 28 => 176 | 24 => 30 | 0 => 0 | 3 => 3 | 37 => 183 | 48 => 237 | 50 => 240 | 4 => 4 | 40 => 270 | 39 => 269 | 45 => 274 | 5 => 5 | 9 => 9 | 51 => 293 | 55 => 297 | 57 => 302 | 58 => 151 | 33 => 166 | n => n, fun | n => n⟩
theorem Try.sortedA : Go.Proofs.SlLaysZI.n6 Try.prog Try.sortedA_ren := {
  mixed := by kernel_rfl
  f6 := ⟨Try.f133.name, by decide, Try.func133.trans (congrArg some (by kernel_rfl))⟩
  f8 := ⟨Try.f110.name, by decide, Try.func110.trans (congrArg some (by kernel_rfl))⟩
  f11 := ⟨Try.f155.name, by decide, Try.func155.trans (congrArg some (by kernel_rfl))⟩
  t0 := Try.underlying0
  a0 := Try.isAgg0
  z0 := Try.sizeOf0
  v0 := Try.zeroValue0
  t24 := Try.underlying30
  a24 := Try.isAgg30
  z24 := Try.sizeOf30
  v24 := Try.zeroValue30
  t26 := Try.underlying3
  a26 := Try.isAgg3
  z26 := Try.sizeOf3
  v26 := Try.zeroValue3
  t28 := Try.underlying176
  a28 := Try.isAgg176
  z28 := Try.sizeOf176
  v28 := Try.zeroValue176
  i26 := by kernel_rfl }
end Go.Proofs
