/- Contracts of the library, laid at this program by the kit's tool. -/
import Derived.Shelf.Strings.Builder1
import Derived.Shelf.Strings.Builder2
import Derived.Shelf.Strings.OnBuilder
import Derived.Shelf.Small.Strs
import Derived.Shelf.Strings.BuilderF
import Derived.Shelf.Strings.Search1
import Derived.Shelf.Sort.Plain
import Derived.Shelf.Strings.Prefix
import Derived.Shelf.Bits.Mul64
import Derived.Shelf.Strings.Repeat
import Derived.Shelf.Slices.Reverse
import Derived.Shelf.Slices.Clone
import Derived.Shelf.Slices.CompactI
import Derived.Shelf.Slices.Cells
import Derived.Test.YtcgopcfbgkhpgaaProg
namespace Go.Proofs
open Go.Shelf
def Try.lays156_ren : Go.Shelf.Ren := ⟨fun | 156 => 124 | 165 => 120 | 166 => 121 | 169 => 123 | 240 => 162 | 241 => 163 | 276 => 191 | 277 => 192 | n => n, fun | 31 => 35 | 9 => 9 | 3 => 3 | 4 => 4 | 0 => 0 | 20 => 20 | 72 => 190 | 76 => 194 | 70 => 187 | 37 => 188 | 75 => 193 | 127 => 243 | 164 => 280 | 5 => 5 | 80 => 197 | n => n, fun | n => n⟩
theorem Try.lays156 : Go.Proofs.Lays.n156 Try.prog Try.lays156_ren := {
  mixed := by kernel_rfl
  f156 := Try.func124.trans (congrArg some (by kernel_rfl))
  f165 := Try.func120.trans (congrArg some (by kernel_rfl))
  f166 := Try.func121.trans (congrArg some (by kernel_rfl))
  f169 := Try.func123.trans (congrArg some (by kernel_rfl))
  f240 := Try.func162.trans (congrArg some (by kernel_rfl))
  f241 := Try.func163.trans (congrArg some (by kernel_rfl))
  f276 := Try.func191.trans (congrArg some (by kernel_rfl))
  f277 := Try.func192.trans (congrArg some (by kernel_rfl))
  t0 := Try.underlying0
  a0 := Try.isAgg0
  z0 := Try.sizeOf0
  v0 := Try.zeroValue0
  t3 := Try.underlying3
  a3 := Try.isAgg3
  z3 := Try.sizeOf3
  v3 := Try.zeroValue3
  t4 := Try.underlying4
  a4 := Try.isAgg4
  z4 := Try.sizeOf4
  v4 := Try.zeroValue4
  t9 := Try.underlying9
  a9 := Try.isAgg9
  z9 := Try.sizeOf9
  v9 := Try.zeroValue9
  t20 := Try.underlying20
  a20 := Try.isAgg20
  z20 := Try.sizeOf20
  v20 := Try.zeroValue20
  t31 := Try.underlying35
  a31 := Try.isAgg35
  z31 := Try.sizeOf35
  v31 := Try.zeroValue35
  t37 := Try.underlying188
  a37 := Try.isAgg188
  z37 := Try.sizeOf188
  v37 := Try.zeroValue188
  t70 := Try.underlying187
  a70 := Try.isAgg187
  z70 := Try.sizeOf187
  v70 := Try.zeroValue187
  t72 := Try.underlying190
  a72 := Try.isAgg190
  z72 := Try.sizeOf190
  v72 := Try.zeroValue190
  t75 := Try.underlying193
  a75 := Try.isAgg193
  z75 := Try.sizeOf193
  v75 := Try.zeroValue193
  t76 := Try.underlying194
  a76 := Try.isAgg194
  z76 := Try.sizeOf194
  v76 := Try.zeroValue194
  t127 := Try.underlying243
  a127 := Try.isAgg243
  z127 := Try.sizeOf243
  v127 := Try.zeroValue243
  t164 := Try.underlying280
  a164 := Try.isAgg280
  z164 := Try.sizeOf280
  v164 := Try.zeroValue280 }
theorem Try.Builder_Extra_156 : Builder.Extra Try.prog Try.lays156_ren := {
  sizeBuilder := by kernel_rfl
  liesBuilder := by kernel_rfl
  t5 := Try.underlying5
  a5 := Try.isAgg5
  z5 := Try.sizeOf5
  v5 := Try.zeroValue5
  infoByte := by kernel_rfl
  cellsByte := by kernel_rfl
  sizeByte := by kernel_rfl
  neB5 := by decide }
open Go.RowKit in
theorem Try.strings_Join_none (a : Option Addr) (c : Nat) (sep : ByteArray) (w : World) :
    Calls Try.prog 124 #[.slice a 0 c, .string sep] w fun e w' => e = .returned (.string ⟨#[]⟩) ∧ w' = w := Any.strings_Join_none Try.lays156 Try.Builder_Extra_156 a c sep w
open Go.RowKit in
theorem Try.strings_Join (bk o c : Nat) (xs : List ByteArray) (sep : ByteArray) (w : World) (hcells : ∀ (j : Nat) x, xs[j]? = some x → w.cell? ⟨bk, o + j, none⟩ = some (.string x)) (hbk : bk < w.heap.size) (hN : xs.length ≤ 140737488355328) (hcap : xs.length ≤ c) (hlen : (Lib.join (xs.map (·.data.toList)) sep.data.toList).length ≤ 140737488355328) :
    Calls Try.prog 124 #[.slice (some ⟨bk, o, none⟩) xs.length c, .string sep] w fun e w' => e = .returned (.string ⟨(Lib.join (xs.map (·.data.toList)) sep.data.toList).toArray⟩) ∧ Below w.heap.size w w' := Any.strings_Join Try.lays156 Try.Builder_Extra_156 bk o c xs sep w hcells hbk hN hcap hlen
def Try.lays105_ren : Go.Shelf.Ren := ⟨fun | 105 => 56 | 212 => 118 | 99 => 119 | 165 => 120 | 166 => 121 | 170 => 122 | 169 => 123 | 263 => 159 | 264 => 160 | 206 => 161 | 240 => 162 | 241 => 163 | 276 => 191 | 277 => 192 | n => n, fun | 9 => 9 | 3 => 3 | 4 => 4 | 20 => 20 | 0 => 0 | 46 => 183 | 109 => 184 | 5 => 5 | 72 => 190 | 76 => 194 | 51 => 237 | 146 => 238 | 53 => 240 | 148 => 241 | 70 => 187 | 37 => 188 | 75 => 193 | 127 => 243 | 164 => 280 | 80 => 197 | n => n, fun | n => n⟩
theorem Try.lays105 : Go.Proofs.Lays.n105 Try.prog Try.lays105_ren := {
  mixed := by kernel_rfl
  f99 := Try.func119.trans (congrArg some (by kernel_rfl))
  f105 := Try.func56.trans (congrArg some (by kernel_rfl))
  f165 := Try.func120.trans (congrArg some (by kernel_rfl))
  f166 := Try.func121.trans (congrArg some (by kernel_rfl))
  f169 := Try.func123.trans (congrArg some (by kernel_rfl))
  f170 := Try.func122.trans (congrArg some (by kernel_rfl))
  f206 := Try.func161.trans (congrArg some (by kernel_rfl))
  f212 := Try.func118.trans (congrArg some (by kernel_rfl))
  f240 := Try.func162.trans (congrArg some (by kernel_rfl))
  f241 := Try.func163.trans (congrArg some (by kernel_rfl))
  f263 := Try.func159.trans (congrArg some (by kernel_rfl))
  f264 := Try.func160.trans (congrArg some (by kernel_rfl))
  f276 := Try.func191.trans (congrArg some (by kernel_rfl))
  f277 := Try.func192.trans (congrArg some (by kernel_rfl))
  t0 := Try.underlying0
  a0 := Try.isAgg0
  z0 := Try.sizeOf0
  v0 := Try.zeroValue0
  t3 := Try.underlying3
  a3 := Try.isAgg3
  z3 := Try.sizeOf3
  v3 := Try.zeroValue3
  t4 := Try.underlying4
  a4 := Try.isAgg4
  z4 := Try.sizeOf4
  v4 := Try.zeroValue4
  t5 := Try.underlying5
  a5 := Try.isAgg5
  z5 := Try.sizeOf5
  v5 := Try.zeroValue5
  t9 := Try.underlying9
  a9 := Try.isAgg9
  z9 := Try.sizeOf9
  v9 := Try.zeroValue9
  t20 := Try.underlying20
  a20 := Try.isAgg20
  z20 := Try.sizeOf20
  v20 := Try.zeroValue20
  t37 := Try.underlying188
  a37 := Try.isAgg188
  z37 := Try.sizeOf188
  v37 := Try.zeroValue188
  t46 := Try.underlying183
  a46 := Try.isAgg183
  z46 := Try.sizeOf183
  v46 := Try.zeroValue183
  t51 := Try.underlying237
  a51 := Try.isAgg237
  z51 := Try.sizeOf237
  v51 := Try.zeroValue237
  t53 := Try.underlying240
  a53 := Try.isAgg240
  z53 := Try.sizeOf240
  v53 := Try.zeroValue240
  t70 := Try.underlying187
  a70 := Try.isAgg187
  z70 := Try.sizeOf187
  v70 := Try.zeroValue187
  t72 := Try.underlying190
  a72 := Try.isAgg190
  z72 := Try.sizeOf190
  v72 := Try.zeroValue190
  t75 := Try.underlying193
  a75 := Try.isAgg193
  z75 := Try.sizeOf193
  v75 := Try.zeroValue193
  t76 := Try.underlying194
  a76 := Try.isAgg194
  z76 := Try.sizeOf194
  v76 := Try.zeroValue194
  t109 := Try.underlying184
  a109 := Try.isAgg184
  z109 := Try.sizeOf184
  v109 := Try.zeroValue184
  t127 := Try.underlying243
  a127 := Try.isAgg243
  z127 := Try.sizeOf243
  v127 := Try.zeroValue243
  t146 := Try.underlying238
  a146 := Try.isAgg238
  z146 := Try.sizeOf238
  v146 := Try.zeroValue238
  t148 := Try.underlying241
  a148 := Try.isAgg241
  z148 := Try.sizeOf241
  v148 := Try.zeroValue241
  t164 := Try.underlying280
  a164 := Try.isAgg280
  z164 := Try.sizeOf280
  v164 := Try.zeroValue280 }
theorem Try.Builder_Extra_105 : Builder.Extra Try.prog Try.lays105_ren := {
  sizeBuilder := by kernel_rfl
  liesBuilder := by kernel_rfl
  t5 := Try.underlying5
  a5 := Try.isAgg5
  z5 := Try.sizeOf5
  v5 := Try.zeroValue5
  infoByte := by kernel_rfl
  cellsByte := by kernel_rfl
  sizeByte := by kernel_rfl
  neB5 := by decide }
open Go.RowKit Go.Lib in
theorem Try.strings_Repeat (s : ByteArray) (c : Nat) (w : World) (hc : c ≤ 9223372036854775807) (hlen : s.size * c ≤ 140737488355328) :
    Calls Try.prog 56 #[.string s, .int .i64 c] w fun e w' => e = .returned (.string ⟨(Lib.repeatL s.data.toList c).toArray⟩) ∧ Below w.heap.size w w' := Any.strings_Repeat Try.lays105 Try.Builder_Extra_105 s c w hc hlen
end Go.Proofs
