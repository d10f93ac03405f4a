/- The reckoner: calls of maps.Keys and slices.Sorted of this program, at keys that are ints. -/
import Derived.Test.YtcgopcfbgkhpgaaCtKeys
import Derived.Test.YtcgopcfbgkhpgaaShelfSort
import Derived.Test.YtcgopcfbgkhpgaaShelfKeys
namespace Go.Proofs.Ytcgopcfbgkhpgaa.Ev
open Go.Proofs Go.RowKit Go.Maps Go.Sort Go.Shelf
theorem sortsIn (m : Nat) : AnyZI.SortsIn Try.prog Try.sortedA_ren Fence.wide m :=
  ⟨fun blk off cap ss W hH hblk hsz => callsIn_wide.2 (Try.slices_Sort_int blk off cap ss W hH hblk hsz), fun p cap W => callsIn_wide.2 (Try.slices_Sort_int_none p cap W)⟩
theorem keysCalls (mb : Option Nat) (w : World) : Calls Try.prog 134 #[.map mb] w fun e w' => e = .returned (.func (.func 167) #[] #[.pointer (some ⟨w.heap.size, 0, none⟩)]) ∧ w' = w.alloc (.cells #[.map mb] 207) :=
  callsIn_wide.1 (AnyZI.keys_in Try.keysA Fence.wide 5 trivial rfl mb w)
theorem sortedCalls {H : Type} (Bm b nn : Nat) (D0 : DataW H) (R : Value → Option (DataW H × List MemPlace)) (w : World) (hBm : Bm < w.heap.size) (hm : w.cell? ⟨Bm, 0, none⟩ = some (.map (some b))) (hown : w.ownsMap Try.prog 3 R b nn D0) (hmax : Maps.size D0 ≤ maxLen) (hbytes : Maps.size D0 * 8 ≤ 140737488355328) :
    Calls Try.prog 133 #[.func (.func 167) #[] #[.pointer (some ⟨Bm, 0, none⟩)]] w fun e w' => ∃ (v : Value) (ss : List Int), e = .returned v ∧ ss.Perm (intKeys D0) ∧
      w'.ownsRow w.heap.size 3 1 v ss.length ((ss.mergeSort (fun x y => decide (x ≤ y))).map encZ) ∧ (v = .slice none 0 0 ↔ ss = []) ∧ Below w.heap.size w w' := by
  have hseq : SeqGives Fence.wide 2 Try.prog 167 #[.pointer (some ⟨Bm, 0, none⟩)] encZ (fun ss => ss.Perm (intKeys D0)) (Maps.size D0) w :=
    AnyZI.keys_gives (ρ := Try.keysA_ren) { Try.keysA with } Fence.wide _ trivial rfl (by omega) Bm b nn D0 w hBm hm hown
  exact callsIn_wide.1 (AnyZI.sorted_in Try.sortedA Fence.wide 5 trivial trivial trivial trivial rfl (by omega) (sortsIn _) (enters_of Try.func108 (by kernel_rfl) rfl) 167 #[.pointer (some ⟨Bm, 0, none⟩)] trivial (enters_of Try.func167 (by kernel_rfl) rfl) _ _ hmax hbytes w hseq)
theorem mapsKeysOk : CtOk Try.prog 134 (ctMK 167) := ctMK_ok keysCalls
theorem sortedKeysOk : CtOk Try.prog 133 (ctKeys 167 3) := ctKeys_ok Try.underlying3 sortedCalls
end Go.Proofs.Ytcgopcfbgkhpgaa.Ev
