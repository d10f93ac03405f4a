/- Read-only knowledge: arrays of open length that the run leaves alone. No program is named. -/
import Derived.Test.YtcgopcfbgkhpgaaEv18
namespace Go.Proofs.Ytcgopcfbgkhpgaa.Ev
open Go.RowKit
variable {P : Program} {γ γ' : G} {w0 : Bs} {w : World} {H H' : Tr EK} {n n' : Nat} {T : Tr EV} {cs : List Frame} {fid : FuncId} {FT : Tr FI} {tmps : Array Value} {o : Oper}

/-! ### arrays of open length -/
inductive SyC where
  | ints (k : IntKind) (l : List Int)
def SyC.enc : SyC → List EV
  | .ints k l => l.map fun x => .v (.int k x)
/-- the cell at a place, and whether there is one -/
noncomputable def SyC.cell (c : SyC) (off : Nat) : Bool × EV := match c with
  | .ints k l => (Nat.blt off l.length, .v (.int k (l.getD off 0)))
theorem SyC.cell_ok {c : SyC} {off : Nat} (h : (c.cell off).1 = true) : c.enc[off]? = some (c.cell off).2 := by
  cases c with
  | ints k l =>
    have h1 : off < l.length := blt_lt h
    show (l.map fun x => EV.v (.int k x))[off]? = some (.v (.int k (l.getD off 0)))
    rw [List.getElem?_map, List.getElem?_eq_getElem h1, List.getD_eq_getElem?_getD, List.getElem?_eq_getElem h1]
    rfl
/-- what is known of blocks that the run leaves alone -/
def ROk (γ : G) (w0 : Bs) (RO : Tr (TypeId × SyC)) : Prop := ∀ i ty c, RO.get i = some (ty, c) → ∃ (b : Pl) (m : Nat) (ca : Array Value) (fz : Nat × Nat), γ i = some (b, m) ∧ w0.F b.k ∧ w0.w.heap[b.k]? = some (.cells ca ty fz) ∧ ca.size = b.s + m ∧ c.enc.length ≤ m ∧ ECL γ c.enc ((ca.toList.drop b.s).take c.enc.length)
theorem ROk.mono {RO : Tr (TypeId × SyC)} (hle : GLe γ γ') (h : ROk γ w0 RO) : ROk γ' w0 RO := fun i ty c hi =>
  let ⟨b, m, ca, fz, h1, h2, h3, h4, h5, h6⟩ := h i ty c hi
  ⟨b, m, ca, fz, hle _ _ h1, h2, h3, h4, h5, h6.mono hle⟩
theorem ROk.none (γ : G) (w0 : Bs) : ROk γ w0 .nil := fun i ty c h => by cases h
/-- how quiet operations are run -/
abbrev QF := Tr EV → Oper → Tr EK → Nat → Option EV
end Go.Proofs.Ytcgopcfbgkhpgaa.Ev
