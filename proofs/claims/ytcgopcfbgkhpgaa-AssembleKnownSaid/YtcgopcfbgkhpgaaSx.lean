/- A symbolic executor in plain theorems over the kit's 'wp': what slots hold (abstract values), what lies in memory (chunks, by number), and a rule for each operation. No program is named. -/
import Derived.WalkKit
import Derived.WalkSpells
import Derived.WalkLawsBesides
import Derived.WalkSmall
import Derived.Deep.Quiet
import Derived.Deep.Draws
import Derived.Deep.AppendLies
import Derived.Deep.LoopGhost
namespace Go.Proofs.Ytcgopcfbgkhpgaa.Sx
open Go.RowKit

/-- Where a chunk lies: its first cell, how many elements it has room for. -/
structure Loc where
  A : Option Addr
  cap : Nat
def Loc.blk (l : Loc) : Option Nat := l.A.map (·.block)

/-- Abstract values. -/
inductive AV where
  | v (x : Value)
  | ptr (i off : Nat)
  | ept (i z k f : Nat)          -- field f of element k of row i, whose elements have z cells
  | sl (i z off len : Nat)
  | agg (cs : List AV)
  | tup (cs : List AV)
  | fn (f : Fn) (caps : List AV)
  | top

/-- A column of a row: one cell of each element. -/
inductive Col where
  | i (κ : IntKind) (f : Nat → Int)
  | b (f : Nat → Bool)
  | s (f : Nat → ByteArray)
def Col.val : Col → Nat → Value
  | .i κ f, k => .int κ (f k)
  | .b f, k => .bool (f k)
  | .s f, k => .string (f k)

inductive Chunk where
  | box (cs : List AV)
  | ro (n : Nat) (cols : List Col)
  | rw (t : TypeId) (n : Nat) (cols : List Col)
def Chunk.wr : Chunk → Bool
  | .ro _ _ => false
  | _ => true
/-- the cells of a row -/
def rowCells (cols : List Col) (n : Nat) : List Value := (List.range n).flatMap fun k => cols.map (·.val k)

abbrev Env := List (Nat × AV)
abbrev Heap := List (Nat × Chunk)

/-- What a value is, under an assignment of places to numbers. -/
inductive Conc (γ : Nat → Loc) : AV → Value → Prop where
  | v (x : Value) : Conc γ (.v x) x
  | ptr (i off b o : Nat) (h : (γ i).A = some ⟨b, o, none⟩) : Conc γ (.ptr i off) (.pointer (some ⟨b, o + off, none⟩))
  | ept (i z k f b o : Nat) (h : (γ i).A = some ⟨b, o, none⟩) : Conc γ (.ept i z k f) (.pointer (some ⟨b, o + k * z + f, none⟩))
  | sl (i z off len : Nat) (A : Option Addr) (c : Nat) (h0 : off = 0 → A = (γ i).A ∧ c = (γ i).cap) (h1 : 0 < len → ∃ b o, (γ i).A = some ⟨b, o, none⟩ ∧ A = some ⟨b, o + off * z, none⟩) (hc : len ≤ c) : Conc γ (.sl i z off len) (.slice A len c)
  | agg (cs : List AV) (vs : List Value) (hl : cs.length = vs.length) (h : ∀ (j : Nat) (a : AV) (x : Value), cs[j]? = some a → vs[j]? = some x → Conc γ a x) : Conc γ (.agg cs) (.agg vs.toArray)
  | tup (cs : List AV) (vs : List Value) (hl : cs.length = vs.length) (h : ∀ (j : Nat) (a : AV) (x : Value), cs[j]? = some a → vs[j]? = some x → Conc γ a x) : Conc γ (.tup cs) (.tuple vs.toArray)
  | fn (f : Fn) (cs : List AV) (vs : List Value) (hl : cs.length = vs.length) (h : ∀ (j : Nat) (a : AV) (x : Value), cs[j]? = some a → vs[j]? = some x → Conc γ a x) : Conc γ (.fn f cs) (.func f #[] vs.toArray)
  | top (x : Value) : Conc γ .top x

/-- What a chunk says of the memory. -/
def Chunk.ok (γ : Nat → Loc) (l : Loc) (w : World) : Chunk → Prop
  | .box cs => ∃ b o, l.A = some ⟨b, o, none⟩ ∧ ∀ j a, cs[j]? = some a → (∃ x, w.cell? ⟨b, o + j, none⟩ = some x ∧ Conc γ a x) ∧ w.frozen? ⟨b, o + j, none⟩ = false
  | .ro n cols => 0 < n → ∃ b o, l.A = some ⟨b, o, none⟩ ∧ ∀ k j c, k < n → cols[j]? = some c → w.cell? ⟨b, o + k * cols.length + j, none⟩ = some (c.val k)
  | .rw t n cols => w.ownsRow 0 t cols.length (.slice l.A n l.cap) n (rowCells cols n)

/-- Only the blocks of S, of those that were there, may have changed. -/
structure Kept (S : Nat → Prop) (w w' : World) : Prop where
  os : w'.os = w.os
  tape : w'.tape = w.tape
  output : w'.output = w.output
  size : w.heap.size ≤ w'.heap.size
  block : ∀ k, k < w.heap.size → ¬ S k → w'.heap[k]? = w.heap[k]?
theorem Kept.refl (S : Nat → Prop) (w : World) : Kept S w w := ⟨rfl, rfl, rfl, Nat.le_refl _, fun _ _ _ => rfl⟩
theorem Kept.trans {S : Nat → Prop} {a b c : World} (h : Kept S a b) (k : Kept S b c) : Kept S a c :=
  ⟨k.os.trans h.os, k.tape.trans h.tape, k.output.trans h.output, Nat.le_trans h.size k.size, fun i hi hs => (k.block i (Nat.lt_of_lt_of_le hi h.size) hs).trans (h.block i hi hs)⟩

/-- What a call began with: the blocks that it may write, how many numbers came in, and where they lie. -/
structure Base where
  S : Nat → Prop
  K : Nat
  γ0 : Nat → Loc
/-- What is known of the memory. -/
structure HOk (S : Base) (w0 : World) (H : Heap) (γ : Nat → Loc) (w : World) : Prop where
  hp : ∀ i ch, H.lookup i = some ch → ch.ok γ (γ i) w
  sep : ∀ i j ci cj, H.lookup i = some ci → H.lookup j = some cj → i ≠ j → ci.wr = true → ∀ b, (γ i).blk = some b → (γ j).blk ≠ some b
  wrS : ∀ i ci, H.lookup i = some ci → ci.wr = true → ∀ b, (γ i).blk = some b → S.S b ∨ w0.heap.size ≤ b
  lt : ∀ i ci, H.lookup i = some ci → ∀ b, (γ i).blk = some b → b < w.heap.size
  kept : Kept S.S w0 w
  anc : ∀ i, i < S.K → γ i = S.γ0 i
/-- What is known of the slots. -/
def EOk (E : Env) (γ : Nat → Loc) (a : Act) : Prop := ∀ s av, E.lookup s = some av → ∃ x, a.tmps[s]? = some x ∧ Conc γ av x
/-- The state. -/
structure St (S : Base) (w0 : World) (E : Env) (H : Heap) (γ : Nat → Loc) (a : Act) (w : World) : Prop extends HOk S w0 H γ w where
  fr : EOk E γ a
  defers : a.defers = []
end Go.Proofs.Ytcgopcfbgkhpgaa.Sx
