/- Words for memory: a slice that can be read (Row), a row of the call's own (ownsRow) with append laws that carry what lies below; small lemmas. Plain: no program is named. -/
import Derived.WalkKit
import Derived.WalkSpells
import Derived.WalkLawsBesides
import Derived.WalkSmall
import Derived.BigQuiet
import Derived.Deep.QuietTactic
import Derived.Deep.Draws
import Derived.Deep.AppendLies
import Derived.Lib.Hide
import Derived.Deep.DeepCutAuto
import Derived.Deep.CutBlock
import Derived.Deep.Light
import Derived.BigRegion
namespace Go.Proofs.Ytcgopcfbgkhpgaa
open Go.RowKit

/-- A slice's cells, readable: nothing is said where there are none. -/
def Row (w : World) (A : Option Addr) (cs : List Value) : Prop :=
  0 < cs.length → ∃ b o, A = some ⟨b, o, none⟩ ∧ ∀ j u, cs[j]? = some u → w.cell? ⟨b, o + j, none⟩ = some u

theorem Row.none_ (w : World) (A : Option Addr) : Row w A [] := fun h => absurd h (by simp)
theorem Row.keep {w w' : World} {A : Option Addr} {cs : List Value} (h : Row w A cs) (hk : ∀ p u, w.cell? p = some u → w'.cell? p = some u) : Row w' A cs := by
  intro hp
  obtain ⟨b, o, e, hc⟩ := h hp
  exact ⟨b, o, e, fun j u hu => hk _ _ (hc j u hu)⟩
theorem Row.below {w w' : World} {A : Option Addr} {cs : List Value} (h : Row w A cs) (hb : Below w.heap.size w w') : Row w' A cs :=
  h.keep fun p u hu => (hb.cell (World.block_lt_of_cell? w p hu)).trans hu
theorem Row.drewN {w : World} {A : Option Addr} {cs : List Value} (h : Row w A cs) (n : Nat) : Row (w.drewN n) A cs := h
theorem Row.alloc {w : World} {A : Option Addr} {cs : List Value} (h : Row w A cs) (o : Obj) : Row (w.alloc o) A cs :=
  h.below ((Below.refl _ _).alloc (Nat.le_refl _) o)
theorem Row.own {w : World} {base e size n : Nat} {A : Option Addr} {c : Nat} {xs : List Value} (h : w.ownsRow base e size (.slice A n c) n xs) : Row w A xs := by
  intro hp
  rcases h.2 with ⟨_, hn⟩ | ⟨g, cap, cur, hv, _, hg, _, _, _, htake⟩
  · have := h.1; subst hn; simp at this; subst this; simp at hp
  · injection hv with hA
    subst hA
    refine ⟨g, 0, rfl, fun j u hu => ?_⟩
    have := h.cells (g := g) rfl j u hu
    rw [Addr.add_lit] at this
    exact this
/-- An owned row's value is a slice. -/
theorem own_slice {w : World} {base e size n : Nat} {v : Value} {xs : List Value} (h : w.ownsRow base e size v n xs) : ∃ A c, v = .slice A n c ∧ n ≤ c := by
  rcases h.2 with ⟨rfl, rfl⟩ | ⟨g, cap, cur, rfl, _, _, hc, _⟩
  · exact ⟨_, _, rfl, Nat.le_refl _⟩
  · exact ⟨_, _, rfl, hc⟩
theorem own_pos {w : World} {base e size n : Nat} {v : Value} {xs : List Value} (h : w.ownsRow base e size v n xs) (hn : 0 < n) : ∃ g c, v = .slice (some ⟨g, 0, none⟩) n c ∧ n ≤ c ∧ base ≤ g ∧ g < w.heap.size := by
  rcases h.2 with ⟨rfl, rfl⟩ | ⟨g, cap, cur, rfl, hg, hb, hc, _⟩
  · omega
  · exact ⟨_, _, rfl, hc, hg, (Array.getElem?_eq_some_iff.1 hb).1⟩
theorem flatMap_get {α : Type} {f : α → List Value} {n : Nat} (hf : ∀ x, (f x).length = n) : ∀ (xs : List α) (k j : Nat) (hk : k < xs.length), j < n → (xs.flatMap f)[k * n + j]? = (f xs[k])[j]?
  | [], k, j, hk, _ => absurd hk (by simp)
  | x :: xs, 0, j, _, hj => by
    simp only [List.flatMap_cons, Nat.zero_mul, Nat.zero_add, List.getElem_cons_zero]
    rw [List.getElem?_append_left (by rw [hf]; exact hj)]
  | x :: xs, k + 1, j, hk, hj => by
    have e : (k + 1) * n + j = n + (k * n + j) := by rw [Nat.succ_mul]; omega
    simp only [List.flatMap_cons, List.getElem_cons_succ]
    rw [e, List.getElem?_append_right (by rw [hf]; omega), hf, Nat.add_sub_cancel_left]
    exact flatMap_get hf xs k j (by simpa using hk) hj
theorem flatMap_len {α : Type} {f : α → List Value} {n : Nat} (hf : ∀ x, (f x).length = n) : ∀ (xs : List α), (xs.flatMap f).length = xs.length * n
  | [] => by simp
  | x :: xs => by simp only [List.flatMap_cons, List.length_append, List.length_cons, flatMap_len hf xs, hf, Nat.succ_mul]; omega
theorem Row.at_ {α : Type} {f : α → List Value} {n : Nat} {w : World} {A : Option Addr} {xs : List α} (h : Row w A (xs.flatMap f)) (hf : ∀ x, (f x).length = n) (hn : 0 < n) {k : Nat} (hk : k < xs.length) :
    ∃ b o, A = some ⟨b, o, none⟩ ∧ ∀ j u, (f xs[k])[j]? = some u → w.cell? ⟨b, o + k * n + j, none⟩ = some u := by
  obtain ⟨b, o, e, hc⟩ := h (by rw [flatMap_len hf]; exact Nat.mul_pos (by omega) hn)
  refine ⟨b, o, e, fun j u hu => ?_⟩
  have hj : j < n := by
    rw [← hf xs[k]]
    exact (List.getElem?_eq_some_iff.1 hu).1
  rw [Nat.add_assoc]
  exact hc _ _ (by rw [flatMap_get hf xs k j hk hj]; exact hu)
theorem Row.one {w : World} {A : Option Addr} {α : Type} {f : α → Value} {xs : List α} (h : Row w A (xs.map f)) {k : Nat} (hk : k < xs.length) :
    ∃ b o, A = some ⟨b, o, none⟩ ∧ w.cell? ⟨b, o + k, none⟩ = some (f xs[k]) := by
  obtain ⟨b, o, e, hc⟩ := h (by simp; omega)
  exact ⟨b, o, e, hc k _ (by simp [hk])⟩
theorem ret_bool {a b : Bool} (h : a = b) : Ending.returned (.bool a) = .returned (.bool b) := by rw [h]
theorem ret_int {k : IntKind} {a b : Int} (h : a = b) : Ending.returned (.int k a) = .returned (.int k b) := by rw [h]
theorem ret2_bool {v : Value} {a b : Bool} (h : a = b) : Ending.returned (.tuple #[v, .bool a]) = .returned (.tuple #[v, .bool b]) := by rw [h]
theorem ret2_int {v : Value} {k : IntKind} {a b : Int} (h : a = b) : Ending.returned (.tuple #[v, .int k a]) = .returned (.tuple #[v, .int k b]) := by rw [h]
theorem below_cells {B : Nat} {W w1 : World} (hb : Below B W w1) : (∀ b o, b < B → w1.cell? ⟨b, o, none⟩ = W.cell? ⟨b, o, none⟩) ∧ (∀ b o, b < B → w1.frozen? ⟨b, o, none⟩ = W.frozen? ⟨b, o, none⟩) :=
  ⟨fun b o h => hb.cell (p := ⟨b, o, none⟩) h, fun b o h => hb.frozen (p := ⟨b, o, none⟩) h⟩
theorem Below.drewN' {B : Nat} {a w : World} (h : Below B a w) (n : Nat) : Below B a (w.drewN n) := below_drewN h n

/-- What a type's row of the table says: its zero value, its cells, its bytes. -/
def Elem (P : Program) (e : TypeId) (z : Value) (size bytes : Nat) : Prop :=
  (P.info? e).map (fun i => (i.zero, i.size, i.bytes)) = some (some z, size, bytes) ∧ z.cells.size = size ∧ 0 < size

/-- A row of ints told by a function. -/
def fcells (n : Nat) (f : Nat → Int) : List Value := (List.range n).map fun i => .int .i64 (f i)
theorem fcells_len (n : Nat) (f : Nat → Int) : (fcells n f).length = n := by simp [fcells]
theorem fcells_get {n : Nat} (f : Nat → Int) {i : Nat} (h : i < n) : (fcells n f)[i]? = some (.int .i64 (f i)) := by simp [fcells, h]
theorem fcells_set {n : Nat} (f : Nat → Int) (j : Nat) (x : Int) : (fcells n f).set j (.int .i64 x) = fcells n (fun i => if i = j then x else f i) := by
  apply List.ext_getElem?
  intro i
  by_cases hi : i < n
  · by_cases e : i = j
    · subst e; rw [List.getElem?_set_self (by rw [fcells_len]; exact hi), fcells_get _ hi, if_pos rfl]
    · rw [List.getElem?_set_ne (fun h => e h.symm), fcells_get _ hi, fcells_get _ hi, if_neg e]
  · rw [List.getElem?_eq_none (by rw [List.length_set, fcells_len]; omega), List.getElem?_eq_none (by rw [fcells_len]; omega)]
theorem fcells_snoc (n : Nat) (f : Nat → Int) : fcells (n + 1) f = fcells n f ++ [.int .i64 (f n)] := by simp [fcells, List.range_succ]
theorem fcells_congr {n : Nat} {f g : Nat → Int} (h : ∀ i, i < n → f i = g i) : fcells n f = fcells n g := by
  unfold fcells; exact List.map_congr_left fun i hi => by rw [h i (List.mem_range.1 hi)]

/-- two neighbours of an owned row of ints change places -/
theorem swap_own {w : World} {base e g cap n : Nat} {f : Nat → Int} (h : w.ownsRow base e 1 (.slice (some ⟨g, 0, none⟩) n cap) n (fcells n f)) (a b : Nat) (x y : Int) :
    ((w.setCell ⟨g, a, none⟩ (.int .i64 x)).setCell ⟨g, b, none⟩ (.int .i64 y)).ownsRow base e 1 (.slice (some ⟨g, 0, none⟩) n cap) n (fcells n fun i => if i = b then y else if i = a then x else f i) := by
  have h1 := (h.stored a (.int .i64 x)).1
  rw [fcells_set] at h1
  have h2 := (h1.stored b (.int .i64 y)).1
  rw [fcells_set] at h2
  exact h2

section
variable {P : Program} {ops : Array Oper} {rest : List Oper} {o : Oper} {a : Act} {Q : Exit → Act → World → Prop}
variable {base e t size bytes n m : Nat} {z v : Value} {xs : List Value} {W W1 : World} {B : Nat}

/-- append of a slice literal whose block has just been laid. -/
theorem app_lit (s x : Operand) (hgd : o.guard = none) (ho : o.op = .call { callee := .builtin .append, args := #[s, x], argTypes := #[t, t] })
    (I : Elem P e z size bytes) (ht : P.underlying t = some (.slice e)) {cs : Array Value} (hown : W.ownsRow base e size v n xs) (hb : Below B W1 W)
    (hs : a.eval s = v) (hx : a.eval x = .slice (some ⟨W.heap.size, 0, none⟩) m m) (hcs : cs.size = m * size) (h1 : ∀ u ∈ cs.toList, u.oneCell' = true)
    (hlen : (n + m) * bytes ≤ 140737488355328) (hmax : n + m ≤ 140737488355328) (hB : B ≤ base) (hB2 : base ≤ W.heap.size)
    (h : ∀ A' c' w', w'.ownsRow base e size (.slice A' (n + m) c') (n + m) (xs ++ cs.toList) → Below B W1 w' → wpList P ops Q rest (a.put o.dst (.slice A' (n + m) c')) w') :
    wpList P ops Q (o :: rest) a (W.alloc (.cells cs e)) := by
  obtain ⟨hinfo, hzs, hsz⟩ := I
  obtain ⟨i0, hi, hz0, hz1, hz2⟩ := info_parts hinfo
  refine wpList_append_own (W.alloc (.cells cs e)) hgd s x t ho base e i0 z size bytes ht hi hz0 hz1 hz2 hzs hsz v n xs hs (hown.alloc _) ⟨W.heap.size, 0, none⟩ m m cs.toList hx
    (by rw [Array.length_toList]; exact hcs) ?_ h1 (by simp only [maxLen]; omega) hlen (by simp; omega) ?_
  · intro j u hu
    rw [Addr.add_lit]
    have := cell_of_row (W.alloc (.cells cs e)) W.heap.size j cs e (0, 0) (heap_alloc_new W _)
    rw [Nat.zero_add, this]
    simpa using hu
  · intro v' w' hown' hg _
    obtain ⟨A', c', rfl, _⟩ := own_slice hown'
    refine h A' c' w' hown' ?_
    have hb1 : Below B W1 (W.alloc (.cells cs e)) := ⟨hb.os, hb.tape, hb.output, Nat.le_trans hb.size (by simp), fun k hk => (Below.heap_alloc _ _ _ (by omega)).trans (hb.block k hk)⟩
    exact hb1.grown hg (by simp; omega) (fun k hk => by have := (hown.lt k hk).1; omega)
end
end Go.Proofs.Ytcgopcfbgkhpgaa
