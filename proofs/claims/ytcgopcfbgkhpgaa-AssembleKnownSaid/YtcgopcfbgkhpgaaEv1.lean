/- A reckoner for closed calls: what values, frames and memory it speaks of, and what that means for the machine. No program is named. -/
import Derived.WalkKit
import Derived.AtR
import Derived.RangeFuncRecord
import Derived.MapKept
namespace Go.Proofs.Ytcgopcfbgkhpgaa.Ev
open Go.RowKit

/-- a choice that the kernel reckons at once -/
noncomputable def bc {α : Type} (b : Bool) (x y : α) : α := Bool.rec y x b
theorem bc_eq {α : Type} (b : Bool) (x y : α) : bc b x y = if b = true then x else y := by cases b <;> rfl

/-! ### tables -/
inductive Tr (α : Type) where
  | nil
  | node (v : Option α) (l r : Tr α)
noncomputable def Tr.get {α : Type} (t : Tr α) : Nat → Option α :=
  Tr.rec (motive := fun _ => Nat → Option α) (fun _ => none)
    (fun v _ _ gl gr n => Bool.rec (Bool.rec (gr (Nat.div n 2)) (gl (Nat.div n 2)) (Nat.beq (Nat.mod n 2) 0)) v (Nat.beq n 0)) t
noncomputable def Tr.set {α : Type} (f : Nat) : Tr α → Nat → Option α → Tr α :=
  Nat.rec (motive := fun _ => Tr α → Nat → Option α → Tr α) (fun t _ _ => t)
    (fun _ ih t n x => Tr.rec (motive := fun _ => Tr α)
      (Bool.rec (Bool.rec (.node none .nil (ih .nil (Nat.div n 2) x)) (.node none (ih .nil (Nat.div n 2) x) .nil) (Nat.beq (Nat.mod n 2) 0)) (.node x .nil .nil) (Nat.beq n 0))
      (fun v l r _ _ => Bool.rec (Bool.rec (.node v l (ih r (Nat.div n 2) x)) (.node v (ih l (Nat.div n 2) x) r) (Nat.beq (Nat.mod n 2) 0)) (.node x l r) (Nat.beq n 0)) t) f
section
variable {α : Type}
theorem Tr.get_nil (n : Nat) : (Tr.nil : Tr α).get n = none := rfl
theorem Tr.get_node (v : Option α) (l r : Tr α) (n : Nat) : (Tr.node v l r).get n = if n = 0 then v else if n % 2 = 0 then l.get (n / 2) else r.get (n / 2) := by
  show (Bool.rec (Bool.rec (r.get (n / 2)) (l.get (n / 2)) (Nat.beq (n % 2) 0)) v (Nat.beq n 0) : Option α) = _
  have h1 : Nat.beq n 0 = decide (n = 0) := by cases n <;> rfl
  have h2 : Nat.beq (n % 2) 0 = decide (n % 2 = 0) := by cases n % 2 <;> rfl
  rw [h1, h2]
  by_cases e1 : n = 0
  · simp [e1]
  · by_cases e2 : n % 2 = 0 <;> simp [e1, e2]
theorem Tr.set_zero (t : Tr α) (n : Nat) (x : Option α) : Tr.set 0 t n x = t := rfl
theorem Tr.set_nil (f n : Nat) (x : Option α) : Tr.set (f + 1) .nil n x = if n = 0 then .node x .nil .nil else if n % 2 = 0 then .node none (Tr.set f .nil (n / 2) x) .nil else .node none .nil (Tr.set f .nil (n / 2) x) := by
  show (Bool.rec (Bool.rec (.node none .nil (Tr.set f .nil (n / 2) x)) (.node none (Tr.set f .nil (n / 2) x) .nil) (Nat.beq (n % 2) 0)) (.node x .nil .nil) (Nat.beq n 0) : Tr α) = _
  have h1 : Nat.beq n 0 = decide (n = 0) := by cases n <;> rfl
  have h2 : Nat.beq (n % 2) 0 = decide (n % 2 = 0) := by cases n % 2 <;> rfl
  rw [h1, h2]
  by_cases e1 : n = 0
  · simp [e1]
  · by_cases e2 : n % 2 = 0 <;> simp [e1, e2]
theorem Tr.set_node (f : Nat) (v : Option α) (l r : Tr α) (n : Nat) (x : Option α) : Tr.set (f + 1) (.node v l r) n x = if n = 0 then .node x l r else if n % 2 = 0 then .node v (Tr.set f l (n / 2) x) r else .node v l (Tr.set f r (n / 2) x) := by
  show (Bool.rec (Bool.rec (.node v l (Tr.set f r (n / 2) x)) (.node v (Tr.set f l (n / 2) x) r) (Nat.beq (n % 2) 0)) (.node x l r) (Nat.beq n 0) : Tr α) = _
  have h1 : Nat.beq n 0 = decide (n = 0) := by cases n <;> rfl
  have h2 : Nat.beq (n % 2) 0 = decide (n % 2 = 0) := by cases n % 2 <;> rfl
  rw [h1, h2]
  by_cases e1 : n = 0
  · simp [e1]
  · by_cases e2 : n % 2 = 0 <;> simp [e1, e2]
theorem Tr.get_set : ∀ (f : Nat) (t : Tr α) (n : Nat) (x : Option α) (m : Nat), n < 2 ^ f → (Tr.set (f + 1) t n x).get m = if m = n then x else t.get m
  | 0, t, n, x, m, h => by
    have : n = 0 := by omega
    subst this
    cases t with
    | nil => rw [Tr.set_nil, if_pos rfl, Tr.get_node]; simp [Tr.get_nil]
    | node v l r => rw [Tr.set_node, if_pos rfl, Tr.get_node, Tr.get_node]; by_cases e : m = 0 <;> simp [e]
  | f + 1, t, n, x, m, h => by
    have hlt : n / 2 < 2 ^ f := by rw [Nat.pow_succ] at h; omega
    have key : ∀ t2 : Tr α, ∀ m2, (Tr.set (f + 1) t2 (n / 2) x).get m2 = if m2 = n / 2 then x else t2.get m2 := fun t2 m2 => Tr.get_set f t2 (n / 2) x m2 hlt
    cases t with
    | nil =>
      rw [Tr.set_nil]
      by_cases e1 : n = 0
      · rw [if_pos e1, Tr.get_node]; subst e1; simp [Tr.get_nil]
      · rw [if_neg e1]
        by_cases e2 : n % 2 = 0
        · rw [if_pos e2, Tr.get_node, key]; simp only [Tr.get_nil]
          by_cases e3 : m = 0
          · rw [if_pos e3, if_neg (by omega)]
          · rw [if_neg e3]
            by_cases e4 : m % 2 = 0
            · rw [if_pos e4]; by_cases e5 : m = n
              · rw [if_pos e5, if_pos (by omega)]
              · rw [if_neg e5, if_neg (by omega)]
            · rw [if_neg e4, if_neg (by omega)]
        · rw [if_neg e2, Tr.get_node, key]; simp only [Tr.get_nil]
          by_cases e3 : m = 0
          · rw [if_pos e3, if_neg (by omega)]
          · rw [if_neg e3]
            by_cases e4 : m % 2 = 0
            · rw [if_pos e4, if_neg (by omega)]
            · rw [if_neg e4]; by_cases e5 : m = n
              · rw [if_pos e5, if_pos (by omega)]
              · rw [if_neg e5, if_neg (by omega)]
    | node v l r =>
      rw [Tr.set_node]
      by_cases e1 : n = 0
      · rw [if_pos e1, Tr.get_node, Tr.get_node]; subst e1; by_cases e : m = 0 <;> simp [e]
      · rw [if_neg e1]
        by_cases e2 : n % 2 = 0
        · rw [if_pos e2, Tr.get_node, Tr.get_node, key]
          by_cases e3 : m = 0
          · rw [if_pos e3, if_neg (by omega), if_pos e3]
          · rw [if_neg e3, if_neg e3]
            by_cases e4 : m % 2 = 0
            · rw [if_pos e4, if_pos e4]; by_cases e5 : m = n
              · rw [if_pos e5, if_pos (by omega)]
              · rw [if_neg e5, if_neg (by omega)]
            · rw [if_neg e4, if_neg e4, if_neg (by omega)]
        · rw [if_neg e2, Tr.get_node, Tr.get_node, key]
          by_cases e3 : m = 0
          · rw [if_pos e3, if_neg (by omega), if_pos e3]
          · rw [if_neg e3, if_neg e3]
            by_cases e4 : m % 2 = 0
            · rw [if_pos e4, if_pos e4, if_neg (by omega)]
            · rw [if_neg e4, if_neg e4]; by_cases e5 : m = n
              · rw [if_pos e5, if_pos (by omega)]
              · rw [if_neg e5, if_neg (by omega)]
/-- a table's cell is written: numbers below 2^16 -/
noncomputable def Tr.put (t : Tr α) (n : Nat) (x : Option α) : Tr α := Tr.set 17 t n x
theorem Tr.get_put {t : Tr α} {n : Nat} {x : Option α} {m : Nat} (h : Nat.ble n 65535 = true) : (t.put n x).get m = if m = n then x else t.get m :=
  Tr.get_set 16 t n x m (by have := Nat.le_of_ble_eq_true h; omega)
end

/-! ### values -/
inductive EV where
  | v (x : Value)
  | ptr (i off : Nat)
  | sl (i z off len : Nat) (cap : Option Nat)
  | agg (cs : List EV)
  | tup (cs : List EV)
  | fn (f : FuncId) (caps : List EV)
  | yl (i : Nat)
  | mp (i : Nat)
  | slE (i z off : Nat)     -- no elements; what room there is, and where it is if there is any, is not known but that it ends where the block ends
  | mt (f : FuncId) (first : List EV)     -- a function with its first arguments
/-- a part of a block: from a cell on -/
structure Pl where
  k : Nat
  s : Nat
def Pl.at (p : Pl) (off : Nat) : Addr := ⟨p.k, p.s + off, none⟩
/-- where a number's block lies, and how many cells it has -/
abbrev G := Nat → Option (Pl × Nat)
inductive EC (γ : G) : EV → Value → Prop where
  | v (x : Value) : EC γ (.v x) x
  | ptr (i off : Nat) (b : Pl) (n : Nat) (h : γ i = some (b, n)) : EC γ (.ptr i off) (.pointer (some (b.at off)))
  | sl (i z off len : Nat) (cap : Option Nat) (b : Pl) (n c : Nat) (h : γ i = some (b, n)) (hl : len ≤ c) (hm : c ≤ maxLen) (hn : off + c * z ≤ n) (hc : ∀ k, cap = some k → c = k) (hu : cap = none → off + c * z = n) : EC γ (.sl i z off len cap) (.slice (some (b.at off)) len c)
  | agg (cs : List EV) (vs : List Value) (hl : cs.length = vs.length) (h : ∀ (j : Nat) (a : EV) (x : Value), cs[j]? = some a → vs[j]? = some x → EC γ a x) : EC γ (.agg cs) (.agg vs.toArray)
  | tup (cs : List EV) (vs : List Value) (hl : cs.length = vs.length) (h : ∀ (j : Nat) (a : EV) (x : Value), cs[j]? = some a → vs[j]? = some x → EC γ a x) : EC γ (.tup cs) (.tuple vs.toArray)
  | fn (f : FuncId) (cs : List EV) (vs : List Value) (hl : cs.length = vs.length) (h : ∀ (j : Nat) (a : EV) (x : Value), cs[j]? = some a → vs[j]? = some x → EC γ a x) : EC γ (.fn f cs) (.func (.func f) #[] vs.toArray)
  | yl (i : Nat) (b : Pl) (n : Nat) (h : γ i = some (b, n)) : EC γ (.yl i) (.func (.yield b.k) #[] #[])
  | mp (i : Nat) (b : Pl) (n : Nat) (h : γ i = some (b, n)) : EC γ (.mp i) (.map (some b.k))
  | mt (f : FuncId) (cs : List EV) (vs : List Value) (hl : cs.length = vs.length) (h : ∀ (j : Nat) (a : EV) (x : Value), cs[j]? = some a → vs[j]? = some x → EC γ a x) : EC γ (.mt f cs) (.func (.func f) vs.toArray #[])
  | slE (i z off : Nat) (b : Pl) (n c off' : Nat) (h : γ i = some (b, n)) (hm : c ≤ maxLen) (hn : 0 < c → off' = off ∧ off + c * z = n) : EC γ (.slE i z off) (.slice (some (b.at off')) 0 c)
/-- a place is known on -/
def GLe (γ γ' : G) : Prop := ∀ i p, γ i = some p → γ' i = some p
theorem GLe.refl (γ : G) : GLe γ γ := fun _ _ h => h
theorem GLe.trans {a b c : G} (h : GLe a b) (k : GLe b c) : GLe a c := fun i p e => k i p (h i p e)
theorem EC.mono {γ γ' : G} (hle : GLe γ γ') {a : EV} {x : Value} (h : EC γ a x) : EC γ' a x := by
  induction h with
  | v x => exact .v x
  | ptr i off b n h => exact .ptr i off b n (hle _ _ h)
  | sl i z off len cap b n c h hl hm hn hc hu => exact .sl i z off len cap b n c (hle _ _ h) hl hm hn hc hu
  | agg cs vs hl _ ih => exact .agg cs vs hl ih
  | tup cs vs hl _ ih => exact .tup cs vs hl ih
  | fn f cs vs hl _ ih => exact .fn f cs vs hl ih
  | yl i b n h => exact .yl i b n (hle _ _ h)
  | mp i b n h => exact .mp i b n (hle _ _ h)
  | slE i z off b n c off' h hm hn => exact .slE i z off b n c off' (hle _ _ h) hm hn
  | mt f cs vs hl _ ih => exact .mt f cs vs hl ih
/-- lists of values -/
def ECL (γ : G) (cs : List EV) (vs : List Value) : Prop := cs.length = vs.length ∧ ∀ (j : Nat) (a : EV) (x : Value), cs[j]? = some a → vs[j]? = some x → EC γ a x
theorem ECL.mono {γ γ' : G} (hle : GLe γ γ') {cs : List EV} {vs : List Value} (h : ECL γ cs vs) : ECL γ' cs vs := ⟨h.1, fun j a x ha hx => (h.2 j a x ha hx).mono hle⟩
theorem ECL.nil (γ : G) : ECL γ [] [] := ⟨rfl, fun j a x h => by simp at h⟩
theorem ECL.cons {γ : G} {a : EV} {x : Value} {cs : List EV} {vs : List Value} (h : EC γ a x) (hr : ECL γ cs vs) : ECL γ (a :: cs) (x :: vs) :=
  ⟨by simp [hr.1], fun j b y hb hy => by
    cases j with
    | zero => simp at hb hy; subst hb hy; exact h
    | succ j => exact hr.2 j b y (by simpa using hb) (by simpa using hy)⟩
theorem ECL.inv {γ : G} {a : EV} {cs : List EV} {vs : List Value} (h : ECL γ (a :: cs) vs) : ∃ x ys, vs = x :: ys ∧ EC γ a x ∧ ECL γ cs ys := by
  cases vs with
  | nil => have := h.1; simp at this
  | cons x ys => exact ⟨x, ys, rfl, h.2 0 a x rfl rfl, by simpa using h.1, fun j b y hb hy => h.2 (j + 1) b y (by simpa using hb) (by simpa using hy)⟩
theorem ECL.at {γ : G} {cs : List EV} {vs : List Value} (h : ECL γ cs vs) {j : Nat} {a : EV} (ha : cs[j]? = some a) : ∃ x, vs[j]? = some x ∧ EC γ a x := by
  have hlt : j < vs.length := by rw [← h.1]; exact (List.getElem?_eq_some_iff.1 ha).1
  exact ⟨vs[j], by simp [hlt], h.2 j a _ ha (by simp [hlt])⟩
theorem ECL.append {γ : G} {cs ds : List EV} {vs ws : List Value} (h : ECL γ cs vs) (k : ECL γ ds ws) : ECL γ (cs ++ ds) (vs ++ ws) :=
  ⟨by simp [h.1, k.1], fun j a x ha hx => by
    rcases Nat.lt_or_ge j cs.length with hj | hj
    · rw [List.getElem?_append_left hj] at ha
      rw [List.getElem?_append_left (by rw [← h.1]; exact hj)] at hx
      exact h.2 j a x ha hx
    · rw [List.getElem?_append_right hj] at ha
      rw [List.getElem?_append_right (by rw [← h.1]; exact hj), ← h.1] at hx
      exact k.2 _ a x ha hx⟩
theorem ECL.take {γ : G} {cs : List EV} {vs : List Value} (h : ECL γ cs vs) (n : Nat) : ECL γ (cs.take n) (vs.take n) :=
  ⟨by simp [h.1], fun j a x ha hx => by
    rw [List.getElem?_take] at ha hx
    by_cases e : j < n
    · rw [if_pos e] at ha hx; exact h.2 j a x ha hx
    · rw [if_neg e] at ha; simp at ha⟩
theorem ECL.drop {γ : G} {cs : List EV} {vs : List Value} (h : ECL γ cs vs) (n : Nat) : ECL γ (cs.drop n) (vs.drop n) :=
  ⟨by simp [h.1], fun j a x ha hx => by
    rw [List.getElem?_drop] at ha hx
    exact h.2 _ a x ha hx⟩
theorem ECL.vals (γ : G) (zs : List Value) : ECL γ (zs.map .v) zs :=
  ⟨by simp, fun j a x ha hx => by rw [List.getElem?_map, hx] at ha; simp at ha; subst ha; exact .v x⟩

/-- what a map holds, in whatever order -/
inductive ML (γ : G) : List (Value × EV) → List (Value × Value) → Prop where
  | nil : ML γ [] []
  | cons (k : Value) {a : EV} {x : Value} {es : List (Value × EV)} {l : List (Value × Value)} (h : EC γ a x) (r : ML γ es l) : ML γ ((k, a) :: es) ((k, x) :: l)
theorem ML.mono {γ γ' : G} (hle : GLe γ γ') {es : List (Value × EV)} {l : List (Value × Value)} (h : ML γ es l) : ML γ' es l := by
  induction h with
  | nil => exact .nil
  | cons k h _ ih => exact .cons k (h.mono hle) ih
def kvs (ents : Array MapEntry) : List (Value × Value) := ents.toList.map fun e => (e.key, e.val)
/-! ### memory -/
inductive EK where
  | cells (ty : TypeId) (cs : List EV) (full : Bool)
  | loop (st : LoopState) (pend : Option Code) (fn : FuncId) (N : Nat) (T : Tr EV) (ps : Array Tmp) (assign body : Code) (dfr : Nat)
  | dfr (op : Bool)
  | arr (ty : TypeId) (T : Tr EV) (len : Nat)     -- many cells
  | mp (es : List (Value × EV))     -- a map
  | mbox (j : Nat)     -- a new variable that holds a map
/-- what slots hold -/
def TOk (γ : G) (T : Tr EV) (tmps : Array Value) : Prop := ∀ s a, T.get s = some a → ∃ x, tmps[s]? = some x ∧ EC γ a x
theorem TOk.mono {γ γ' : G} (hle : GLe γ γ') {T : Tr EV} {tmps : Array Value} (h : TOk γ T tmps) : TOk γ' T tmps := fun s a hs => let ⟨x, hx, hc⟩ := h s a hs; ⟨x, hx, hc.mono hle⟩
/-- a block of cells; what of it is frozen lies behind its cells -/
def Cl (w : World) (k : Nat) (c : Array Value) (ty : TypeId) : Prop := ∃ fz : Nat × Nat, w.heap[k]? = some (.cells c ty fz) ∧ (fz = (0, 0) ∨ c.size ≤ fz.1)
theorem Cl.of {w : World} {k : Nat} {c : Array Value} {ty : TypeId} (h : w.heap[k]? = some (.cells c ty (0, 0))) : Cl w k c ty := ⟨_, h, .inl rfl⟩
theorem Cl.mono {w w' : World} {k : Nat} {c : Array Value} {ty : TypeId} (hb : w'.heap[k]? = w.heap[k]?) (h : Cl w k c ty) : Cl w' k c ty := let ⟨fz, h1, h2⟩ := h; ⟨fz, hb.trans h1, h2⟩
theorem Cl.lt {w : World} {k : Nat} {c : Array Value} {ty : TypeId} (h : Cl w k c ty) : k < w.heap.size := let ⟨_, h1, _⟩ := h; (Array.getElem?_eq_some_iff.1 h1).1
def EK.ok (γ : G) (b : Pl) (n : Nat) (w : World) : EK → Prop
  | .cells ty cs full => ∃ c : Array Value, Cl w b.k c ty ∧ c.size = b.s + n ∧ cs.length ≤ n ∧ (full = true → cs.length = n) ∧ ECL γ cs ((c.toList.drop b.s).take cs.length)
  | .loop st pend fn N T ps assign body dd => ∃ (tmps : Array Value) (d : Pl) (m : Nat), w.heap[b.k]? = some (.loop { state := st, pending := pend, fn, tmps, params := ps, assign, body, defers := d.k }) ∧ tmps.size = N ∧ TOk γ T tmps ∧ γ dd = some (d, m)
  | .arr ty T len => ∃ c : Array Value, Cl w b.k c ty ∧ c.size = b.s + n ∧ len = n ∧ ∀ j a, j < len → T.get j = some a → ∃ x, c[b.s + j]? = some x ∧ EC γ a x
  | .dfr op => w.heap[b.k]? = some (.deferred (if op then some [] else none))
  | .mp es => ∃ (ents : Array MapEntry) (clock : Nat) (l : List (Value × Value)), w.heap[b.k]? = some (.map ents clock) ∧ MapKept.Stamped ents clock ∧ (kvs ents).Perm l ∧ ML γ es l
  | .mbox j => b.s = 0 ∧ ∃ (ty : TypeId) (mb : Pl) (m : Nat), w.heap[b.k]? = some (.cells #[.map (some mb.k)] ty (0, 0)) ∧ γ j = some (mb, m)
theorem EK.ok_mono {γ γ' : G} (hle : GLe γ γ') {b : Pl} {n : Nat} {w w' : World} (hb : w'.heap[b.k]? = w.heap[b.k]?) {k : EK} (h : k.ok γ b n w) : k.ok γ' b n w' := by
  cases k with
  | cells ty cs full => obtain ⟨c, h1, h2, h3, h4, h5⟩ := h; exact ⟨c, h1.mono hb, h2, h3, h4, h5.mono hle⟩
  | loop st pend fn N T ps assign body dd => obtain ⟨t, d, m, h1, h2, h3, h4⟩ := h; exact ⟨t, d, m, hb.trans h1, h2, h3.mono hle, hle _ _ h4⟩
  | dfr op => exact Eq.trans hb h
  | mp es => obtain ⟨ents, clock, l, h1, h2, h3, h4⟩ := h; exact ⟨ents, clock, l, hb.trans h1, h2, h3, h4.mono hle⟩
  | mbox j => obtain ⟨h0, ty, mb, m, h1, h2⟩ := h; exact ⟨h0, ty, mb, m, hb.trans h1, hle _ _ h2⟩
  | arr ty T len => obtain ⟨c, h1, h2, h3, h4⟩ := h; exact ⟨c, h1.mono hb, h2, h3, fun j a hj ha => let ⟨x, hx, hc⟩ := h4 j a hj ha; ⟨x, hx, hc.mono hle⟩⟩
/-- nothing that was there has turned -/
structure Stays (w w' : World) : Prop where
  os : w'.os = w.os
  tape : w'.tape = w.tape
  output : w'.output = w.output
  size : w.heap.size ≤ w'.heap.size
  block : ∀ k, k < w.heap.size → w'.heap[k]? = w.heap[k]?
theorem Stays.refl (w : World) : Stays w w := ⟨rfl, rfl, rfl, Nat.le_refl _, fun _ _ => rfl⟩
/-- what a run leaves alone: the blocks of F, as they are in w; numbers that it may not use -/
structure Bs where
  w : World
  F : Nat → Prop
  lt : ∀ k, F k → k < w.heap.size
  res : Nat → Prop
def Bs.of (w : World) : Bs := ⟨w, fun k => k < w.heap.size, fun _ h => h, fun _ => False⟩
structure Bs.Stays (B : Bs) (w' : World) : Prop where
  os : w'.os = B.w.os
  tape : w'.tape = B.w.tape
  output : w'.output = B.w.output
  size : B.w.heap.size ≤ w'.heap.size
  block : ∀ k, B.F k → w'.heap[k]? = B.w.heap[k]?
theorem staysOf {w w' : World} (h : (Bs.of w).Stays w') : Stays w w' := ⟨h.os, h.tape, h.output, h.size, h.block⟩
structure HR (γ : G) (w0 : Bs) (H : Tr EK) (n : Nat) (w : World) : Prop where
  hp : ∀ i k, H.get i = some k → ∃ b m, γ i = some (b, m) ∧ ¬ w0.F b.k ∧ k.ok γ b m w
  inj : ∀ i j ki kj, H.get i = some ki → H.get j = some kj → i ≠ j → ∀ bi bj, γ i = some bi → γ j = some bj → bi.1.k ≠ bj.1.k
  fresh : ∀ i, n ≤ i → γ i = none
  rsv : ∀ i, w0.res i → γ i = none ∧ i < n
  lt : ∀ i p, γ i = some p → p.1.k < w.heap.size
  stays : w0.Stays w
theorem HR.congr {γ : G} {w0 : Bs} {H K : Tr EK} {n : Nat} {w : World} (h : HR γ w0 H n w) (e : ∀ b k, K.get b = some k → H.get b = some k) : HR γ w0 K n w :=
  ⟨fun i k hk => h.hp i k (e _ _ hk), fun i j ki kj hi hj => h.inj i j ki kj (e _ _ hi) (e _ _ hj), h.fresh, h.rsv, h.lt, h.stays⟩
theorem HR.notF {γ : G} {w0 : Bs} {H : Tr EK} {n : Nat} {w : World} (h : HR γ w0 H n w) {k : Nat} (hk : w.heap.size ≤ k) : ¬ w0.F k := fun hf => by
  have h1 := w0.lt k hf
  have h2 := h.stays.size
  omega
theorem HR.step {γ : G} {w0 : Bs} {w w' : World} {H : Tr EK} {n : Nat} (h : HR γ w0 H n w) (hh : w'.heap = w.heap) (ho : w'.os = w.os) (ht : w'.tape = w.tape) (hout : w'.output = w.output) : HR γ w0 H n w' :=
  ⟨fun i k hk => let ⟨b, m, h1, h2, h3⟩ := h.hp i k hk; ⟨b, m, h1, h2, EK.ok_mono (GLe.refl _) (by rw [hh]) h3⟩, h.inj, h.fresh, h.rsv, fun i p e => by rw [hh]; exact h.lt i p e,
    ⟨ho.trans h.stays.os, ht.trans h.stays.tape, hout.trans h.stays.output, by rw [hh]; exact h.stays.size, fun k hk => by rw [hh]; exact h.stays.block k hk⟩⟩
/-- a number is given a place -/
def G.upd (γ : G) (i : Nat) (p : Pl × Nat) : G := fun j => if j = i then some p else γ j
theorem G.upd_le {γ : G} {i : Nat} {p : Pl × Nat} (h : γ i = none) : GLe γ (γ.upd i p) := fun j q e => by
  unfold G.upd
  by_cases ej : j = i
  · subst ej; rw [h] at e; cases e
  · rw [if_neg ej]; exact e
theorem G.upd_same {γ : G} {i : Nat} {p : Pl × Nat} : γ.upd i p i = some p := by simp [G.upd]
theorem G.upd_ne {γ : G} {i j : Nat} {p : Pl × Nat} (h : j ≠ i) : γ.upd i p j = γ j := by simp [G.upd, h]
/-- a new block -/
theorem HR.new {γ : G} {w0 : Bs} {w w' : World} {H : Tr EK} {n : Nat} (h : HR γ w0 H n w) (hn : Nat.ble n 65535 = true) (o : Obj) (m : Nat) (k : EK) (hh : w'.heap = w.heap.push o) (ho : w'.os = w.os) (ht : w'.tape = w.tape) (hout : w'.output = w.output)
    (hk : k.ok (γ.upd n (⟨w.heap.size, 0⟩, m)) ⟨w.heap.size, 0⟩ m w') : HR (γ.upd n (⟨w.heap.size, 0⟩, m)) w0 (H.put n (some k)) (n + 1) w' := by
  have hle : GLe γ (γ.upd n (⟨w.heap.size, 0⟩, m)) := G.upd_le (h.fresh n (Nat.le_refl _))
  have hold : ∀ b, b < w.heap.size → w'.heap[b]? = w.heap[b]? := fun b hb => by rw [hh, Array.getElem?_push_lt hb]; simp [hb]
  refine ⟨fun i ki hi => ?_, fun i j ki kj hi hj hne bi bj ei ej => ?_, fun i hi => ?_, fun i hi => ?_, fun i p e => ?_, ?_⟩
  · rw [Tr.get_put hn] at hi
    by_cases e : i = n
    · rw [if_pos e] at hi; injection hi with hi; subst hi; subst e
      exact ⟨_, _, G.upd_same, h.notF (Nat.le_refl _), hk⟩
    · rw [if_neg e] at hi
      obtain ⟨b, m', h1, h2, h3⟩ := h.hp i ki hi
      exact ⟨b, m', hle _ _ h1, h2, EK.ok_mono hle (hold b.k (h.lt i _ h1)) h3⟩
  · rw [Tr.get_put hn] at hi hj
    by_cases e : i = n
    · rw [e, G.upd_same] at ei; injection ei with ei; subst ei
      rw [if_neg (fun e2 => hne (e.trans e2.symm))] at hj
      rw [G.upd_ne (fun e2 => hne (e.trans e2.symm))] at ej
      have := h.lt j _ ej
      show w.heap.size ≠ bj.1.k
      omega
    · rw [if_neg e] at hi
      rw [G.upd_ne e] at ei
      by_cases e2 : j = n
      · rw [e2, G.upd_same] at ej; injection ej with ej; subst ej
        have := h.lt i _ ei
        show bi.1.k ≠ w.heap.size
        omega
      · rw [if_neg e2] at hj
        rw [G.upd_ne e2] at ej
        exact h.inj i j ki kj hi hj hne bi bj ei ej
  · rw [G.upd_ne (by omega)]; exact h.fresh i (by omega)
  · obtain ⟨r1, r2⟩ := h.rsv i hi
    exact ⟨by rw [G.upd_ne (by omega)]; exact r1, by omega⟩
  · rw [hh, Array.size_push]
    by_cases e2 : i = n
    · rw [e2, G.upd_same] at e; injection e with e; subst e; show w.heap.size < _; omega
    · rw [G.upd_ne e2] at e; have := h.lt i p e; omega
  · refine ⟨ho.trans h.stays.os, ht.trans h.stays.tape, hout.trans h.stays.output, by rw [hh, Array.size_push]; have := h.stays.size; omega, fun k hk => ?_⟩
    have := h.stays.size
    have := w0.lt k hk
    rw [hold k (by omega)]; exact h.stays.block k hk
/-- one block of the call's own has turned -/
theorem HR.turn {γ : G} {w0 : Bs} {w w' : World} {H : Tr EK} {n : Nat} (h : HR γ w0 H n w) {i : Nat} {b : Pl} {m : Nat} {k0 : EK} (hb : Nat.ble i 65535 = true) (hi : H.get i = some k0) (hγ : γ i = some (b, m)) (k : EK)
    (hoth : ∀ c, c ≠ b.k → w'.heap[c]? = w.heap[c]?) (hsz : w'.heap.size = w.heap.size) (ho : w'.os = w.os) (ht : w'.tape = w.tape) (hout : w'.output = w.output) (hk : k.ok γ b m w') : HR γ w0 (H.put i (some k)) n w' := by
  have look : ∀ j kj, (H.put i (some k)).get j = some kj → ∃ k1, H.get j = some k1 := fun j kj hj => by
    rw [Tr.get_put hb] at hj
    by_cases e : j = i
    · exact ⟨k0, by rw [e]; exact hi⟩
    · rw [if_neg e] at hj; exact ⟨kj, hj⟩
  refine ⟨fun j kj hj => ?_, fun j l kj kl hj hl hne => ?_, h.fresh, h.rsv, fun j p e => by rw [hsz]; exact h.lt j p e, ?_⟩
  · rw [Tr.get_put hb] at hj
    by_cases e : j = i
    · rw [if_pos e] at hj; injection hj with hj; subst hj; subst e
      obtain ⟨b2, m2, h1, h2, _⟩ := h.hp j k0 hi
      rw [hγ] at h1; injection h1 with h1; injection h1 with h1 h3; subst h1; subst h3
      exact ⟨b, m, hγ, h2, hk⟩
    · rw [if_neg e] at hj
      obtain ⟨b2, m2, h1, h2, h3⟩ := h.hp j kj hj
      exact ⟨b2, m2, h1, h2, EK.ok_mono (GLe.refl _) (hoth b2.k (h.inj j i kj k0 hj hi e _ _ h1 hγ)) h3⟩
  · obtain ⟨_, h1⟩ := look j kj hj
    obtain ⟨_, h2⟩ := look l kl hl
    exact h.inj j l _ _ h1 h2 hne
  · refine ⟨ho.trans h.stays.os, ht.trans h.stays.tape, hout.trans h.stays.output, by rw [hsz]; exact h.stays.size, fun c hc => ?_⟩
    obtain ⟨b2, m2, h1, h2, _⟩ := h.hp i k0 hi
    rw [hγ] at h1; injection h1 with h1; injection h1 with h1 h3; subst h1
    rw [hoth c (fun e => h2 (e ▸ hc))]; exact h.stays.block c hc
end Go.Proofs.Ytcgopcfbgkhpgaa.Ev
