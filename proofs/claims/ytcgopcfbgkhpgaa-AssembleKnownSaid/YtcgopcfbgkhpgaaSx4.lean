/- The executor: lists of operations, code. -/
import Derived.Test.YtcgopcfbgkhpgaaSx3
namespace Go.Proofs.Ytcgopcfbgkhpgaa.Sx
open Go.RowKit
variable {P : Program} {S : Base} {w0 w : World} {E : Env} {H : Heap} {γ : Nat → Loc} {a : Act} {N : Nat}

/-- From every state that meets E and H the rest of a region's operations go through. -/
def SL (P : Program) (N : Nat) (S : Base) (w0 : World) (ops : Array Oper) (Q : Exit → Act → World → Prop) (l : List Oper) (E : Env) (H : Heap) : Prop :=
  ∀ γ a w, a.tmps.size = N → St S w0 E H γ a w → wpList P ops Q l a w
def SC (P : Program) (N : Nat) (S : Base) (w0 : World) (c : Code) (Q : Exit → Act → World → Prop) (E : Env) (H : Heap) : Prop :=
  ∀ γ a w, a.tmps.size = N → St S w0 E H γ a w → c.wp P Q a w
def SP (N : Nat) (S : Base) (w0 : World) (Q : Exit → Act → World → Prop) (e : Exit) (E : Env) (H : Heap) : Prop :=
  ∀ γ a w, a.tmps.size = N → St S w0 E H γ a w → Q e a w

/-- The operation that stands next is carried out. -/
def SG (P : Program) (N : Nat) (S : Base) (w0 : World) (ops : Array Oper) (Q : Exit → Act → World → Prop) (o : Oper) (rest : List Oper) (E : Env) (H : Heap) : Prop :=
  ∀ γ a w, a.tmps.size = N → Region.wanted o (yielded ops a.tmps) = true → St S w0 E H γ a w → wpList P ops Q (o :: rest) a w

theorem lookup_cons (d : Nat) {α : Type} (x : α) (l : List (Nat × α)) (s : Nat) : ((d, x) :: l).lookup s = if s = d then some x else l.lookup s := by
  simp only [List.lookup]
  by_cases h : s = d
  · subst h; simp
  · rw [if_neg h]
    have : (s == d) = false := by simpa using h
    rw [this]
theorem put_tmps (d : Nat) (x : Value) (s : Nat) (hd : d < a.tmps.size) : (a.put (some d) x).tmps[s]? = if s = d then some x else a.tmps[s]? := by
  simp only [Act.put]
  by_cases h : s = d
  · subst h; simp [hd]
  · rw [if_neg h, Array.getElem?_setIfInBounds_ne (fun e => h e.symm)]
theorem EOk.put {d : Nat} {av : AV} {x : Value} (h : EOk E γ a) (hd : d < a.tmps.size) (hc : Conc γ av x) : EOk ((d, av) :: E) γ (a.put (some d) x) := by
  intro s av' hs
  rw [lookup_cons] at hs
  rw [put_tmps d x s hd]
  by_cases e : s = d
  · rw [if_pos e] at hs ⊢; injection hs with hs; subst hs; exact ⟨x, rfl, hc⟩
  · rw [if_neg e] at hs ⊢; exact h s av' hs
theorem St.put {d : Nat} {av : AV} {x : Value} (h : St S w0 E H γ a w) (hd : d < a.tmps.size) (hc : Conc γ av x) : St S w0 ((d, av) :: E) H γ (a.put (some d) x) w :=
  ⟨h.toHOk, h.fr.put hd hc, h.defers⟩
theorem size_put (d : Nat) (x : Value) : (a.put (some d) x).tmps.size = a.tmps.size := by simp [Act.put]

/-- The operation is carried out. -/
def Wanted (ops : Array Oper) (o : Oper) (E : Env) : Prop := ∀ γ a, EOk E γ a → Region.wanted o (yielded ops a.tmps) = true
def Unwanted (ops : Array Oper) (o : Oper) (E : Env) : Prop := ∀ γ a, EOk E γ a → Region.wanted o (yielded ops a.tmps) = false
theorem wanted_none {ops : Array Oper} {o : Oper} (h : o.guard = none) : Wanted ops o E := fun _ _ _ => by simp [Region.wanted, h]
theorem yielded_of {ops : Array Oper} {j d : Nat} {b : Bool} (hj : (ops[j]?).bind (·.dst) = some d) (hE : E.lookup d = some (.v (.bool b))) (h : EOk E γ a) : yielded ops a.tmps j = some b := by
  obtain ⟨x, hx, hc⟩ := h d _ hE
  have := conc_v hc
  subst this
  simp [yielded, hj, hx]
theorem wanted_some {ops : Array Oper} {o : Oper} {j d : Nat} {b : Bool} (h : o.guard = some (j, b)) (hj : (ops[j]?).bind (·.dst) = some d) (hE : E.lookup d = some (.v (.bool b))) : Wanted ops o E := fun γ a ha => by
  simp [Region.wanted, h, yielded_of hj hE ha]
theorem unwanted_some {ops : Array Oper} {o : Oper} {j d : Nat} {b b' : Bool} (h : o.guard = some (j, b)) (hj : (ops[j]?).bind (·.dst) = some d) (hE : E.lookup d = some (.v (.bool b'))) (hb : (b' == b) = false) : Unwanted ops o E := fun γ a ha => by
  simp [Region.wanted, h, yielded_of hj hE ha]; simpa using hb
theorem lookup_undef {γ : Nat → Loc} : Conc γ (.v undef) undef := Conc.v _

section
variable {ops : Array Oper} {Q : Exit → Act → World → Prop} {o : Oper} {rest : List Oper} {d : Nat} {av : AV}
theorem SL.nil (h : SP N S w0 Q .normal E H) : SL P N S w0 ops Q [] E H := fun γ a w hn hs => h γ a w hn hs
theorem wpList_run (hw : Region.wanted o (yielded ops a.tmps) = true) {x : Value} {w w' : World} (hr : (execOp a.eval o).run P w = .ok (.value x) w') (h : wpList P ops Q rest (a.put o.dst x) w') : wpList P ops Q (o :: rest) a w := by
  refine wpList_step fun K hK => ?_
  rw [if_pos hw]
  unfold Oper.wp
  rw [hr]
  exact hK _ _ h
theorem wpList_run_skip (hw : Region.wanted o (yielded ops a.tmps) = true) {w w' : World} (hr : (execOp a.eval o).run P w = .ok .skip w') (h : wpList P ops Q rest (a.put o.dst undef) w') : wpList P ops Q (o :: rest) a w := by
  refine wpList_step fun K hK => ?_
  rw [if_pos hw]
  unfold Oper.wp
  rw [hr]
  exact hK _ _ h
theorem SL.go (hw : Wanted ops o E) (h : SG P N S w0 ops Q o rest E H) : SL P N S w0 ops Q (o :: rest) E H := fun γ a w hn hs => h γ a w hn (hw γ a hs.fr) hs
theorem SG.read (hd : o.dst = some d) (hN : d < N) (hc : Core P o E H av) (h : SL P N S w0 ops Q rest ((d, av) :: E) H) : SG P N S w0 ops Q o rest E H := by
  intro γ a w hn hw hs
  obtain ⟨x, hx, hr⟩ := hc.run S w0 γ a w hs
  refine wpList_run hw (hr w (Below.refl _ _)) ?_
  rw [hd]
  exact h γ _ w (by rw [size_put]; exact hn) (hs.put (by omega) hx)
theorem SL.no (hw : Unwanted ops o E) (hd : o.dst = some d) (hN : d < N) (h : SL P N S w0 ops Q rest ((d, .v undef) :: E) H) : SL P N S w0 ops Q (o :: rest) E H := by
  intro γ a w hn hs
  refine wpList_step fun K hK => ?_
  rw [if_neg (by rw [hw γ a hs.fr]; simp)]
  refine hK _ _ ?_
  rw [hd]
  exact h γ _ w (by rw [size_put]; exact hn) (hs.put (by omega) (Conc.v _))
theorem SL.weaken {l : List Oper} {E' : Env} (hE : ∀ s av, E'.lookup s = some av → E.lookup s = some av) (h : SL P N S w0 ops Q l E' H) : SL P N S w0 ops Q l E H :=
  fun γ a w hn hs => h γ a w hn ⟨hs.toHOk, fun s av he => hs.fr s av (hE s av he), hs.defers⟩
end

section
variable {Q : Exit → Act → World → Prop}
theorem SC.skip (h : SP N S w0 Q .normal E H) : SC P N S w0 .skip Q E H := fun γ a w hn hs => wp_skip (h γ a w hn hs)
theorem SC.ret (h : SP N S w0 Q .ret E H) : SC P N S w0 .ret Q E H := fun γ a w hn hs => wp_ret (h γ a w hn hs)
theorem SC.exit {id : Nat} (h : SP N S w0 Q (.exit id) E H) : SC P N S w0 (.exit id) Q E H := fun γ a w hn hs => wp_exit (h γ a w hn hs)
theorem SC.label {l : Nat} (h : SP N S w0 Q .normal E H) : SC P N S w0 (.label l) Q E H := fun γ a w hn hs => wp_label (h γ a w hn hs)
theorem SC.seq {x y : Code} (h : SC P N S w0 x (Exit.then (y.wp P Q) Q) E H) : SC P N S w0 (.seq x y) Q E H := fun γ a w hn hs => wp_seq (h γ a w hn hs)
theorem SC.block {id : Nat} {c : Code} (h : SC P N S w0 c (Exit.inBlock id Q) E H) : SC P N S w0 (.block id c) Q E H := fun γ a w hn hs => wp_block (h γ a w hn hs)
theorem SC.scope {c : Code} (h : SC P N S w0 c (Exit.noGoto Q) E H) : SC P N S w0 (.scope c) Q E H := fun γ a w hn hs => wp_scope_straight (h γ a w hn hs)
theorem SC.region {id : Nat} {l : List Oper} (h : SL P N S w0 l.toArray Q l E H) : SC P N S w0 (.region id l.toArray false) Q E H := fun γ a w hn hs => wp_region_lit (h γ a w hn hs)
theorem cond_eval {c : Operand} {t : Bool} (hc : evO E c = .v (.bool t)) (hs : St S w0 E H γ a w) : a.eval c = .bool t := conc_v (hc ▸ conc_evO hs c)
theorem SC.cond_true {c : Operand} {x y : Code} (hc : evO E c = .v (.bool true)) (h : SC P N S w0 x Q E H) : SC P N S w0 (.cond c x y) Q E H := fun γ a w hn hs => wp_cond_true (cond_eval hc hs) (h γ a w hn hs)
theorem SC.cond_false {c : Operand} {x y : Code} (hc : evO E c = .v (.bool false)) (h : SC P N S w0 y Q E H) : SC P N S w0 (.cond c x y) Q E H := fun γ a w hn hs => wp_cond_false (cond_eval hc hs) (h γ a w hn hs)
theorem SC.cond {c : Operand} {x y : Code} {t : Bool} (hc : evO E c = .v (.bool t)) (ht : t = true → SC P N S w0 x Q E H) (hf : t = false → SC P N S w0 y Q E H) : SC P N S w0 (.cond c x y) Q E H :=
  fun γ a w hn hs => wp_cond_split (cond_eval hc hs) (fun e => ht e γ a w hn hs) (fun e => hf e γ a w hn hs)
theorem SC.weaken {c : Code} {E' : Env} (hE : ∀ s av, E'.lookup s = some av → E.lookup s = some av) (h : SC P N S w0 c Q E' H) : SC P N S w0 c Q E H :=
  fun γ a w hn hs => h γ a w hn ⟨hs.toHOk, fun s av he => hs.fr s av (hE s av he), hs.defers⟩
theorem SP.weaken {e : Exit} {E' : Env} (hE : ∀ s av, E'.lookup s = some av → E.lookup s = some av) (h : SP N S w0 Q e E' H) : SP N S w0 Q e E H :=
  fun γ a w hn hs => h γ a w hn ⟨hs.toHOk, fun s av he => hs.fr s av (hE s av he), hs.defers⟩
theorem SP.next {y : Code} (h : SC P N S w0 y Q E H) : SP N S w0 (Exit.then (y.wp P Q) Q) .normal E H := h
theorem SP.then_exit {nx : Act → World → Prop} {id : Nat} (h : SP N S w0 Q (.exit id) E H) : SP N S w0 (Exit.then nx Q) (.exit id) E H := h
theorem SP.then_ret {nx : Act → World → Prop} (h : SP N S w0 Q .ret E H) : SP N S w0 (Exit.then nx Q) .ret E H := h
theorem SP.block_normal {id : Nat} (h : SP N S w0 Q .normal E H) : SP N S w0 (Exit.inBlock id Q) .normal E H := h
theorem SP.block_ret {id : Nat} (h : SP N S w0 Q .ret E H) : SP N S w0 (Exit.inBlock id Q) .ret E H := h
theorem SP.block_out {id : Nat} (h : SP N S w0 Q .normal E H) : SP N S w0 (Exit.inBlock id Q) (.exit id) E H := fun γ a w hn hs => by
  simp only [Exit.inBlock, if_true]; exact h γ a w hn hs
theorem SP.block_on {id j : Nat} (hne : (j == id) = false) (h : SP N S w0 Q (.exit j) E H) : SP N S w0 (Exit.inBlock id Q) (.exit j) E H := fun γ a w hn hs => by
  have : ¬ j = id := by simpa using hne
  simp only [Exit.inBlock, this, if_false]; exact h γ a w hn hs
theorem SP.scope_normal (h : SP N S w0 Q .normal E H) : SP N S w0 (Exit.noGoto Q) .normal E H := h
theorem SP.scope_ret (h : SP N S w0 Q .ret E H) : SP N S w0 (Exit.noGoto Q) .ret E H := h
theorem SP.scope_exit {id : Nat} (h : SP N S w0 Q (.exit id) E H) : SP N S w0 (Exit.noGoto Q) (.exit id) E H := h
end
end Go.Proofs.Ytcgopcfbgkhpgaa.Sx
