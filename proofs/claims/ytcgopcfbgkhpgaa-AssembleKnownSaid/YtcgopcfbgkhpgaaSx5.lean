/- The executor: new memory. -/
import Derived.Test.YtcgopcfbgkhpgaaSx4
namespace Go.Proofs.Ytcgopcfbgkhpgaa.Sx
open Go.RowKit
variable {P : Program} {S : Base} {w0 w : World} {E : Env} {H : Heap} {γ : Nat → Loc} {a : Act} {N : Nat}

mutual
def AV.free (i : Nat) : AV → Bool
  | .ptr j _ => j != i
  | .ept j _ _ _ => j != i
  | .sl j _ _ _ => j != i
  | .agg cs => AV.freeL i cs
  | .tup cs => AV.freeL i cs
  | .fn _ cs => AV.freeL i cs
  | _ => true
def AV.freeL (i : Nat) : List AV → Bool
  | [] => true
  | a :: r => AV.free i a && AV.freeL i r
end
theorem freeL_get {i : Nat} : ∀ {cs : List AV}, AV.freeL i cs = true → ∀ {j : Nat} {a : AV}, cs[j]? = some a → a.free i = true
  | [], _, j, a, h => by simp at h
  | c :: cs, hf, 0, a, h => by simp [AV.freeL] at hf h; subst h; exact hf.1
  | c :: cs, hf, j + 1, a, h => by simp [AV.freeL] at hf h; exact freeL_get hf.2 h
def Chunk.free (i : Nat) : Chunk → Bool
  | .box cs => AV.freeL i cs
  | _ => true
def freshB (i : Nat) (E : Env) (H : Heap) : Bool := E.all (fun p => p.2.free i) && H.all (fun p => p.1 != i && p.2.free i)
def upd {α : Type} (γ : Nat → α) (i : Nat) (l : α) : Nat → α := fun j => if j = i then l else γ j
theorem upd_same {α : Type} (γ : Nat → α) (i : Nat) (l : α) : upd γ i l i = l := by simp [upd]
theorem upd_ne {α : Type} (γ : Nat → α) {i j : Nat} (l : α) (h : j ≠ i) : upd γ i l j = γ j := by simp [upd, h]
theorem conc_free {i : Nat} {l : Loc} {av : AV} {x : Value} (h : Conc γ av x) : av.free i = true → Conc (upd γ i l) av x := by
  induction h with
  | v x => intro _; exact Conc.v x
  | ptr j off b o hA => intro hf; exact Conc.ptr j off b o (by rw [upd_ne γ l (by simpa [AV.free] using hf)]; exact hA)
  | ept j z k f b o hA => intro hf; exact Conc.ept j z k f b o (by rw [upd_ne γ l (by simpa [AV.free] using hf)]; exact hA)
  | sl j z off len A c h0 h1 hc => intro hf; exact Conc.sl j z off len A c (by rw [upd_ne γ l (by simpa [AV.free] using hf)]; exact h0) (by rw [upd_ne γ l (by simpa [AV.free] using hf)]; exact h1) hc
  | agg cs vs hl _ ih => intro hf; exact Conc.agg cs vs hl fun j a x ha hx => ih j a x ha hx (freeL_get (by simpa [AV.free] using hf) ha)
  | tup cs vs hl _ ih => intro hf; exact Conc.tup cs vs hl fun j a x ha hx => ih j a x ha hx (freeL_get (by simpa [AV.free] using hf) ha)
  | fn f cs vs hl _ ih => intro hf; exact Conc.fn f cs vs hl fun j a x ha hx => ih j a x ha hx (freeL_get (by simpa [AV.free] using hf) ha)
  | top x => intro _; exact Conc.top x
theorem fresh_E {i : Nat} (h : freshB i E H = true) {s : Nat} {av : AV} (hs : E.lookup s = some av) : av.free i = true := by
  unfold freshB at h
  simp only [Bool.and_eq_true, List.all_eq_true] at h
  have : (s, av) ∈ E := by
    clear h
    induction E with
    | nil => simp at hs
    | cons p E ih =>
      rw [show p = (p.1, p.2) from rfl, lookup_cons] at hs
      by_cases e : s = p.1
      · rw [if_pos e] at hs; injection hs with hs; subst e hs; exact List.mem_cons_self
      · rw [if_neg e] at hs; exact List.mem_cons_of_mem _ (ih hs)
  exact h.1 _ this
theorem lookup_mem {α : Type} {l : List (Nat × α)} {s : Nat} {x : α} (hs : l.lookup s = some x) : (s, x) ∈ l := by
  induction l with
  | nil => simp at hs
  | cons p E ih =>
    rw [show p = (p.1, p.2) from rfl, lookup_cons] at hs
    by_cases e : s = p.1
    · rw [if_pos e] at hs; injection hs with hs; subst e hs; exact List.mem_cons_self
    · rw [if_neg e] at hs; exact List.mem_cons_of_mem _ (ih hs)
theorem fresh_H {i : Nat} (h : freshB i E H = true) {j : Nat} {ch : Chunk} (hs : H.lookup j = some ch) : j ≠ i ∧ ch.free i = true := by
  unfold freshB at h
  simp only [Bool.and_eq_true, List.all_eq_true] at h
  have := h.2 _ (lookup_mem hs)
  simpa using this
theorem EOk.upd {i : Nat} {l : Loc} (h : EOk E γ a) (hf : freshB i E H = true) : EOk E (Sx.upd γ i l) a := fun s av hs =>
  let ⟨x, hx, hc⟩ := h s av hs
  ⟨x, hx, conc_free hc (fresh_E hf hs)⟩

/-- A chunk lies on in a world that keeps its block. -/
theorem Chunk.ok_keep {ch : Chunk} {l : Loc} {w w' : World} (h : ch.ok γ l w) (hb : ∀ b, l.blk = some b → w'.heap[b]? = w.heap[b]?) : ch.ok γ l w' := by
  cases ch with
  | box cs =>
    obtain ⟨b, o, hA, hc⟩ := h
    have hb' := hb b (by simp [Loc.blk, hA])
    refine ⟨b, o, hA, fun j a ha => ?_⟩
    obtain ⟨⟨x, hx, hcx⟩, hf⟩ := hc j a ha
    exact ⟨⟨x, (World.cell?_of_block (w := w) hb').trans hx, hcx⟩, (World.frozen?_of_block (w := w) hb').trans hf⟩
  | ro n cols =>
    intro hn
    obtain ⟨b, o, hA, hc⟩ := h hn
    have hb' := hb b (by simp [Loc.blk, hA])
    exact ⟨b, o, hA, fun k j c hk hj => (World.cell?_of_block (w := w) hb').trans (hc k j c hk hj)⟩
  | rw t n cols =>
    obtain ⟨h1, h2⟩ := h
    refine ⟨h1, ?_⟩
    rcases h2 with h2 | ⟨g, cap, cur, hv, hg, hh, r⟩
    · exact .inl h2
    · refine .inr ⟨g, cap, cur, hv, hg, ?_, r⟩
      injection hv with hA _ _
      rw [hb g (by simp [Loc.blk, hA])]
      exact hh
theorem Chunk.ok_upd {ch : Chunk} {l l' : Loc} {i : Nat} (h : ch.ok γ l w) (hf : ch.free i = true) : ch.ok (upd γ i l') l w := by
  cases ch with
  | box cs =>
    obtain ⟨b, o, hA, hc⟩ := h
    refine ⟨b, o, hA, fun j a ha => ?_⟩
    obtain ⟨⟨x, hx, hcx⟩, hfz⟩ := hc j a ha
    exact ⟨⟨x, hx, conc_free hcx (freeL_get hf ha)⟩, hfz⟩
  | ro n cols => exact h
  | rw t n cols => exact h
theorem Kept.step {S : Nat → Prop} {w' : World} (h : Kept S w0 w) (hos : w'.os = w.os) (ht : w'.tape = w.tape) (ho : w'.output = w.output) (hsz : w.heap.size ≤ w'.heap.size) (hb : ∀ k, k < w0.heap.size → ¬ S k → w'.heap[k]? = w.heap[k]?) : Kept S w0 w' :=
  ⟨hos.trans h.os, ht.trans h.tape, ho.trans h.output, Nat.le_trans h.size hsz, fun k hk hs => (hb k hk hs).trans (h.block k hk hs)⟩
/-- A new chunk in a new block. -/
theorem HOk.alloc {i cap : Nat} {ch : Chunk} {o : Obj} (h : HOk S w0 H γ w) (hK : S.K ≤ i) (hf : freshB i [] H = true)
    (hok : ch.ok (upd γ i ⟨some ⟨w.heap.size, 0, none⟩, cap⟩) ⟨some ⟨w.heap.size, 0, none⟩, cap⟩ (w.alloc o)) :
    HOk S w0 ((i, ch) :: H) (upd γ i ⟨some ⟨w.heap.size, 0, none⟩, cap⟩) (w.alloc o) := by
  have hold : ∀ k, k < w.heap.size → (w.alloc o).heap[k]? = w.heap[k]? := fun k hk => Below.heap_alloc w o k hk
  refine ⟨?_, ?_, ?_, ?_, ?_, fun j hj => by rw [upd_ne _ _ (by omega)]; exact h.anc j hj⟩
  · intro j c hj
    rw [lookup_cons] at hj
    by_cases e : j = i
    · rw [if_pos e] at hj; injection hj with hj; subst e hj; rw [upd_same]; exact hok
    · rw [if_neg e] at hj
      rw [upd_ne _ _ e]
      exact Chunk.ok_upd (Chunk.ok_keep (h.hp j c hj) fun b hb => hold b (h.lt j c hj b hb)) (fresh_H hf hj).2
  · intro j k cj ck hj hk hne hw b hb
    rw [lookup_cons] at hj hk
    by_cases e : j = i
    · subst e
      rw [upd_same] at hb
      rw [if_neg (fun e => hne e.symm)] at hk
      rw [upd_ne _ _ (fun e => hne e.symm)]
      intro hb2
      have := h.lt k ck hk b hb2
      simp [Loc.blk] at hb
      omega
    · rw [if_neg e] at hj
      rw [upd_ne _ _ e] at hb
      by_cases e2 : k = i
      · subst e2
        rw [upd_same]
        have := h.lt j cj hj b hb
        simp [Loc.blk]; omega
      · rw [if_neg e2] at hk
        rw [upd_ne _ _ e2]
        exact h.sep j k cj ck hj hk hne hw b hb
  · intro j cj hj hw b hb
    rw [lookup_cons] at hj
    by_cases e : j = i
    · subst e
      rw [upd_same] at hb
      simp [Loc.blk] at hb
      have := h.kept.size
      right; omega
    · rw [if_neg e] at hj
      rw [upd_ne _ _ e] at hb
      exact h.wrS j cj hj hw b hb
  · intro j cj hj b hb
    rw [lookup_cons] at hj
    by_cases e : j = i
    · subst e
      rw [upd_same] at hb
      simp [Loc.blk] at hb
      simp; omega
    · rw [if_neg e] at hj
      rw [upd_ne _ _ e] at hb
      have := h.lt j cj hj b hb
      simp; omega
  · exact h.kept.step rfl rfl rfl (by simp) fun k hk _ => hold k (by have := h.kept.size; omega)
/-- the cells of a value -/
def AV.cells : AV → Option (List AV)
  | .agg cs => some cs
  | .top => none
  | .v (.agg _) => none
  | .v (.tuple _) => none
  | .tup _ => none
  | a => some [a]
theorem conc_cells {av : AV} {x : Value} {cs : List AV} (h : Conc γ av x) (hc : av.cells = some cs) : ∃ xs : List Value, x.cells = xs.toArray ∧ cs.length = xs.length ∧ ∀ (j : Nat) (a : AV) (y : Value), cs[j]? = some a → xs[j]? = some y → Conc γ a y := by
  have one : ∀ {av : AV} {x : Value}, Conc γ av x → ∀ (j : Nat) (a : AV) (y : Value), [av][j]? = some a → [x][j]? = some y → Conc γ a y := by
    intro av x h j a y ha hy
    cases j with
    | zero => simp at ha hy; subst ha hy; exact h
    | succ j => simp at ha
  cases h with
  | v x =>
    cases x <;> simp [AV.cells] at hc <;> subst hc <;> exact ⟨[_], rfl, rfl, one (Conc.v _)⟩
  | ptr i off b o hA => simp [AV.cells] at hc; subst hc; exact ⟨[_], rfl, rfl, one (Conc.ptr i off b o hA)⟩
  | ept i z k f b o hA => simp [AV.cells] at hc; subst hc; exact ⟨[_], rfl, rfl, one (Conc.ept i z k f b o hA)⟩
  | sl i z off len A c h0 h1 hcc => simp [AV.cells] at hc; subst hc; exact ⟨[_], rfl, rfl, one (Conc.sl i z off len A c h0 h1 hcc)⟩
  | agg cs' vs hl h => simp [AV.cells] at hc; subst hc; exact ⟨vs, rfl, hl, h⟩
  | tup cs' vs hl h => simp [AV.cells] at hc
  | fn f cs' vs hl h => simp [AV.cells] at hc; subst hc; exact ⟨[_], rfl, rfl, one (Conc.fn f cs' vs hl h)⟩
  | top x => simp [AV.cells] at hc
theorem ok_box_new {i cap : Nat} {cs : List AV} {xs : List Value} {t : TypeId} (hl : cs.length = xs.length) (hc : ∀ (j : Nat) (a : AV) (y : Value), cs[j]? = some a → xs[j]? = some y → Conc γ a y) (hf : AV.freeL i cs = true) :
    (Chunk.box cs).ok (upd γ i ⟨some ⟨w.heap.size, 0, none⟩, cap⟩) ⟨some ⟨w.heap.size, 0, none⟩, cap⟩ (w.alloc (.cells xs.toArray t)) := by
  refine ⟨w.heap.size, 0, rfl, fun j a ha => ?_⟩
  have hj : j < xs.length := by rw [← hl]; exact (List.getElem?_eq_some_iff.1 ha).1
  refine ⟨⟨xs[j], ?_, conc_free (hc j a _ ha (by simp [hj])) (freeL_get hf ha)⟩, ?_⟩
  · rw [Nat.zero_add, World.cell?_alloc_new]; simp [hj]
  · rw [Nat.zero_add]; exact frozen_of_row (w.alloc (.cells xs.toArray t)) w.heap.size j xs.toArray t (heap_alloc_new w _)

section
variable {ops : Array Oper} {Q : Exit → Act → World → Prop} {o : Oper} {rest : List Oper} {d : Nat} {av : AV}
theorem SG.box (i : Nat) (hK : S.K ≤ i) {t : TypeId} {x : Operand} {cs : List AV} (ho : o.op = .box t x) (hd : o.dst = some d) (hN : d < N) (hc : (evO E x).cells = some cs) (hf : freshB i E H = true) (hfc : AV.freeL i cs = true)
    (h : SL P N S w0 ops Q rest ((d, .ptr i 0) :: E) ((i, .box cs) :: H)) : SG P N S w0 ops Q o rest E H := by
  intro γ a w hn hw hs
  obtain ⟨xs, hxs, hl, hcc⟩ := conc_cells (conc_evO hs x) hc
  refine wpList_run hw (x := .pointer (some ⟨w.heap.size, 0, none⟩)) (w' := w.alloc (.cells xs.toArray t)) ?_ ?_
  · have he : execOp a.eval o = (do pure (Next.value (← Instr.box t (a.eval x))) : Sem Next) := by unfold execOp; rw [ho]
    rw [he, ← hxs]
    rfl
  · rw [hd]
    have hf2 : freshB i [] H = true := by unfold freshB at hf ⊢; simp at hf ⊢; exact hf.2
    refine h (upd γ i ⟨some ⟨w.heap.size, 0, none⟩, 0⟩) _ _ (by rw [size_put]; exact hn) ⟨hs.toHOk.alloc hK hf2 (ok_box_new hl hcc hfc), (hs.fr.upd hf).put (by omega) ?_, hs.defers⟩
    exact Conc.ptr i 0 _ 0 (by rw [upd_same])
end
end Go.Proofs.Ytcgopcfbgkhpgaa.Sx
