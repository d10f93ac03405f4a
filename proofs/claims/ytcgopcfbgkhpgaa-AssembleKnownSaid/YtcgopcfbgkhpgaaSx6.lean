/- The executor: variables of a type, stores, slices that are built, append. -/
import Derived.Test.YtcgopcfbgkhpgaaSx5
import Derived.Laws.IdiomCopy
import Derived.Maps.AppendAt
namespace Go.Proofs.Ytcgopcfbgkhpgaa.Sx
open Go.RowKit
variable {P : Program} {S : Base} {w0 w : World} {E : Env} {H : Heap} {γ : Nat → Loc} {a : Act} {N : Nat}

def zeroL (P : Program) (t : TypeId) : Option (List Value) := ((P.info? t).bind (·.zero)).map (·.cells.toList)
def sizeB (P : Program) (t : TypeId) : Option Nat := (P.info? t).map (·.size)

mutual
def AV.one : AV → Bool
  | .v (.agg _) => false
  | .v (.tuple _) => false
  | .agg _ => false
  | .tup _ => false
  | .top => false
  | _ => true
end
theorem conc_one {av : AV} {x : Value} (h : Conc γ av x) (h1 : av.one = true) : x.oneCell' = true := by
  cases h with
  | v x => cases x <;> first | rfl | (simp [AV.one] at h1)
  | ptr => rfl
  | ept => rfl
  | sl => rfl
  | agg => simp [AV.one] at h1
  | tup => simp [AV.one] at h1
  | fn => rfl
  | top => simp [AV.one] at h1

/-- a list with a stretch replaced -/
def putAt {α : Type} (cs : List α) (o : Nat) (vs : List α) : List α := cs.take o ++ vs ++ cs.drop (o + vs.length)
theorem putAt_get {α : Type} {cs : List α} {o : Nat} {vs : List α} (hle : o + vs.length ≤ cs.length) (j : Nat) : (putAt cs o vs)[j]? = if o ≤ j ∧ j < o + vs.length then vs[j - o]? else cs[j]? := by
  unfold putAt
  have hl : (cs.take o).length = o := by simp; omega
  by_cases h1 : j < o
  · rw [if_neg (by omega), List.append_assoc, List.getElem?_append_left (by omega), List.getElem?_take, if_pos h1]
  · by_cases h2 : j < o + vs.length
    · rw [if_pos ⟨by omega, h2⟩, List.append_assoc, List.getElem?_append_right (by omega), hl, List.getElem?_append_left (by omega)]
    · rw [if_neg (by omega), List.getElem?_append_right (by simp; omega), List.getElem?_drop]
      congr 1
      simp
      omega

section
variable {ops : Array Oper} {Q : Exit → Act → World → Prop} {o : Oper} {rest : List Oper} {d : Nat} {av : AV}
theorem fresh_nil {i : Nat} (hf : freshB i E H = true) : freshB i [] H = true := by unfold freshB at hf ⊢; simp at hf ⊢; exact hf.2
theorem conc_vs (zs : List Value) : ∀ (j : Nat) (a : AV) (y : Value), (zs.map AV.v)[j]? = some a → zs[j]? = some y → Conc γ a y := fun j a y ha hy => by
  rw [List.getElem?_map, hy] at ha; simp at ha; subst ha; exact Conc.v y
theorem freeL_v (i : Nat) (zs : List Value) : AV.freeL i (zs.map AV.v) = true := by
  induction zs with
  | nil => rfl
  | cons z zs ih => simp [AV.freeL, AV.free]; simpa using ih
theorem SG.alloc (i : Nat) (hK : S.K ≤ i) {t : TypeId} {zs : List Value} (ho : o.op = .alloc t) (hd : o.dst = some d) (hN : d < N) (hzl : zeroL P t = some zs) (hf : freshB i E H = true)
    (h : SL P N S w0 ops Q rest ((d, .ptr i 0) :: E) ((i, .box (zs.map .v)) :: H)) : SG P N S w0 ops Q o rest E H := by
  intro γ a w hn hw hs
  unfold zeroL at hzl
  cases hi : P.info? t with
  | none => rw [hi] at hzl; simp at hzl
  | some inf =>
    rw [hi] at hzl
    cases hzz : inf.zero with
    | none => simp [hzz] at hzl
    | some z =>
      simp [hzz] at hzl
      refine wpList_run hw (x := .pointer (some ⟨w.heap.size, 0, none⟩)) (w' := w.alloc (.cells zs.toArray t)) ?_ ?_
      · have hzc : z.cells = zs.toArray := by rw [← hzl]
        have he : execOp a.eval o = (do pure (Next.value (← Instr.alloc t true (.tuple #[]))) : Sem Next) := by unfold execOp; rw [ho]
        rw [he]
        refine run_v ?_
        simp [Instr.alloc, zeroValue, typeInfo, hi, hzz, newVar, newRow, newObj, hzc, Sem.run]
      · rw [hd]
        refine h (upd γ i ⟨some ⟨w.heap.size, 0, none⟩, 0⟩) _ _ (by rw [size_put]; exact hn) ⟨hs.toHOk.alloc hK (fresh_nil hf) (ok_box_new (by simp) (conc_vs zs) (freeL_v i zs)), (hs.fr.upd hf).put (by omega) (Conc.ptr i 0 _ 0 (by rw [upd_same])), hs.defers⟩

theorem setCells_heap (b : Nat) : ∀ (vs : List Value) (o : Nat) (w : World) (k : Nat), k ≠ b → (w.setCells b o vs).heap[k]? = w.heap[k]?
  | [], _, _, _, _ => rfl
  | v :: r, o, w, k, h => by rw [World.setCells, setCells_heap b r (o + 1) _ k h, heap_setCell_other w ⟨b, o, none⟩ k v h]
theorem setCells_rest (b : Nat) : ∀ (vs : List Value) (o : Nat) (w : World), (w.setCells b o vs).heap.size = w.heap.size ∧ (w.setCells b o vs).os = w.os ∧ (w.setCells b o vs).tape = w.tape ∧ (w.setCells b o vs).output = w.output
  | [], _, _ => ⟨rfl, rfl, rfl, rfl⟩
  | v :: r, o, w => by
    rw [World.setCells]
    obtain ⟨h1, h2, h3, h4⟩ := setCells_rest b r (o + 1) (w.setCell ⟨b, o, none⟩ v)
    exact ⟨by rw [h1]; simp [World.setCell], by rw [h2]; rfl, by rw [h3]; rfl, by rw [h4]; rfl⟩
/-- One writable chunk's block has changed. -/
theorem HOk.write {i : Nat} {ch ch' : Chunk} {w' : World} (h : HOk S w0 H γ w) (hi : H.lookup i = some ch) (hwr : ch.wr = true)
    (hb : ∀ k, (γ i).blk ≠ some k → w'.heap[k]? = w.heap[k]?) (hsz : w'.heap.size = w.heap.size) (hos : w'.os = w.os) (ht : w'.tape = w.tape) (hout : w'.output = w.output) (hok : ch'.ok γ (γ i) w') : HOk S w0 ((i, ch') :: H) γ w' := by
  have look : ∀ j c, ((i, ch') :: H).lookup j = some c → ∃ c0, H.lookup j = some c0 ∧ (j ≠ i → c0 = c) := fun j c hj => by
    rw [lookup_cons] at hj
    by_cases e : j = i
    · exact ⟨ch, by rw [e]; exact hi, fun h => absurd e h⟩
    · rw [if_neg e] at hj; exact ⟨c, hj, fun _ => rfl⟩
  refine ⟨?_, ?_, ?_, ?_, ?_, h.anc⟩
  · intro j c hj
    rw [lookup_cons] at hj
    by_cases e : j = i
    · rw [if_pos e] at hj; injection hj with hj; subst e hj; exact hok
    · rw [if_neg e] at hj
      exact Chunk.ok_keep (h.hp j c hj) fun b hb2 => hb b fun hb3 => h.sep i j ch c hi hj (fun e2 => e e2.symm) hwr b hb3 hb2
  · intro j k cj ck hj hk hne hw b hbj
    obtain ⟨c0, h0, e0⟩ := look j cj hj
    obtain ⟨c1, h1, _⟩ := look k ck hk
    by_cases e : j = i
    · subst e; exact h.sep j k ch c1 hi h1 hne hwr b hbj
    · exact h.sep j k c0 c1 h0 h1 hne (by rw [e0 e]; exact hw) b hbj
  · intro j cj hj hw b hbj
    obtain ⟨c0, h0, e0⟩ := look j cj hj
    by_cases e : j = i
    · subst e; exact h.wrS j ch hi hwr b hbj
    · exact h.wrS j c0 h0 (by rw [e0 e]; exact hw) b hbj
  · intro j cj hj b hbj
    obtain ⟨c0, h0, _⟩ := look j cj hj
    rw [hsz]; exact h.lt j c0 h0 b hbj
  · refine h.kept.step hos ht hout (by omega) fun k hk hs => hb k fun hbi => ?_
    rcases h.wrS i ch hi hwr k hbi with h1 | h1
    · exact hs h1
    · omega
theorem SG.store_box {t : TypeId} {x y : Operand} {i off : Nat} {cs vs : List AV} (ho : o.op = .store t x y) (hx : evO E x = .ptr i off) (hl : H.lookup i = some (.box cs)) (hv : (evO E y).cells = some vs) (h1 : vs.all AV.one = true)
    (hle : off + vs.length ≤ cs.length) (hsz : sizeB P t = some vs.length) (hd : o.dst = none)
    (h : SL P N S w0 ops Q rest E ((i, .box (putAt cs off vs)) :: H)) : SG P N S w0 ops Q o rest E H := by
  intro γ a w hn hw hs
  obtain ⟨b, o', hA, he⟩ := conc_ptr (hx ▸ conc_evO hs x)
  obtain ⟨xs, hxs, hlen, hcc⟩ := conc_cells (conc_evO hs y) hv
  obtain ⟨b2, o2, hA2, hc⟩ := hs.hp i _ hl
  rw [hA] at hA2
  simp only [Option.some.injEq, Addr.mk.injEq, and_true] at hA2
  obtain ⟨rfl, rfl⟩ := hA2
  have hcell : ∀ j, j < cs.length → (w.cell? ⟨b, o' + j, none⟩).isSome = true ∧ w.frozen? ⟨b, o' + j, none⟩ = false := fun j hj => by
    obtain ⟨⟨u, hu, _⟩, hf⟩ := hc j cs[j] (by simp [hj])
    exact ⟨by rw [hu]; rfl, hf⟩
  have hone : ∀ u ∈ xs, u.oneCell' = true := fun u hu => by
    obtain ⟨j, hj, rfl⟩ := List.getElem_of_mem hu
    have hj2 : j < vs.length := by omega
    exact conc_one (hcc j vs[j] xs[j] (by simp [hj2]) (by simp [hj])) (by
      rw [List.all_eq_true] at h1; exact h1 _ (List.getElem_mem hj2))
  have hst := run_storeCells_cells (P := P) b (o' + off) xs 0 w (fun j hj => by rw [Nat.add_zero, Nat.add_assoc]; exact (hcell _ (by omega)).1) (fun j hj => by rw [Nat.add_zero, Nat.add_assoc]; exact (hcell _ (by omega)).2) hone
  rw [Nat.add_zero] at hst
  have hsize : ∃ inf, P.info? t = some inf ∧ inf.size = vs.length := by
    unfold sizeB at hsz
    cases hi : P.info? t with
    | none => rw [hi] at hsz; simp at hsz
    | some inf => rw [hi] at hsz; simp at hsz; exact ⟨inf, rfl, hsz⟩
  obtain ⟨inf, hinf, hisz⟩ := hsize
  refine wpList_run_skip hw (w' := w.setCells b (o' + off) xs) ?_ ?_
  · simp [execOp, ho, he, Instr.storeAt, Instr.sureAddr, storeVar, hxs, sizeOf, typeInfo, hinf, hisz, hlen, hst]
  · rw [hd]
    have r := setCells_rest b xs (o' + off) w
    refine h γ a _ hn ⟨hs.toHOk.write hl rfl (fun k hk => setCells_heap b xs _ w k (fun e => hk (by simp [Loc.blk, hA, e]))) r.1 r.2.1 r.2.2.1 r.2.2.2 ⟨b, o', hA, fun j av hj => ?_⟩, hs.fr, hs.defers⟩
    rw [putAt_get hle] at hj
    rw [World.frozen?_setCells]
    by_cases hin : off ≤ j ∧ j < off + vs.length
    · rw [if_pos hin] at hj
      have hjx : j - off < xs.length := by omega
      have := World.cell?_setCells_in b xs (o' + off) w (fun j hj => by rw [Nat.add_assoc]; exact (hcell _ (by omega)).1) (j - off) hjx
      rw [show o' + off + (j - off) = o' + j by omega] at this
      exact ⟨⟨_, this, hcc (j - off) av _ hj (by simp [hjx])⟩, (hcell j (by omega)).2⟩
    · rw [if_neg hin] at hj
      obtain ⟨⟨u, hu, hcu⟩, hf⟩ := hc j av hj
      exact ⟨⟨u, by rw [World.cell?_setCells_out b xs _ w _ (fun _ _ => by simp; omega)]; exact hu, hcu⟩, hf⟩
end
end Go.Proofs.Ytcgopcfbgkhpgaa.Sx
