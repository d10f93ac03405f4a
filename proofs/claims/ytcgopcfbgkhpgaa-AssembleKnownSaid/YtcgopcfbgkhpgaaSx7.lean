/- The executor: whole structs, loops, a call's head and end. -/
import Derived.Test.YtcgopcfbgkhpgaaSx6
namespace Go.Proofs.Ytcgopcfbgkhpgaa.Sx
open Go.RowKit
variable {P : Program} {S : Base} {w0 w : World} {E : Env} {H : Heap} {γ : Nat → Loc} {a : Act} {N : Nat}

theorem aggN_spec {t m : Nat} (h : aggN P t = some m) : (∀ w, (isAgg t).run P w = .ok true w) ∧ ∃ inf, P.info? t = some inf ∧ inf.size = m := by
  unfold aggN at h
  split at h
  · rename_i fs inf hu hi
    simp at h
    exact ⟨fun w => by unfold isAgg; simp [run_underlying hu], inf, hi, h⟩
  · rename_i n e inf hu hi
    simp at h
    exact ⟨fun w => by unfold isAgg; simp [run_underlying hu], inf, hi, h⟩
  · simp at h
theorem core_loadN {o : Oper} (t : TypeId) (x : Operand) {m : Nat} {avs : List AV} (h : o.op = .load t x) (ht : aggN P t = some m) (hm : avs.length = m)
    (hc : ∀ S w0 γ a w, St S w0 E H γ a w → ∃ b j, a.eval x = .pointer (some ⟨b, j, none⟩) ∧ ∀ (q : Nat) (av : AV), avs[q]? = some av → ∃ y, w.cell? ⟨b, j + q, none⟩ = some y ∧ Conc γ av y) : Core P o E H (.agg avs) := by
  refine ⟨(by rw [h]; intro c hc; cases hc), fun S w0 γ a w hs => ?_⟩
  obtain ⟨b, j, he, hcell⟩ := hc S w0 γ a w hs
  obtain ⟨hagg, inf, hi, hsz⟩ := aggN_spec ht
  have hex : ∃ xs : List Value, xs.length = avs.length ∧ ∀ q y, xs[q]? = some y → w.cell? ⟨b, j + q, none⟩ = some y ∧ ∀ av, avs[q]? = some av → Conc γ av y := by
    have hall : ∀ q, q < avs.length → ∃ y, w.cell? ⟨b, j + q, none⟩ = some y ∧ ∀ av, avs[q]? = some av → Conc γ av y := fun q hq => by
      obtain ⟨y, hy, hcy⟩ := hcell q avs[q] (by simp [hq])
      exact ⟨y, hy, fun av hav => by rw [List.getElem?_eq_getElem hq] at hav; injection hav with hav; subst hav; exact hcy⟩
    refine ⟨(List.range avs.length).map fun q => (w.cell? ⟨b, j + q, none⟩).getD undef, by simp, fun q y hy => ?_⟩
    rw [List.getElem?_map] at hy
    by_cases hq : q < avs.length
    · obtain ⟨y', hy', hcy⟩ := hall q hq
      simp [hq, hy'] at hy
      subst hy
      exact ⟨hy', hcy⟩
    · simp [hq] at hy
  obtain ⟨xs, hlen, hxs⟩ := hex
  refine ⟨.agg xs.toArray, Conc.agg avs xs hlen.symm fun q av y hav hy => (hxs q y hy).2 av hav, fun w' hb => ?_⟩
  have hl := run_loadCells_list (P := P) w' ⟨b, j, none⟩ xs fun q y hy => by
    rw [Addr.add_lit]
    have := (hxs q y hy).1
    exact (hb.cell (World.block_lt_of_cell? w _ this)).trans this
  have hs2 : (execOp a.eval o) = (do pure (Next.value (← Instr.loadAt t (.pointer (some ⟨b, j, none⟩)))) : Sem Next) := by
    unfold execOp; rw [h]; simp only [he]
  rw [hs2]
  refine run_v ?_
  have e1 : inf.size = xs.length := by omega
  simp [Instr.loadAt, Instr.sureAddr, loadVar, hagg w', sizeOf, typeInfo, hi, e1, hl]
theorem core_loadN_ro {o : Oper} (t : TypeId) (x : Operand) {i z k n : Nat} {cols : List Col} (h : o.op = .load t x) (hx : evO E x = .ept i z k 0) (hl : H.lookup i = some (.ro n cols)) (hz : cols.length = z) (ht : aggN P t = some z) (hk : k < n) : Core P o E H (.agg (cols.map fun c => .v (c.val k))) := by
  refine core_loadN t x h ht (by simpa using hz) fun S w0 γ a w hs => ?_
  obtain ⟨b, o', hA, he⟩ := conc_ept (hx ▸ conc_evO hs x)
  obtain ⟨b2, o2, hA2, hcell⟩ := hs.hp i _ hl (by omega)
  rw [hA] at hA2
  simp only [Option.some.injEq, Addr.mk.injEq, and_true] at hA2
  obtain ⟨rfl, rfl⟩ := hA2
  refine ⟨b, _, he, fun q av hav => ?_⟩
  rw [List.getElem?_map] at hav
  cases hc : cols[q]? with
  | none => rw [hc] at hav; simp at hav
  | some c =>
    rw [hc] at hav
    simp at hav
    subst hav hz
    exact ⟨_, by simpa using hcell k q c hk hc, Conc.v _⟩
theorem core_loadN_rw {o : Oper} (t : TypeId) (x : Operand) {i z k n : Nat} {e : TypeId} {cols : List Col} (h : o.op = .load t x) (hx : evO E x = .ept i z k 0) (hl : H.lookup i = some (.rw e n cols)) (hz : cols.length = z) (ht : aggN P t = some z) (hk : k < n) : Core P o E H (.agg (cols.map fun c => .v (c.val k))) := by
  refine core_loadN t x h ht (by simpa using hz) fun S w0 γ a w hs => ?_
  obtain ⟨b, o', hA, he⟩ := conc_ept (hx ▸ conc_evO hs x)
  refine ⟨b, _, he, fun q av hav => ?_⟩
  rw [List.getElem?_map] at hav
  cases hc : cols[q]? with
  | none => rw [hc] at hav; simp at hav
  | some c =>
    rw [hc] at hav
    simp at hav
    subst hav hz
    exact ⟨_, by simpa using (rw_at (hs.hp i _ hl) hA hk hc).2.1, Conc.v _⟩
theorem core_loadN_box {o : Oper} (t : TypeId) (x : Operand) {i off m : Nat} {cs : List AV} (h : o.op = .load t x) (hx : evO E x = .ptr i off) (hl : H.lookup i = some (.box cs)) (ht : aggN P t = some m) (hle : off + m ≤ cs.length) : Core P o E H (.agg ((cs.drop off).take m)) := by
  refine core_loadN t x h ht (by simp; omega) fun S w0 γ a w hs => ?_
  obtain ⟨b, o', hA, he⟩ := conc_ptr (hx ▸ conc_evO hs x)
  obtain ⟨b2, o2, hA2, hc⟩ := hs.hp i _ hl
  rw [hA] at hA2
  simp only [Option.some.injEq, Addr.mk.injEq, and_true] at hA2
  obtain ⟨rfl, rfl⟩ := hA2
  refine ⟨b, _, he, fun q av hav => ?_⟩
  rw [List.getElem?_take] at hav
  split at hav
  · rw [List.getElem?_drop] at hav
    obtain ⟨⟨y, hy, hcy⟩, _⟩ := hc _ av hav
    exact ⟨y, by rw [Nat.add_assoc]; exact hy, hcy⟩
  · cases hav

/-! ### loops -/
mutual
def AV.ren (σ : Nat → Nat) : AV → AV
  | .v x => .v x
  | .ptr i off => .ptr (σ i) off
  | .ept i z k f => .ept (σ i) z k f
  | .sl i z off len => .sl (σ i) z off len
  | .agg cs => .agg (AV.renL σ cs)
  | .tup cs => .tup (AV.renL σ cs)
  | .fn f cs => .fn f (AV.renL σ cs)
  | .top => .top
def AV.renL (σ : Nat → Nat) : List AV → List AV
  | [] => []
  | a :: r => AV.ren σ a :: AV.renL σ r
end
theorem renL_eq (σ : Nat → Nat) (cs : List AV) : AV.renL σ cs = cs.map (AV.ren σ) := by
  induction cs with
  | nil => rfl
  | cons c cs ih => simp [AV.renL, ih]
def Chunk.ren (σ : Nat → Nat) : Chunk → Chunk
  | .box cs => .box (AV.renL σ cs)
  | c => c
theorem conc_ren {σ : Nat → Nat} {bv : AV} {x : Value} (h : Conc γ bv x) : ∀ av, av.ren σ = bv → Conc (fun i => γ (σ i)) av x := by
  induction h with
  | v x => intro av e; cases av <;> simp [AV.ren] at e; subst e; exact Conc.v _
  | ptr i off b o hA => intro av e; cases av <;> simp [AV.ren] at e; obtain ⟨rfl, rfl⟩ := e; exact Conc.ptr _ _ b o hA
  | ept i z k f b o hA => intro av e; cases av <;> simp [AV.ren] at e; obtain ⟨rfl, rfl, rfl, rfl⟩ := e; exact Conc.ept _ _ _ _ b o hA
  | sl i z off len A c h0 h1 hc => intro av e; cases av <;> simp [AV.ren] at e; obtain ⟨rfl, rfl, rfl, rfl⟩ := e; exact Conc.sl _ _ _ _ A c h0 h1 hc
  | agg cs vs hl _ ih =>
    intro av e; cases av <;> simp [AV.ren] at e
    rename_i cs'
    rw [renL_eq] at e
    subst e
    exact Conc.agg _ vs (by simpa using hl) fun j a y ha hy => ih j _ y (by rw [List.getElem?_map, ha]; rfl) hy a rfl
  | tup cs vs hl _ ih =>
    intro av e; cases av <;> simp [AV.ren] at e
    rw [renL_eq] at e
    subst e
    exact Conc.tup _ vs (by simpa using hl) fun j a y ha hy => ih j _ y (by rw [List.getElem?_map, ha]; rfl) hy a rfl
  | fn f cs vs hl _ ih =>
    intro av e; cases av <;> simp [AV.ren] at e
    obtain ⟨rfl, e⟩ := e
    rw [renL_eq] at e
    subst e
    exact Conc.fn _ _ vs (by simpa using hl) fun j a y ha hy => ih j _ y (by rw [List.getElem?_map, ha]; rfl) hy a rfl
  | top x => intro av e; cases av <;> simp [AV.ren] at e; exact Conc.top _
/-- What the second state says the first one says too, its numbers read by σ. -/
def EntE (σ : Nat → Nat) (E : Env) : Env → Prop
  | [] => True
  | (s, av) :: r => (E.lookup s = some (av.ren σ) ∨ av = .top ∧ (E.lookup s).isSome = true) ∧ EntE σ E r
def EntH (σ : Nat → Nat) (H : Heap) : Heap → Prop
  | [] => True
  | (i, ch) :: r => H.lookup (σ i) = some (ch.ren σ) ∧ EntH σ H r
theorem EntE.get {σ : Nat → Nat} : ∀ {E' : Env}, EntE σ E E' → ∀ {s av}, E'.lookup s = some av → (E.lookup s = some (av.ren σ) ∨ av = .top ∧ (E.lookup s).isSome = true)
  | [], _, s, av, h => by simp at h
  | p :: r, he, s, av, h => by
    rw [show p = (p.1, p.2) from rfl, lookup_cons] at h
    by_cases e : s = p.1
    · rw [if_pos e] at h; injection h with h; subst e h; exact he.1
    · rw [if_neg e] at h; exact EntE.get he.2 h
theorem EntH.get {σ : Nat → Nat} : ∀ {H' : Heap}, EntH σ H H' → ∀ {i ch}, H'.lookup i = some ch → H.lookup (σ i) = some (ch.ren σ)
  | [], _, s, av, h => by simp at h
  | p :: r, he, s, av, h => by
    rw [show p = (p.1, p.2) from rfl, lookup_cons] at h
    by_cases e : s = p.1
    · rw [if_pos e] at h; injection h with h; subst e h; exact he.1
    · rw [if_neg e] at h; exact EntH.get he.2 h
def injB (σ : Nat → Nat) : Heap → Bool
  | [] => true
  | (i, _) :: r => r.all (fun p => p.1 == i || σ p.1 != σ i) && injB σ r
theorem injB_spec {σ : Nat → Nat} : ∀ {H' : Heap}, injB σ H' = true → ∀ p ∈ H', ∀ q ∈ H', p.1 ≠ q.1 → σ p.1 ≠ σ q.1
  | [], _, p, hp, _, _, _ => by simp at hp
  | x :: r, h, p, hp, q, hq, hne => by
    simp only [injB, Bool.and_eq_true, List.all_eq_true] at h
    rcases List.mem_cons.1 hp with rfl | hp' <;> rcases List.mem_cons.1 hq with rfl | hq'
    · exact absurd rfl hne
    · have := h.1 q hq'
      simp at this
      rcases this with e | e
      · exact absurd e.symm hne
      · exact fun e2 => e e2.symm
    · have := h.1 p hp'
      simp at this
      rcases this with e | e
      · exact absurd e hne
      · exact e
    · exact injB_spec h.2 p hp' q hq' hne
theorem chunk_ren_ok {σ : Nat → Nat} {ch : Chunk} {l : Loc} (h : (ch.ren σ).ok γ l w) : ch.ok (fun i => γ (σ i)) l w := by
  cases ch with
  | box cs =>
    obtain ⟨b, o, hA, hc⟩ := h
    refine ⟨b, o, hA, fun j a ha => ?_⟩
    obtain ⟨⟨x, hx, hcx⟩, hf⟩ := hc j (a.ren σ) (by rw [renL_eq, List.getElem?_map, ha]; rfl)
    exact ⟨⟨x, hx, conc_ren hcx a rfl⟩, hf⟩
  | ro n cols => exact h
  | rw t n cols => exact h
theorem chunk_ren_wr (σ : Nat → Nat) (ch : Chunk) : (ch.ren σ).wr = ch.wr := by cases ch <;> rfl
theorem HOk.ent {σ : Nat → Nat} {H' : Heap} (hid : ∀ i, i < S.K → σ i = i) (h : HOk S w0 H γ w) (hH : EntH σ H H') (hi : injB σ H' = true) : HOk S w0 H' (fun i => γ (σ i)) w := by
  refine ⟨fun i ch hl => chunk_ren_ok (h.hp _ _ (hH.get hl)), fun i j ci cj hli hlj hne hw b hb => ?_, fun i ci hli hw b hb => h.wrS _ _ (hH.get hli) (by rw [chunk_ren_wr]; exact hw) b hb, fun i ci hli b hb => h.lt _ _ (hH.get hli) b hb, h.kept, fun i hi => by show γ (σ i) = _; rw [hid i hi]; exact h.anc i hi⟩
  exact h.sep _ _ _ _ (hH.get hli) (hH.get hlj) (injB_spec hi _ (lookup_mem hli) _ (lookup_mem hlj) hne) (by rw [chunk_ren_wr]; exact hw) b hb
theorem EOk.ent {σ : Nat → Nat} {E' : Env} (h : EOk E γ a) (hE : EntE σ E E') : EOk E' (fun i => γ (σ i)) a := fun s av hl => by
  rcases hE.get hl with e | ⟨rfl, e⟩
  · obtain ⟨x, hx, hc⟩ := h s _ e
    exact ⟨x, hx, conc_ren hc av rfl⟩
  · obtain ⟨av', e⟩ := Option.isSome_iff_exists.1 e
    obtain ⟨x, hx, _⟩ := h s _ e
    exact ⟨x, hx, Conc.top x⟩
theorem St.ent {σ : Nat → Nat} {E' : Env} {H' : Heap} (hid : ∀ i, i < S.K → σ i = i) (h : St S w0 E H γ a w) (hE : EntE σ E E') (hH : EntH σ H H') (hi : injB σ H' = true) : St S w0 E' H' (fun i => γ (σ i)) a w :=
  ⟨h.toHOk.ent hid hH hi, h.fr.ent hE, h.defers⟩
section
variable {Q : Exit → Act → World → Prop}
/-- What a round hands on. -/
def Inv {X : Type} (N : Nat) (S : Base) (w0 : World) (I : X → Env × Heap) (μ : X → Nat) (n : Nat) (a : Act) (w : World) : Prop := ∃ x γ, μ x < n ∧ a.tmps.size = N ∧ St S w0 (I x).1 (I x).2 γ a w
/-- A loop: I x is the state at its head, for whatever x; every round lowers μ. -/
theorem SC.loop {X : Type} (I : X → Env × Heap) (μ : X → Nat) (x0 : X) (σ : Nat → Nat) {c : Code} (hid : ∀ i, i < S.K → σ i = i) (hE : EntE σ E (I x0).1) (hH : EntH σ H (I x0).2) (hi : injB σ (I x0).2 = true)
    (round : ∀ x, SC P N S w0 c (Exit.then (Inv N S w0 I μ (μ x)) Q) (I x).1 (I x).2) : SC P N S w0 (.loop c) Q E H := by
  intro γ a w hn hs
  refine wp_loop_ghost (fun n a w => ∃ x γ, μ x = n ∧ a.tmps.size = N ∧ St S w0 (I x).1 (I x).2 γ a w) (μ x0) ⟨x0, _, rfl, hn, hs.ent hid hE hH hi⟩ ?_
  rintro n a w ⟨x, γ, rfl, hn, hs⟩
  refine wp_mono (round x γ a w hn hs) ?_
  intro e a' w' hq
  cases e with
  | normal =>
    obtain ⟨x', γ', hlt, hn', hs'⟩ := hq
    exact ⟨μ x', hlt, x', γ', rfl, hn', hs'⟩
  | _ => exact hq
theorem SP.again {X : Type} {I : X → Env × Heap} {μ : X → Nat} {n : Nat} (x : X) (σ : Nat → Nat) (hid : ∀ i, i < S.K → σ i = i) (hlt : μ x < n) (hE : EntE σ E (I x).1) (hH : EntH σ H (I x).2) (hi : injB σ (I x).2 = true) : SP N S w0 (Exit.then (Inv N S w0 I μ n) Q) .normal E H :=
  fun γ a w hn hs => ⟨x, _, hlt, hn, hs.ent hid hE hH hi⟩
end
/-- a renaming by a list -/
def rn (l : List (Nat × Nat)) : Nat → Nat := fun i => (l.lookup i).getD i
theorem rn_id {l : List (Nat × Nat)} {K : Nat} (h : (List.range K).all (fun i => rn l i == i) = true) : ∀ i, i < K → rn l i = i := fun i hi => by
  rw [List.all_eq_true] at h
  simpa using h i (List.mem_range.2 hi)

/-! ### a function -/
/-- the blocks of what may be written -/
def wrOf (γ : Nat → Loc) (H : Heap) (b : Nat) : Prop := ∃ i ch, H.lookup i = some ch ∧ ch.wr = true ∧ (γ i).blk = some b
/-- WHAT A CALL DOES: it hands back 'res'; what came in as Hin lies as Hout. -/
def FSpec (P : Program) (f : FuncId) (K : Nat) (args : List AV) (Hin : Heap) (res : AV) (Hout : Heap) : Prop :=
  ∀ γ w (vs : List Value), args.length = vs.length → (∀ (j : Nat) (a : AV) (x : Value), args[j]? = some a → vs[j]? = some x → Conc γ a x) → HOk ⟨wrOf γ Hin, K, γ⟩ w Hin γ w →
    Calls P f vs.toArray w fun e w' => ∃ x γ', e = .returned x ∧ Conc γ' res x ∧ HOk ⟨wrOf γ Hin, K, γ⟩ w Hout γ' w'
def argsE : Nat → List AV → Env
  | _, [] => []
  | k, a :: r => (k, a) :: argsE (k + 1) r
theorem argsE_get : ∀ (l : List AV) (k s : Nat) (av : AV), (argsE k l).lookup s = some av → k ≤ s ∧ l[s - k]? = some av
  | [], k, s, av, h => by simp [argsE] at h
  | a :: r, k, s, av, h => by
    rw [argsE, lookup_cons] at h
    by_cases e : s = k
    · rw [if_pos e] at h; injection h with h; subst e h; simp
    · rw [if_neg e] at h
      obtain ⟨h1, h2⟩ := argsE_get r (k + 1) s av h
      refine ⟨by omega, ?_⟩
      rw [show s - k = (s - (k + 1)) + 1 by omega]
      simpa using h2
theorem FSpec.start {f : FuncId} {fn : Func} {c : Code} {K : Nat} {args : List AV} {Hin : Heap} {res : AV} {Hout : Heap} (hf : P.funcs[f]? = some fn) (hb : fn.body = some c) (hn : fn.ntmps = N) (hle : args.length ≤ N)
    (h : ∀ γ0 w0, SC P N ⟨wrOf γ0 Hin, K, γ0⟩ w0 c (bodyPost P fn fun e w' => ∃ x γ', e = .returned x ∧ Conc γ' res x ∧ HOk ⟨wrOf γ0 Hin, K, γ0⟩ w0 Hout γ' w') (argsE 0 args) Hin) : FSpec P f K args Hin res Hout := by
  intro γ w vs hl hc hH
  refine calls_of_wp hf hb (h γ w γ _ w (by simp [hn]; omega) ⟨hH, fun s av hs => ?_, rfl⟩)
  obtain ⟨_, h2⟩ := argsE_get args 0 s av hs
  rw [Nat.sub_zero] at h2
  have hlt : s < vs.length := by rw [← hl]; exact (List.getElem?_eq_some_iff.1 h2).1
  refine ⟨vs[s], ?_, hc s av _ h2 (by simp [hlt])⟩
  rw [Array.getElem?_append_left (by simpa using hlt)]
  simp [hlt]
section
variable {fn : Func} {R : Ending → World → Prop}
theorem SP.ret1 {t : Tmp} {av : AV} (hr : fn.results = #[.tmp t]) (hE : E.lookup t = some av) (h : ∀ γ x w, Conc γ av x → HOk S w0 H γ w → R (.returned x) w) : SP N S w0 (bodyPost P fn R) .ret E H := fun γ a w hn hs => by
  obtain ⟨x, hx, hc⟩ := hs.fr t av hE
  exact bodyPost_ret (results_tmp hr a.tmps P w) hs.defers (by rw [getD_of hx]; exact h γ x w hc hs.toHOk)
theorem SP.ret2 {t u : Tmp} {av bv : AV} (hr : fn.results = #[.tmp t, .tmp u]) (hE : E.lookup t = some av) (hE2 : E.lookup u = some bv) (h : ∀ γ x y w, Conc γ av x → Conc γ bv y → HOk S w0 H γ w → R (.returned (.tuple #[x, y])) w) : SP N S w0 (bodyPost P fn R) .ret E H := fun γ a w hn hs => by
  obtain ⟨x, hx, hc⟩ := hs.fr t av hE
  obtain ⟨y, hy, hc2⟩ := hs.fr u bv hE2
  exact bodyPost_ret (results_tmp2 hr a.tmps P w) hs.defers (by rw [getD_of hx, getD_of hy]; exact h γ x y w hc hc2 hs.toHOk)
theorem SP.ret0 (hr : fn.results = #[]) (h : ∀ γ w, HOk S w0 H γ w → R (.returned (.tuple #[])) w) : SP N S w0 (bodyPost P fn R) .ret E H := fun γ a w hn hs =>
  bodyPost_ret (results_none hr a.tmps P w) hs.defers (h γ w hs.toHOk)
/-- the end of a function whose result is told -/
theorem SP.done1 {t : Tmp} {res av : AV} {Hout : Heap} {γ0 : Nat → Loc} {Sx : Nat → Prop} {K : Nat} (l : List (Nat × Nat)) (hr : fn.results = #[.tmp t]) (hE : E.lookup t = some av) (hav : av = res.ren (rn l)) (hid : (List.range K).all (fun i => rn l i == i) = true) (hH : EntH (rn l) H Hout) (hi : injB (rn l) Hout = true) :
    SP N ⟨Sx, K, γ0⟩ w0 (bodyPost P fn fun e w' => ∃ x γ', e = .returned x ∧ Conc γ' res x ∧ HOk ⟨Sx, K, γ0⟩ w0 Hout γ' w') .ret E H :=
  SP.ret1 hr hE fun _γ x _w hc hok => ⟨x, _, rfl, conc_ren hc res hav.symm, hok.ent (rn_id hid) hH hi⟩
theorem SP.done2 {t u : Tmp} {res av bv : AV} {Hout : Heap} {γ0 : Nat → Loc} {Sx : Nat → Prop} {K : Nat} (l : List (Nat × Nat)) (hr : fn.results = #[.tmp t, .tmp u]) (hE : E.lookup t = some av) (hE2 : E.lookup u = some bv) (hav : .tup [av, bv] = res.ren (rn l)) (hid : (List.range K).all (fun i => rn l i == i) = true) (hH : EntH (rn l) H Hout) (hi : injB (rn l) Hout = true) :
    SP N ⟨Sx, K, γ0⟩ w0 (bodyPost P fn fun e w' => ∃ x γ', e = .returned x ∧ Conc γ' res x ∧ HOk ⟨Sx, K, γ0⟩ w0 Hout γ' w') .ret E H :=
  SP.ret2 hr hE hE2 fun _γ x y _w hc hc2 hok => ⟨.tuple #[x, y], _, rfl, conc_ren (Conc.tup [av, bv] [x, y] rfl fun j a v ha hv => by
    match j with
    | 0 => simp at ha hv; subst ha hv; exact hc
    | 1 => simp at ha hv; subst ha hv; exact hc2
    | j + 2 => simp at ha) res hav.symm, hok.ent (rn_id hid) hH hi⟩
end
end Go.Proofs.Ytcgopcfbgkhpgaa.Sx
