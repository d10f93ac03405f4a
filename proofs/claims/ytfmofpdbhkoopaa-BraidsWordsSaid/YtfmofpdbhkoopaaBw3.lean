/- Laid together: The reckoner: a region's operations in whatever order. No program is named. The reckoner: regions that draw their order. No program is named. The reckoner: the run of a drawn region in the order of the text, with one table of slots that is carried on. No program is named. The reckoner: the handler of regions that draw their order. No program is named. The reckoner: long calls in parts: a state in few words, and what lies between two of them. No program is named. Sequences of open length that a call owns: they are read, written, lengthened, cut. No program is named. More on sequences of open length: cut, made, joined. No program is named. Steps over states with open leaves: read-only arguments, open indices, decided branches. No program is named. Runs over states with open leaves. No program is named. Between two places of a run over open leaves: what is kept, and numbers anew. No program is named. A call with open arguments that are only read: what its run says. No program is named. Calls whose outcome was said beforehand, with open arguments. No program is named. Runs over open leaves that fork: one run says what comes of all cases. No program is named. What is kept at a place, with new numbers; nil as a sequence. No program is named. Runs over open leaves to a place, with new numbers there; calls. No program is named. -/
import Derived.Test.YtfmofpdbhkoopaaBw2
namespace Go.Proofs.Ytfmofpdbhkoopaa.Ev
open Go.RowKit Go.MapKept
variable {P : Program} {γ γ' : G} {w0 : Bs} {w : World} {H H' : Tr EK} {n n' : Nat} {T T0 : Tr EV} {cs : List Frame} {fid : FuncId} {FT : Tr FI} {o : Oper}

theorem ancOf_mem2 {A : List Nat} : ∀ {l : List Nat} {d j : Nat}, d ∈ l → tb (atA A d) j = true → tb (ancOf A l) j = true
  | e :: l, d, j, h, hj => by
    have e1 : ancOf A (e :: l) = (2 ^ e ||| atA A e) ||| ancOf A l := rfl
    rw [tb_eq, e1, Nat.testBit_or, Nat.testBit_or]
    rcases List.mem_cons.1 h with rfl | h
    · rw [tb_eq] at hj; rw [hj]; simp
    · have := ancOf_mem2 (A := A) h hj
      rw [tb_eq] at this; rw [this]; simp
theorem Stat.trans {ops : Array Oper} {A : List Nat} (h : Stat ops A) : ∀ (i : Nat) (o : Oper), ops[i]? = some o → ∀ q j, tb (atA A i) q = true → tb (atA A q) j = true → tb (atA A i) j = true := by
  intro i
  induction i using Nat.strongRecOn with
  | _ i ih =>
    intro o ho q j hq hj
    have hq2 := hq
    rw [h.anc i o ho] at hq ⊢
    rcases ancOf_bit hq with h1 | ⟨d, hd, h1⟩
    · exact ancOf_mem2 h1 hj
    · have hlt := h.lt i o ho d hd
      have hi : i < ops.size := (Array.getElem?_eq_some_iff.1 ho).1
      exact ancOf_mem2 hd (ih d hlt ops[d] (by simp [show d < ops.size by omega]) q j h1 hj)
theorem dropE_id {d : TypeDesc} {k : Value} : ∀ {es : List (Value × EV)}, (∀ p ∈ es, kEq d k p.1 = false) → dropE d k es = es
  | [], _ => rfl
  | p :: es, h => by
    have e : dropE d k (p :: es) = bc (kEq d k p.1) (dropE d k es) (p :: dropE d k es) := rfl
    rw [e, h p (by simp), dropE_id fun q hq => h q (by simp [hq])]; rfl
theorem ML.perm {es es' : List (Value × EV)} {l : List (Value × Value)} (h : ML γ es l) (hp : es.Perm es') : ∃ l', l.Perm l' ∧ ML γ es' l' := by
  induction hp generalizing l with
  | nil => exact ⟨l, .refl _, h⟩
  | cons x _ ih =>
    cases h with
    | cons k hc hr =>
      obtain ⟨l', h1, h2⟩ := ih hr
      exact ⟨_, h1.cons _, .cons k hc h2⟩
  | swap x y l0 =>
    cases h with
    | cons k hc hr =>
      cases hr with
      | cons k2 hc2 hr2 => exact ⟨_, .swap .., .cons k2 hc2 (.cons k hc hr2)⟩
  | trans _ _ ih1 ih2 =>
    obtain ⟨l1, h1, h2⟩ := ih1 h
    obtain ⟨l2, h3, h4⟩ := ih2 h2
    exact ⟨l2, h1.trans h3, h4⟩
theorem insL_ins {D : Nat → Bool} {R : List Rec} {i j : Nat} {r : Rec} {d : TypeDesc} {k : Value} {a : EV} (hr : R[i]? = some r) (hi : r.In = some (j, d, k, a)) (hn : D i = false) : (insL (ins D i) j R 0).Perm ((k, a) :: insL D j R 0) := by
  obtain ⟨e1, e2⟩ := split_at hr
  have h1 : insL (ins D i) j (R.take i) 0 = insL D j (R.take i) 0 := insL_congr fun z p d kv a hz _ => by
    rw [Nat.zero_add]
    unfold ins
    have : z < (R.take i).length := (List.getElem?_eq_some_iff.1 hz).1
    rw [if_neg (by omega)]
  have h2 : insL (ins D i) j (R.drop (i + 1)) (i + 1) = insL D j (R.drop (i + 1)) (i + 1) := insL_congr fun z p d kv a hz _ => by
    unfold ins
    rw [if_neg (by omega)]
  have h3 : insL (ins D i) j R 0 = insL D j (R.take i) 0 ++ (k, a) :: insL D j (R.drop (i + 1)) (i + 1) := by
    conv => lhs; rw [e1]
    rw [insL_append, e2, insL_cons, hi, Nat.zero_add]
    simp only
    rw [if_pos ⟨trivial, by simp [ins]⟩, h1, h2]
  have h4 : insL D j R 0 = insL D j (R.take i) 0 ++ insL D j (R.drop (i + 1)) (i + 1) := by
    conv => lhs; rw [e1]
    rw [insL_append, e2, insL_cons, hi, Nat.zero_add]
    simp only
    rw [if_neg (fun e => by rw [hn] at e; cases e.2)]
  rw [h3, h4]
  exact List.perm_middle
section
variable {sub : Sub} {q : QF} {RO : Tr (TypeId × SyC)} {ops : Array Oper} {A : List Nat} {n0 : Nat} {M0 : Mm} {R : List Rec} (hR : Run P sub q RO ops A T0 n0 M0 R)
include hR
/-- the slots behind D and one more -/
theorem Run.lw_ins {D : Nat → Bool} (hg : Good A ops.size D) {i : Nat} {r : Rec} (ho : ops[i]? = some o) (hr : R[i]? = some r) (hn : D i = false) (s : Nat) :
    lw (ins D i) s (ops.toList.zip R) 0 (T0.get s) = if o.dst = some s then some r.V else lw D s (ops.toList.zip R) 0 (T0.get s) := by
  by_cases hd : o.dst = some s
  · rw [if_pos hd]
    have hz : (ops.toList.zip R)[i]? = some (o, r) := zip_get.2 ⟨ho, hr⟩
    obtain ⟨e1, e2⟩ := split_at hz
    rw [e1, lw_append, lw_cons, e2, Nat.zero_add, if_pos ⟨by simp [ins], hd⟩]
    refine lw_none fun j p hj hp => ?_
    rw [List.getElem?_drop] at hj
    obtain ⟨h1, h2⟩ := zip_get.1 hj
    have hlt : i + 1 + j < ops.size := (Array.getElem?_eq_some_iff.1 h1).1
    have h3 := hR.st.wr (i + 1 + j) i p.1 o s h1 ho (by omega) hp hd
    show ins D i (i + 1 + j) = false
    unfold ins
    rw [if_neg (by omega)]
    cases hD : D (i + 1 + j) with
    | false => rfl
    | true => have := hg _ hlt hD i h3; rw [hn] at this; cases this
  · rw [if_neg hd]
    refine lw_congr fun j p hj hp => ?_
    rw [Nat.zero_add]
    unfold ins
    by_cases e : j = i
    · subst e
      obtain ⟨h1, _⟩ := zip_get.1 hj
      rw [ho] at h1; injection h1 with h1; subst h1
      exact absurd hp hd
    · rw [if_neg e]
/-- behind D: what the last loud operation has before it has run -/
theorem Run.mask {D : Nat → Bool} (hg : Good A ops.size D) {j : Nat} (h : tb (md D R 0 M0).a j = true) : D j = true := by
  rcases md_cases D R 0 M0 with ⟨e, _⟩ | ⟨q, rq, h1, h2, h3, _, h5⟩
  · rw [e, hR.a0, tb_eq] at h; simp at h
  · rw [h5] at h
    have hq : q < ops.size := by rw [← hR.len]; exact (List.getElem?_eq_some_iff.1 h1).1
    obtain ⟨r, hr, hx⟩ := hR.step q ops[q] (by simp [hq])
    rw [h1] at hr; injection hr with hr; subst hr
    rw [(exRec_loud hx h2).1] at h
    exact hg q hq (by simpa using h3) j h
theorem Run.freeD {D : Nat → Bool} {j : Nat} {r : Rec} {c : EK} (hr : R[j]? = some r) (hc : r.Fr = some c) (h : tb (md D R 0 M0).a j = false) : (md D R 0 M0).H.get (n0 + j) = none := by
  obtain ⟨h1, h2⟩ := hR.free j r c hr hc
  rcases md_cases D R 0 M0 with ⟨e, _⟩ | ⟨q, rq, g1, g2, g3, _, g5⟩
  · rw [e]; exact h1
  · rw [g5] at h ⊢
    exact h2 q rq g1 g2 h
theorem Run.kd {D : Nat → Bool} {b : Nat} : (KD D n0 R M0).get b = (fV (mpF D R) n0 0 R b).or ((frV (fun j => bc (tb (md D R 0 M0).a j) false (D j)) n0 0 R b).or ((md D R 0 M0).H.get b)) := by
  unfold KD
  rw [fT_get (by rw [hR.len]; exact hR.room), frT_get (by rw [hR.len]; exact hR.room)]
theorem Run.mpRec {j : Nat} {r : Rec} (hr : R[j]? = some r) (hm : r.Mp = true) : r.Fr = none ∧ r.In = none := by
  have hj : j < ops.size := by rw [← hR.len]; exact (List.getElem?_eq_some_iff.1 hr).1
  obtain ⟨r2, h1, h2⟩ := hR.step j ops[j] (by simp [hj])
  rw [hr] at h1; injection h1 with h1; subst h1
  exact exRec_mp h2 hm
theorem Run.mpNone {D : Nat → Bool} {j : Nat} {r : Rec} (hr : R[j]? = some r) (hm : r.Mp = true) : (md D R 0 M0).H.get (n0 + j) = none := by
  obtain ⟨h1, h2⟩ := hR.freeM j r hr hm
  rcases md_cases D R 0 M0 with ⟨e, _⟩ | ⟨q, rq, g1, g2, g3, _, g5⟩
  · rw [e]; exact h1
  · rw [g5]; exact h2 q rq g1 g2
omit hR in
/-- the maps behind D and an operation that is none of theirs -/
theorem Run.mpSame {D : Nat → Bool} {i : Nat} {r : Rec} (hr : R[i]? = some r) (hm : r.Mp = false) (hi : r.In = none) {b : Nat} : fV (mpF (ins D i) R) n0 0 R b = fV (mpF D R) n0 0 R b := by
  refine fV_congr fun j p _ hp => ?_
  have e : insL (ins D i) j R 0 = insL D j R 0 := insL_congr fun z q d kv a hq hin => by
    rw [Nat.zero_add]
    unfold ins
    have hne : z ≠ i := fun e => by subst e; rw [hr] at hq; injection hq with hq; subst hq; rw [hi] at hin; cases hin
    rw [if_neg hne]
  unfold mpF
  rw [e]
  by_cases hj : j = i
  · subst hj; rw [hr] at hp; injection hp with hp; subst hp; rw [hm]; rfl
  · simp [ins, hj]
theorem Run.vis {i : Nat} {M : Mm} {b : Nat} : (vis A n0 (R.take i) i M).get b = (frV (fun j => bc (tb M.a j) false (tb (atA A i) j)) n0 0 (R.take i) b).or (M.H.get b) := frT_get (by have := hR.len; have := hR.room; simp; omega)
/-- what an operation sees is there -/
theorem Run.visMp {D : Nat → Bool} {i j : Nat} {r : Rec} (hr : R[j]? = some r) (hm : r.Mp = true) : (Ev.vis A n0 (R.take i) i (md D R 0 M0)).get (n0 + j) = none := by
  rw [hR.vis]
  have hz : frV (fun j => bc (tb (md D R 0 M0).a j) false (tb (atA A i) j)) n0 0 (R.take i) (n0 + j) = none := by
    cases e : frV (fun j => bc (tb (md D R 0 M0).a j) false (tb (atA A i) j)) n0 0 (R.take i) (n0 + j) with
    | none => rfl
    | some c =>
      obtain ⟨j2, r2, e1, e2, _, e3⟩ := frV_some.1 e
      have : j2 = j := by omega
      subst this
      rw [List.getElem?_take] at e2
      split at e2
      · rw [hr] at e2; injection e2 with e2; subst e2
        rw [(hR.mpRec hr hm).1] at e3; cases e3
      · cases e2
  rw [hz, Option.none_or]; exact hR.mpNone hr hm
theorem Run.sees {D : Nat → Bool} {i : Nat} (hA : ∀ j, tb (atA A i) j = true → D j = true) {b : Nat} {k : EK} (h : (Ev.vis A n0 (R.take i) i (md D R 0 M0)).get b = some k) : (KD D n0 R M0).get b = some k := by
  rw [hR.kd]
  have hmp : fV (mpF D R) n0 0 R b = none := by
    cases e : fV (mpF D R) n0 0 R b with
    | none => rfl
    | some c =>
      obtain ⟨j, r, rfl, e1, e2⟩ := fV_some.1 e
      rw [hR.visMp e1 (mpF_some.1 e2).1] at h; cases h
  rw [hmp, Option.none_or]
  rw [hR.vis] at h
  cases hv : frV (fun j => bc (tb (md D R 0 M0).a j) false (tb (atA A i) j)) n0 0 (R.take i) b with
  | some c =>
    rw [hv] at h
    simp at h; subst h
    obtain ⟨j, r, rfl, hr, hD, hc⟩ := frV_some.1 hv
    have : frV (fun j => bc (tb (md D R 0 M0).a j) false (D j)) n0 0 R (n0 + j) = some c := by
      refine frV_some.2 ⟨j, r, rfl, ?_, ?_, hc⟩
      · rw [List.getElem?_take] at hr
        split at hr
        · exact hr
        · cases hr
      · simp only [bc_eq] at hD ⊢
        by_cases e : tb (md D R 0 M0).a j = true
        · rw [if_pos e] at hD; cases hD
        · rw [if_neg e] at hD ⊢; exact hA j hD
    rw [this]; rfl
  | none =>
    rw [hv, Option.none_or] at h
    cases hv2 : frV (fun j => bc (tb (md D R 0 M0).a j) false (D j)) n0 0 R b with
    | none => rw [Option.none_or]; exact h
    | some c =>
      obtain ⟨j, r, rfl, hr, hD, hc⟩ := frV_some.1 hv2
      simp only [bc_eq] at hD
      by_cases e : tb (md D R 0 M0).a j = true
      · rw [if_pos e] at hD; cases hD
      · have := hR.freeD (D := D) hr hc (by simpa using e)
        rw [this] at h; cases h
omit hR in
theorem HR.lessRes {r r' : Nat → Prop} (h : HR γ (w0.withRes r) H n w) (e : ∀ i, r' i → r i) : HR γ (w0.withRes r') H n w :=
  ⟨h.hp0, h.inj0, h.fresh, fun i hi => h.rsv i (e i hi), h.lt, ⟨h.stays.os, h.stays.tape, h.stays.output, h.stays.size, h.stays.block⟩⟩
theorem Run.any {D : Nat → Bool} (hRO : ROk γ w0 RO) (hsub : LoudOk P sub) (hres : ∀ q, w0.res q → q < n0) {fn : FuncId} {tmps : Array Value} {i : Nat} {rest : List Nat} {k : List Item} {ds : List Deferred} {ro : Option Nat} {N : Nat}
    (hg : Good A ops.size D) (ho : ops[i]? = some o) (hn : D i = false) (hd : ∀ d ∈ deps o, D d = true) (hT : TD γ ops T0 R D tmps) (hN : tmps.size = N) (hdst : ∀ d, o.dst = some d → d < N) (hH : HD γ w0 ops.size D n0 R M0 w) :
    ∃ γ' tmps' w', GLe γ γ' ∧ Steps P (lone (fram fn tmps (.inRegion ops (i :: rest) :: k) ds ro) cs w) (lone (fram fn tmps' (.inRegion ops rest :: k) ds ro) cs w') ∧ TD γ' ops T0 R (ins D i) tmps' ∧ tmps'.size = N ∧ HD γ' w0 ops.size (ins D i) n0 R M0 w' := by
  obtain ⟨r, hr, hx⟩ := hR.step i o ho
  have hA := hR.st.sub hg ho hd
  have hi : i < ops.size := (Array.getElem?_eq_some_iff.1 ho).1
  have hTi : TOk γ (tabAt ops A T0 (R.take i) i o) tmps := fun s a hs => by
    obtain ⟨h1, h2⟩ := restr_get hs
    rw [hR.slots hg ho hA hn h1] at h2
    exact hT s a h2
  -- what the slots hold behind it
  have fin : ∀ (γ' : G) (x : Value), GLe γ γ' → EC γ' r.V x → TD γ' ops T0 R (ins D i) (putD tmps o.dst x) ∧ (putD tmps o.dst x).size = N := fun γ' x hle hc => by
    refine ⟨fun s a hs => ?_, by unfold putD; split <;> simp [hN]⟩
    rw [hR.lw_ins hg ho hr hn s] at hs
    by_cases e : o.dst = some s
    · rw [if_pos e] at hs; injection hs with hs; subst hs
      refine ⟨x, ?_, hc⟩
      have := hdst s e
      simp [putD, e, hN, this]
    · rw [if_neg e] at hs
      obtain ⟨y, hy, hcy⟩ := hT s a hs
      refine ⟨y, ?_, hcy.mono hle⟩
      cases hdd : o.dst with
      | none => exact hy
      | some d =>
        have : d ≠ s := fun e2 => e (by rw [hdd, e2])
        show (tmps.setIfInBounds d x)[s]? = some y
        rw [Array.getElem?_setIfInBounds_ne this]; exact hy
  have same : r.L = false → md (ins D i) R 0 M0 = md D R 0 M0 := fun hl => md_congr fun j p hj hp => by
    rw [Nat.zero_add]
    unfold ins
    by_cases e : j = i
    · subst e; rw [hr] at hj; injection hj with hj; subst hj; rw [hl] at hp; cases hp
    · rw [if_neg e]
  have less : ∀ q, (w0.res q ∨ ∃ j, j < ops.size ∧ ins D i j = false ∧ q = n0 + j) → (w0.res q ∨ ∃ j, j < ops.size ∧ D j = false ∧ q = n0 + j) := fun q hq => by
    rcases hq with hq | ⟨j, h1, h2, h3⟩
    · exact .inl hq
    · refine .inr ⟨j, h1, ?_, h3⟩
      unfold ins at h2
      split at h2
      · cases h2
      · exact h2
  -- nothing is made: the same table
  have sameK : r.L = false → r.Fr = none → r.Mp = false → r.In = none → ∀ b k, (KD (ins D i) n0 R M0).get b = some k → (KD D n0 R M0).get b = some k := fun hl hf hmp hin b k hk => by
    rw [hR.kd, same hl, Run.mpSame hr hmp hin] at hk
    rw [hR.kd]
    have : frV (fun j => bc (tb (md D R 0 M0).a j) false (ins D i j)) n0 0 R b = frV (fun j => bc (tb (md D R 0 M0).a j) false (D j)) n0 0 R b := by
      apply Option.ext
      intro c
      rw [frV_some, frV_some]
      constructor
      · rintro ⟨j, rj, rfl, h1, h2, h3⟩
        refine ⟨j, rj, rfl, h1, ?_, h3⟩
        have hne : j ≠ i := fun e => by subst e; rw [hr] at h1; injection h1 with h1; subst h1; rw [hf] at h3; cases h3
        simpa [ins, hne] using h2
      · rintro ⟨j, rj, rfl, h1, h2, h3⟩
        refine ⟨j, rj, rfl, h1, ?_, h3⟩
        have hne : j ≠ i := fun e => by subst e; rw [hr] at h1; injection h1 with h1; subst h1; rw [hf] at h3; cases h3
        simpa [ins, hne] using h2
    rw [this] at hk
    exact hk
  unfold exRec at hx
  split at hx
  · rename_i hgd
    injection hx with hx
    have hw := exGuard_ok hTi hgd
    have hV : r.V = .v undef := by rw [← hx]
    have hL : r.L = false := by rw [← hx]
    have hF : r.Fr = none := by rw [← hx]
    have hMp : r.Mp = false := by rw [← hx]
    have hIn : r.In = none := by rw [← hx]
    obtain ⟨f1, f2⟩ := fin γ undef (GLe.refl γ) (by rw [hV]; exact .v _)
    refine ⟨γ, _, w, GLe.refl γ, .one (st_opSkip ho hw), f1, f2, ?_⟩
    unfold HD at hH ⊢
    rw [same hL]
    exact (hH.congr (sameK hL hF hMp hIn)).lessRes less
  · rename_i hgd
    have hw := exGuard_ok hTi hgd
    split at hx
    · rename_i a c hfr
      injection hx with hx
      have hL : r.L = false := by rw [← hx]; exact recFr_L.1
      have hV : r.V = a := by rw [← hx]; exact recFr_L.2.1
      have hIn : r.In = none := by rw [← hx]; exact recFr_L.2.2.2
      have hroom := hR.room
      obtain ⟨ob, cm, x, hrun, hall⟩ := exFr_ok hTi hfr w
      obtain ⟨q1, q2⟩ := hH.rsv (n0 + i) (.inr ⟨i, hi, hn, rfl⟩)
      have hle : GLe γ (γ.upd (n0 + i) (⟨w.heap.size, 0⟩, cm)) := G.upd_le q1
      obtain ⟨g1, g2⟩ := hall _ hle G.upd_same
      have hd2 : notDefer o.op = true := by
        unfold exFr at hfr
        split at hfr
        all_goals first | (rename_i hop; simp [hop, notDefer]; done) | cases hfr
      obtain ⟨f1, f2⟩ := fin _ x hle (by rw [hV]; exact g1)
      refine ⟨_, _, w.alloc ob, hle, .one (st_opValue ho hw hd2 hrun), f1, f2, ?_⟩
      unfold HD at hH ⊢
      rw [same hL]
      have hnew := hH.newAt q1 q2 (Nat.ble_eq_true_of_le (by omega)) (res := fun q => w0.res q ∨ ∃ j, j < ops.size ∧ ins D i j = false ∧ q = n0 + j) (fun q hq => ⟨less q hq, fun e => by
        rcases hq with hq | ⟨j, h1, h2, h3⟩
        · have := hres q hq
          omega
        · have : j = i := by omega
          subst this
          simp [ins] at h2⟩) g2
      refine hnew.congr fun b k hk => ?_
      rw [hR.kd, same hL] at hk
      rw [Tr.get_put (Nat.ble_eq_true_of_le (by omega)), hR.kd]
      have others : b ≠ n0 + i → frV (fun j => bc (tb (md D R 0 M0).a j) false (ins D i j)) n0 0 R b = frV (fun j => bc (tb (md D R 0 M0).a j) false (D j)) n0 0 R b := fun hb => by
        apply Option.ext
        intro c
        rw [frV_some, frV_some]
        constructor
        · rintro ⟨j, rj, rfl, h1, h2, h3⟩
          have hne : j ≠ i := fun e => hb (by rw [e])
          exact ⟨j, rj, rfl, h1, by simpa [ins, hne] using h2, h3⟩
        · rintro ⟨j, rj, rfl, h1, h2, h3⟩
          have hne : j ≠ i := fun e => hb (by rw [e])
          exact ⟨j, rj, rfl, h1, by simpa [ins, hne] using h2, h3⟩
      have othersM : b ≠ n0 + i → fV (mpF (ins D i) R) n0 0 R b = fV (mpF D R) n0 0 R b := fun hb => by
        refine fV_congr fun j p e hp => ?_
        have hne : j ≠ i := fun e2 => hb (by rw [e, e2])
        have e : insL (ins D i) j R 0 = insL D j R 0 := insL_congr fun z q d kv a hq hin => by
          rw [Nat.zero_add]
          unfold ins
          have hne : z ≠ i := fun e => by subst e; rw [hr] at hq; injection hq with hq; subst hq; rw [hIn] at hin; cases hin
          rw [if_neg hne]
        unfold mpF
        rw [e]
        simp [ins, hne]
      by_cases hb : b = n0 + i
      · rw [if_pos hb]
        by_cases hMp : r.Mp = true
        · have hc : c = .mp [] := by
            rw [← hx] at hMp
            unfold recFr at hMp
            split at hMp
            · rename_i es; rw [exFr_mp hfr]
            · cases hMp
          have he : insL (ins D i) i R 0 = [] := by
            apply List.eq_nil_iff_forall_not_mem.2
            intro p hp
            obtain ⟨z, rz, d, h1, h2, h3⟩ := insL_mem hp
            rw [Nat.zero_add] at h3
            have hzi : z ≠ i := fun e => by subst e; rw [hr] at h1; injection h1 with h1; subst h1; rw [hIn] at h2; cases h2
            have hz : z < ops.size := by rw [← hR.len]; exact (List.getElem?_eq_some_iff.1 h1).1
            have := hg z hz (by simpa [ins, hzi] using h3) i (hR.insok z rz i d p.1 p.2 h1 h2).2.1
            rw [hn] at this; cases this
          have : fV (mpF (ins D i) R) n0 0 R b = some c := fV_some.2 ⟨i, r, hb, hr, mpF_some.2 ⟨hMp, by simp [ins], by rw [he, hc]⟩⟩
          rw [this] at hk
          simpa using hk
        · have hMp : r.Mp = false := by simpa using hMp
          have hF : r.Fr = some c := by
            rw [← hx] at hMp ⊢
            unfold recFr at hMp ⊢
            split
            · simp only at hMp; cases hMp
            · rfl
          have hz : fV (mpF (ins D i) R) n0 0 R b = none := by
            cases e : fV (mpF (ins D i) R) n0 0 R b with
            | none => rfl
            | some c2 =>
              obtain ⟨j, r2, e1, e2, e3⟩ := fV_some.1 e
              have : j = i := by omega
              subst this
              rw [hr] at e2; injection e2 with e2; subst e2
              rw [(mpF_some.1 e3).1] at hMp; cases hMp
          have : frV (fun j => bc (tb (md D R 0 M0).a j) false (ins D i j)) n0 0 R b = some c := by
            refine frV_some.2 ⟨i, r, hb, hr, ?_, hF⟩
            have : tb (md D R 0 M0).a i = false := by
              cases e : tb (md D R 0 M0).a i with
              | false => rfl
              | true => have := hR.mask hg e; rw [hn] at this; cases this
            simp [this, bc_eq, ins]
          rw [hz, Option.none_or, this] at hk
          simpa using hk
      · rw [if_neg hb]
        rw [others hb, othersM hb] at hk
        exact hk
    · rename_i hnf
      split at hx
      · rename_i u hu
        obtain ⟨jm, d, kv, a⟩ := u
        injection hx with hx
        have hL : r.L = false := by rw [← hx]
        have hV : r.V = .v undef := by rw [← hx]
        have hF : r.Fr = none := by rw [← hx]
        have hMp : r.Mp = false := by rw [← hx]
        have hIn : r.In = some (jm, d, kv, a) := by rw [← hx]
        have hroom := hR.room
        obtain ⟨⟨rj, hrj, hrm⟩, hanc, hkeys⟩ := hR.insok i r jm d kv a hr hIn
        have hDj := hA jm hanc
        have hjl : jm < ops.size := by rw [← hR.len]; exact (List.getElem?_eq_some_iff.1 hrj).1
        obtain ⟨t, kt, et, b, q, x, ⟨t2, m2, k2, x2, hop⟩, he, hγ, hcx, hK, hu1, hu2⟩ := exIns_ok hTi hu
        have hget : (KD D n0 R M0).get (n0 + jm) = some (.mp (insL D jm R 0)) := by
          rw [hR.kd, fV_some.2 ⟨jm, rj, rfl, hrj, mpF_some.2 ⟨hrm, hDj, rfl⟩⟩]; rfl
        unfold HD at hH
        obtain ⟨b2, m3, h1, _, ents, clock, l, h2, h3, h4, h5⟩ := hH.hp _ _ hget
        rw [hγ] at h1
        simp only [Option.some.injEq, Prod.mk.injEq] at h1
        obtain ⟨rfl, rfl⟩ := h1
        have hall : ∀ p ∈ insL D jm R 0, IsKey d p.1 ∧ kEq d kv p.1 = false := fun p hp => by
          obtain ⟨z, rz, d', g1, g2, g3⟩ := insL_mem hp
          rw [Nat.zero_add] at g3
          obtain ⟨g4, g5⟩ := hkeys z rz d' p.1 p.2 g1 g2
          exact ⟨isKeyB_ok g4, g5 fun e => by subst e; rw [hn] at g3; cases g3⟩
        obtain ⟨ents', clock', r1, r2, l', r3, r4⟩ := mp_set (w := w) hu1 hu2 hK (fun p hp => (hall p hp).1) h2 h3 h4 h5 hcx
        have hperm : (insL (ins D i) jm R 0).Perm (setEnt d kv a (insL D jm R 0)) := by
          unfold setEnt
          rw [dropE_id fun p hp => (hall p hp).2]
          exact insL_ins hr hIn hn
        obtain ⟨l2, hl2, hm2⟩ := ML.perm r4 hperm.symm
        have hlt := (Array.getElem?_eq_some_iff.1 h2).1
        obtain ⟨f1, f2⟩ := fin γ undef (GLe.refl γ) (by rw [hV]; exact .v _)
        have hrun : (execOp (opEval tmps) o).run P w = .ok .skip (w.putObj b.k (.map ents' clock')) := by
          rw [he]; simp [r1, Result.andThen]
        refine ⟨γ, _, w.putObj b.k (.map ents' clock'), GLe.refl γ, .one (st_opDone ho hw (by rw [hop]; rfl) hrun), f1, f2, ?_⟩
        unfold HD
        rw [same hL]
        have hble : Nat.ble (n0 + jm) 65535 = true := Nat.ble_eq_true_of_le (by omega)
        have hturn := hH.turn (w' := w.putObj b.k (.map ents' clock')) hble hget hγ (.mp (insL (ins D i) jm R 0)) (fun c hc => World.putObj_heap_other hc) (by simp) rfl rfl rfl ⟨ents', clock', l2, World.putObj_heap_same hlt, r2, r3.trans hl2, hm2⟩
        refine (hturn.congr fun b3 c hc => ?_).lessRes less
        rw [Tr.get_put hble]
        by_cases hb : b3 = n0 + jm
        · rw [if_pos hb]
          subst hb
          rw [hR.kd, fV_some.2 ⟨jm, rj, rfl, hrj, mpF_some.2 ⟨hrm, by simp [ins, hDj], rfl⟩⟩] at hc
          simpa using hc
        · rw [if_neg hb]
          rw [hR.kd, same hL] at hc
          rw [hR.kd]
          have e1 : fV (mpF (ins D i) R) n0 0 R b3 = fV (mpF D R) n0 0 R b3 := fV_congr fun j p e hp => by
            have hne : j ≠ jm := fun e2 => hb (by rw [e, e2])
            have e : insL (ins D i) j R 0 = insL D j R 0 := insL_congr fun z q2 d2 kv2 a2 hq hin => by
              rw [Nat.zero_add]
              unfold ins
              have hnz : z ≠ i := fun e => by
                subst e; rw [hr] at hq; injection hq with hq; subst hq; rw [hIn] at hin
                injection hin with hin
                exact hne (congrArg (·.1) hin).symm
              rw [if_neg hnz]
            unfold mpF
            rw [e]
            by_cases hj : j = i
            · subst hj; rw [hr] at hp; injection hp with hp; subst hp; rw [hMp]; rfl
            · simp [ins, hj]
          have e2 : frV (fun j => bc (tb (md D R 0 M0).a j) false (ins D i j)) n0 0 R b3 = frV (fun j => bc (tb (md D R 0 M0).a j) false (D j)) n0 0 R b3 := by
            apply Option.ext
            intro c
            rw [frV_some, frV_some]
            constructor
            · rintro ⟨j, rj, rfl, h1, h2, h3⟩
              refine ⟨j, rj, rfl, h1, ?_, h3⟩
              have hne : j ≠ i := fun e => by subst e; rw [hr] at h1; injection h1 with h1; subst h1; rw [hF] at h3; cases h3
              simpa [ins, hne] using h2
            · rintro ⟨j, rj, rfl, h1, h2, h3⟩
              refine ⟨j, rj, rfl, h1, ?_, h3⟩
              have hne : j ≠ i := fun e => by subst e; rw [hr] at h1; injection h1 with h1; subst h1; rw [hF] at h3; cases h3
              simpa [ins, hne] using h2
          rw [e1, e2] at hc
          exact hc
      rename_i hni
      rw [bc_eq] at hx
      split at hx
      · rename_i hq
        split at hx
        case h_2 => cases hx
        rename_i a ha
        injection hx with hx
        have hL : r.L = false := by rw [← hx]
        have hF : r.Fr = none := by rw [← hx]
        have hMp : r.Mp = false := by rw [← hx]
        have hIn : r.In = none := by rw [← hx]
        have hQ := hR.quiet i o r ho hr hq hgd hnf hni D hg hA hn
        have hsee : ∀ b k, (Ev.vis A n0 (R.take i) i (md D R 0 M0)).get b = some k → (KD D n0 R M0).get b = some k := fun b k => hR.sees hA
        unfold HD at hH
        obtain ⟨γ', w', x, hle, hH2, hrun, hc⟩ := hR.qok i o ho hq hgd _ _ _ _ _ _ _ (ROk.part hH (hRO.res _) _) hTi (hH.partOk hsee) hQ
        obtain ⟨f1, f2⟩ := fin γ' x hle hc
        refine ⟨γ', _, w', hle, .one (st_opValue ho hw (quiet_notDefer hq) hrun), f1, f2, ?_⟩
        unfold HD
        rw [same hL]
        refine (hH.whole (H' := KD (ins D i) n0 R M0) hle hH2 fun b k hk => ?_).lessRes less
        have hk := sameK hL hF hMp hIn b k hk
        cases hv : (Ev.vis A n0 (R.take i) i (md D R 0 M0)).get b with
        | none => exact .inr ⟨rfl, hk⟩
        | some k2 =>
          have := hsee b k2 hv
          rw [hk] at this; injection this with this; subst this
          exact .inl rfl
      · split at hx
        case h_2 => cases hx
        rename_i a H2 n2 hlo
        injection hx with hx
        have hL : r.L = true := by rw [← hx]
        have hV : r.V = a := by rw [← hx]
        have hF : r.Fr = none := by rw [← hx]
        have hMp : r.Mp = false := by rw [← hx]
        have hIn : r.In = none := by rw [← hx]
        have hm : r.M = ⟨H2, n2, atA A i⟩ := by rw [← hx]
        have hbef : ∀ j p, R[j]? = some p → p.L = true → (D j = true ↔ j < i) := fun j p hj hp => by
          constructor
          · intro hDj
            rcases Nat.lt_or_ge j i with h1 | h1
            · exact h1
            · by_cases e : j = i
              · subst e; rw [hn] at hDj; cases hDj
              · have hjl : j < ops.size := by rw [← hR.len]; exact (List.getElem?_eq_some_iff.1 hj).1
                have := hg j hjl hDj i (hR.loud j i p r (by omega) hj hr hp hL)
                rw [hn] at this; cases this
          · intro h1
            exact hA j (hR.loud i j r p h1 hr hj hL hp)
        have hmem : md D R 0 M0 = memAt M0 R i := by
          rw [hR.mem i (by omega)]
          refine md_congr fun j p hj hp => ?_
          rw [Nat.zero_add]
          have := hbef j p hj hp
          by_cases h1 : j < i
          · rw [this.2 h1]; simp [h1]
          · have : D j = false := by
              cases hD : D j with
              | false => rfl
              | true => exact absurd (this.1 hD) h1
            rw [this]; simp [h1]
        rw [← hmem] at hlo
        have hsee : ∀ b k, (Ev.vis A n0 (R.take i) i (md D R 0 M0)).get b = some k → (KD D n0 R M0).get b = some k := fun b k => hR.sees hA
        unfold HD at hH
        obtain ⟨γ', w', x, hle, hH2, hc, hst⟩ := hsub γ _ w _ o _ _ a H2 n2 fn tmps ops i rest k ds ro cs hTi (hH.partOk hsee) ho hw hlo
        obtain ⟨f1, f2⟩ := fin γ' x hle (by rw [hV]; exact hc)
        refine ⟨γ', _, w', hle, hst, f1, f2, ?_⟩
        have hmi : md (ins D i) R 0 M0 = ⟨H2, n2, atA A i⟩ := by
          rw [md_ins hr hL (fun j rj hj hrj hlj => ?_) (by simp [ins]), hm]
          unfold ins
          rw [if_neg (by omega)]
          cases hD : D j with
          | false => rfl
          | true => have := (hbef j rj hrj hlj).1 hD; omega
        unfold HD
        refine HR.lessRes ?_ less
        rw [hmi]
        refine hH.whole hle hH2 fun b k hk => ?_
        rw [hR.kd, hmi, Run.mpSame hr hMp hIn] at hk
        cases hvm : fV (mpF D R) n0 0 R b with
        | some c =>
          rw [hvm] at hk
          simp at hk; subst hk
          obtain ⟨j, rj, rfl, h1, h2⟩ := fV_some.1 hvm
          exact .inr ⟨hR.visMp h1 (mpF_some.1 h2).1, by rw [hR.kd, hvm]; rfl⟩
        | none =>
        rw [hvm, Option.none_or] at hk
        cases hv : frV (fun j => bc (tb (atA A i) j) false (ins D i j)) n0 0 R b with
        | none => rw [hv, Option.none_or] at hk; exact .inl hk
        | some c =>
          rw [hv] at hk
          simp at hk; subst hk
          obtain ⟨j, rj, rfl, h1, h2, h3⟩ := frV_some.1 hv
          simp only [bc_eq] at h2
          by_cases e1 : tb (atA A i) j = true
          · rw [if_pos e1] at h2; cases h2
          rw [if_neg e1] at h2
          have hne : j ≠ i := fun e => by subst e; rw [hr] at h1; injection h1 with h1; subst h1; rw [hF] at h3; cases h3
          have hDj : D j = true := by simpa [ins, hne] using h2
          have hma : tb (md D R 0 M0).a j = false := by
            cases e : tb (md D R 0 M0).a j with
            | false => rfl
            | true =>
              exfalso
              rcases md_cases D R 0 M0 with ⟨e5, _⟩ | ⟨q, rq, g1, g2, g3, _, g5⟩
              · rw [e5, hR.a0, tb_eq] at e; simp at e
              · rw [g5] at e
                have hq : q < ops.size := by rw [← hR.len]; exact (List.getElem?_eq_some_iff.1 g1).1
                obtain ⟨r5, hr5, hx5⟩ := hR.step q ops[q] (by simp [hq])
                rw [g1] at hr5; injection hr5 with hr5; subst hr5
                rw [(exRec_loud hx5 g2).1] at e
                have hqi : q < i := (hbef q rq g1 g2).1 (by simpa using g3)
                exact e1 (hR.st.trans i o ho q j (hR.loud i q r rq hqi hr g1 hL g2) e)
          refine .inr ⟨?_, ?_⟩
          · rw [hR.vis]
            have hz : frV (fun j => bc (tb (md D R 0 M0).a j) false (tb (atA A i) j)) n0 0 (R.take i) (n0 + j) = none := by
              cases e : frV (fun j => bc (tb (md D R 0 M0).a j) false (tb (atA A i) j)) n0 0 (R.take i) (n0 + j) with
              | none => rfl
              | some c2 =>
                obtain ⟨j2, r2, e6, _, h6, _⟩ := frV_some.1 e
                have : j2 = j := by omega
                subst this
                simp only [bc_eq] at h6
                rw [hma] at h6
                simp at h6
                exact absurd h6 e1
            rw [hz, Option.none_or]
            exact hR.freeD h1 h3 hma
          · rw [hR.kd, hvm, Option.none_or]
            have : frV (fun j => bc (tb (md D R 0 M0).a j) false (D j)) n0 0 R (n0 + j) = some c := frV_some.2 ⟨j, rj, rfl, h1, by simp [bc_eq, hma, hDj], h3⟩
            rw [this]; rfl
  · cases hx
end
end Go.Proofs.Ytfmofpdbhkoopaa.Ev
namespace Go.Proofs.Ytfmofpdbhkoopaa.Ev
open Go.RowKit
variable {P : Program} {γ γ' : G} {w0 : Bs} {w : World} {H H' : Tr EK} {n n' : Nat} {T T0 : Tr EV} {cs : List Frame} {fid : FuncId} {FT : Tr FI} {o : Oper}

theorem filter_lt {p p' : Nat → Bool} (h : ∀ x, p' x = true → p x = true) {i : Nat} (hp : p i = true) (hp' : p' i = false) : ∀ {l : List Nat}, i ∈ l → (l.filter p').length < (l.filter p).length := by
  have le : ∀ l : List Nat, (l.filter p').length ≤ (l.filter p).length := fun l => by
    induction l with
    | nil => simp
    | cons a l ih =>
      rw [List.filter_cons, List.filter_cons]
      by_cases h1 : p' a = true
      · rw [if_pos h1, if_pos (h a h1)]; simpa using ih
      · rw [if_neg h1]
        by_cases h2 : p a = true
        · rw [if_pos h2]; simp; omega
        · rw [if_neg h2]; exact ih
  intro l
  induction l with
  | nil => intro hi; simp at hi
  | cons a l ih =>
    intro hi
    rw [List.filter_cons, List.filter_cons]
    rcases List.mem_cons.1 hi with rfl | hi
    · rw [if_neg (by rw [hp']; simp), if_pos hp]
      have := le l
      simp; omega
    · have := ih hi
      by_cases h1 : p' a = true
      · rw [if_pos h1, if_pos (h a h1)]; simpa using this
      · rw [if_neg h1]
        by_cases h2 : p a = true
        · rw [if_pos h2]; simp; omega
        · rw [if_neg h2]; exact this
theorem getD_set {l : Array Bool} {i j : Nat} {d : Bool} (h : j ≠ i) : (l.setIfInBounds i true).getD j d = l.getD j d := by
  rw [Array.getD_eq_getD_getElem?, Array.getD_eq_getD_getElem?, Array.getElem?_setIfInBounds_ne (Ne.symm h)]
theorem exists_min {D : Nat → Bool} : ∀ i, D i = false → ∃ j, j ≤ i ∧ D j = false ∧ ∀ k, k < j → D k = true := by
  intro i
  induction i using Nat.strongRecOn with
  | _ i ih =>
    intro hi
    by_cases h : ∃ k, k < i ∧ D k = false
    · obtain ⟨k, hk, hd⟩ := h
      obtain ⟨j, h1, h2, h3⟩ := ih k hk hd
      exact ⟨j, by omega, h2, h3⟩
    · refine ⟨i, Nat.le_refl _, hi, fun k hk => ?_⟩
      cases hD : D k with
      | true => rfl
      | false => exact absurd ⟨k, hk, hD⟩ h
theorem st_draw {fn : FuncId} {tmps : Array Value} {id : Nat} {ops : Array Oper} {k : List Item} {ds : List Deferred} {ro : Option Nat} (hm : P.follows .mixedOrders = true) :
    ∃ t, step P (lone (fram fn tmps (.code (.region id ops true) :: k) ds ro) cs w) = .next (lone (fram fn tmps (.inRegion ops (Region.linearise .any ops t) :: k) ds ro) cs { w with drawn := w.drawn + 1 }) :=
  ⟨w.tape w.drawn (.order fn id), step_lone_go (by simp [stepG, stepG.exec, choose, Sem.run, Question.forced, Question.cut, Region.schedule, hm])⟩
section
variable {sub : Sub} {q : QF} {RO : Tr (TypeId × SyC)} {ops : Array Oper} {A : List Nat} {n0 : Nat} {M0 : Mm} {R : List Rec} (hR : Run P sub q RO ops A T0 n0 M0 R)
include hR
theorem Run.all (hsub : LoudOk P sub) (hres : ∀ q, w0.res q → q < n0) {fn : FuncId} {k : List Item} {ds : List Deferred} {ro : Option Nat} {N : Nat} (hdst : ∀ (i : Nat) (o : Oper), ops[i]? = some o → ∀ d, o.dst = some d → d < N) :
    ∀ (fuel t : Nat) (listed : Array Bool) (γ : G) (tmps : Array Value) (w : World), ROk γ w0 RO → listed.size = ops.size → Good A ops.size (fun j => listed.getD j false) → ((List.range ops.size).filter fun i => !listed.getD i true).length ≤ fuel →
      TD γ ops T0 R (fun j => listed.getD j false) tmps → tmps.size = N → HD γ w0 ops.size (fun j => listed.getD j false) n0 R M0 w →
      ∃ γ' tmps' w', GLe γ γ' ∧ Steps P (lone (fram fn tmps (.inRegion ops (Region.linearise.go .any ops fuel t listed []) :: k) ds ro) cs w) (lone (fram fn tmps' (.inRegion ops [] :: k) ds ro) cs w') ∧ TD γ' ops T0 R (fun _ => true) tmps' ∧ tmps'.size = N ∧ HD γ' w0 ops.size (fun _ => true) n0 R M0 w' := by
  have done : ∀ (listed : Array Bool) (γ : G) (tmps : Array Value) (w : World), (∀ i, i < ops.size → listed.getD i false = true) → TD γ ops T0 R (fun j => listed.getD j false) tmps → HD γ w0 ops.size (fun j => listed.getD j false) n0 R M0 w →
      TD γ ops T0 R (fun _ => true) tmps ∧ HD γ w0 ops.size (fun _ => true) n0 R M0 w := fun listed γ tmps w hall hT hH => by
    refine ⟨fun s a hs => hT s a ?_, ?_⟩
    · rw [← hs]
      refine lw_congr fun j p hj _ => ?_
      obtain ⟨h1, _⟩ := zip_get.1 hj
      rw [Nat.zero_add, hall j (Array.getElem?_eq_some_iff.1 h1).1]
    · have e1 : md (fun j => listed.getD j false) R 0 M0 = md (fun _ => true) R 0 M0 := md_congr fun j p hj _ => by
        rw [Nat.zero_add, hall j (by rw [← hR.len]; exact (List.getElem?_eq_some_iff.1 hj).1)]
      unfold HD at hH ⊢
      rw [← e1]
      refine HR.lessRes (hH.congr fun b k hk => ?_) fun q hq => ?_
      · rw [hR.kd, ← e1] at hk
        rw [hR.kd]
        have hmp : fV (mpF (fun _ => true) R) n0 0 R b = fV (mpF (fun j => listed.getD j false) R) n0 0 R b := by
          refine fV_congr fun j p _ hp => ?_
          have e : insL (fun _ => true) j R 0 = insL (fun j => listed.getD j false) j R 0 := insL_congr fun z q d kv a hq _ => by
            rw [Nat.zero_add, hall z (by rw [← hR.len]; exact (List.getElem?_eq_some_iff.1 hq).1)]
          unfold mpF
          rw [e]
          simp only []
          rw [hall j (by rw [← hR.len]; exact (List.getElem?_eq_some_iff.1 hp).1)]
        rw [hmp] at hk
        have : frV (fun j => bc (tb (md (fun j => listed.getD j false) R 0 M0).a j) false true) n0 0 R b = frV (fun j => bc (tb (md (fun j => listed.getD j false) R 0 M0).a j) false (listed.getD j false)) n0 0 R b := by
          apply Option.ext
          intro c
          rw [frV_some, frV_some]
          constructor
          · rintro ⟨j, rj, rfl, h1, h2, h3⟩
            exact ⟨j, rj, rfl, h1, by rw [hall j (by rw [← hR.len]; exact (List.getElem?_eq_some_iff.1 h1).1)]; exact h2, h3⟩
          · rintro ⟨j, rj, rfl, h1, h2, h3⟩
            exact ⟨j, rj, rfl, h1, by rw [hall j (by rw [← hR.len]; exact (List.getElem?_eq_some_iff.1 h1).1)] at h2; exact h2, h3⟩
        rw [this] at hk
        exact hk
      · rcases hq with hq | ⟨j, _, h2, _⟩
        · exact .inl hq
        · cases h2
  intro fuel
  induction fuel with
  | zero =>
    intro t listed γ tmps w hRO hsz hg hc hT hN hH
    have hall : ∀ i, i < ops.size → listed.getD i false = true := fun i hi => by
      cases hD : listed.getD i false with
      | true => rfl
      | false =>
        have hmem : i ∈ (List.range ops.size).filter fun i => !listed.getD i true := by
          rw [List.mem_filter]
          refine ⟨List.mem_range.2 hi, ?_⟩
          have h1 : i < listed.size := by omega
          simp [Array.getD, h1] at hD ⊢
          exact hD
        have : 0 < ((List.range ops.size).filter fun i => !listed.getD i true).length := List.length_pos_of_mem hmem
        omega
    obtain ⟨f1, f2⟩ := done listed γ tmps w hall hT hH
    exact ⟨γ, tmps, w, GLe.refl γ, by simp [Region.linearise.go]; exact Steps.refl P _, f1, hN, f2⟩
  | succ fuel ih =>
    intro t listed γ tmps w hRO hsz hg hc hT hN hH
    simp only [Region.linearise.go]
    change ∃ γ' tmps' w', GLe γ γ' ∧ Steps P (lone (fram fn tmps (.inRegion ops (match (Region.ready .any ops listed)[t % (Region.ready .any ops listed).length]? with
      | some i => Region.linearise.go .any ops fuel (t / (Region.ready .any ops listed).length) (listed.setIfInBounds i true) [i]
      | none => [].reverse) :: k) ds ro) cs w) _ ∧ _
    cases hi : (Region.ready .any ops listed)[t % (Region.ready .any ops listed).length]? with
    | none =>
      have hnil : Region.ready .any ops listed = [] := by
        cases hr : Region.ready .any ops listed with
        | nil => rfl
        | cons x xs =>
          rw [hr] at hi
          have hlt : t % (x :: xs).length < (x :: xs).length := Nat.mod_lt _ (by simp)
          simp at hi
          simp at hlt
          omega
      have hall : ∀ i, i < ops.size → listed.getD i false = true := fun i hi => by
        cases hD : listed.getD i false with
        | true => rfl
        | false =>
          obtain ⟨j, h1, h2, h3⟩ := exists_min (D := fun j => listed.getD j false) i hD
          have hj : j < ops.size := by omega
          have hjl : j < listed.size := by omega
          have : j ∈ Region.ready .any ops listed := by
            unfold Region.ready
            rw [List.mem_filter]
            refine ⟨List.mem_range.2 hj, ?_⟩
            have h2' : listed.getD j true = false := by
              simp [Array.getD, hjl] at h2 ⊢; exact h2
            rw [h2']
            have ho : ops[j]? = some ops[j] := by simp [hj]
            rw [ho]
            simp only [Bool.not_false, Option.map_some, Option.getD_some, Bool.true_and]
            rw [Array.all_eq_true']
            intro e he
            by_cases hb : Region.binds .any e = true
            · have := h3 e.on (hR.st.lt j ops[j] ho e.on (by unfold deps; exact List.mem_map.2 ⟨e, List.mem_filter.2 ⟨by simpa using he, hb⟩, rfl⟩))
              have this : listed.getD e.on false = true := this
              rw [this]; simp
            · simp at hb; simp [hb]
          rw [hnil] at this; simp at this
      obtain ⟨f1, f2⟩ := done listed γ tmps w hall hT hH
      exact ⟨γ, tmps, w, GLe.refl γ, Steps.refl P _, f1, hN, f2⟩
    | some i =>
      simp only []
      rw [linearise_go_acc, List.reverse_singleton, List.singleton_append]
      have hmem : i ∈ Region.ready .any ops listed := List.mem_of_getElem? hi
      unfold Region.ready at hmem
      rw [List.mem_filter] at hmem
      obtain ⟨hm1, hm2⟩ := hmem
      have hil : i < ops.size := List.mem_range.1 hm1
      have hil2 : i < listed.size := by omega
      have ho : ops[i]? = some ops[i] := by simp [hil]
      rw [ho] at hm2
      simp only [Option.map_some, Option.getD_some, Bool.and_eq_true] at hm2
      obtain ⟨hm3, hm4⟩ := hm2
      have hnD : listed.getD i false = false := by
        simp [Array.getD, hil2] at hm3 ⊢; exact hm3
      have hdeps : ∀ d ∈ deps ops[i], listed.getD d false = true := fun d hd => by
        unfold deps at hd
        obtain ⟨e, he, rfl⟩ := List.mem_map.1 hd
        obtain ⟨he1, he2⟩ := List.mem_filter.1 he
        rw [Array.all_eq_true'] at hm4
        have := hm4 e (by simpa using he1)
        rw [he2] at this
        simpa using this
      obtain ⟨γ1, tmps1, w1, hle1, hs1, hT1, hN1, hH1⟩ := hR.any (w := w) (cs := cs) (w0 := w0) hRO hsub hres (fn := fn) (rest := Region.linearise.go .any ops fuel (t / (Region.ready .any ops listed).length) (listed.setIfInBounds i true) []) (k := k) (ds := ds) (ro := ro) hg ho hnD hdeps hT hN (hdst i _ ho) hH
      have hins : (fun j => (listed.setIfInBounds i true).getD j false) = ins (fun j => listed.getD j false) i := funext fun j => by
        unfold ins
        by_cases e : j = i
        · subst e; rw [if_pos rfl]; simp [Array.getD, hil2]
        · rw [if_neg e]
          exact getD_set e
      have hg1 : Good A ops.size (fun j => (listed.setIfInBounds i true).getD j false) := by
        rw [hins]
        intro q hq hDq j hj
        unfold ins at hDq ⊢
        by_cases e2 : j = i
        · rw [if_pos e2]
        · rw [if_neg e2]
          by_cases e : q = i
          · subst e
            exact hR.st.sub hg ho hdeps j hj
          · rw [if_neg e] at hDq
            exact hg q hq hDq j hj
      have hc1 : ((List.range ops.size).filter fun j => !(listed.setIfInBounds i true).getD j true).length ≤ fuel := by
        have := filter_lt (p := fun j => !listed.getD j true) (p' := fun j => !(listed.setIfInBounds i true).getD j true) (i := i) (fun x hx => by
          by_cases e : x = i
          · subst e; exact hm3
          · simp only [getD_set e] at hx
            exact hx) hm3 (by simp [Array.getD, hil2]) hm1
        omega
      obtain ⟨γ2, tmps2, w2, hle2, hs2, hT2, hN2, hH2⟩ := ih (t / (Region.ready .any ops listed).length) (listed.setIfInBounds i true) γ1 tmps1 w1 (hRO.mono hle1) (by simp [hsz]) hg1 hc1 (by rw [hins]; exact hT1) hN1 (by rw [hins]; exact hH1)
      exact ⟨γ2, tmps2, w2, hle1.trans hle2, hs1.trans hs2, hT2, hN2, hH2⟩
end
end Go.Proofs.Ytfmofpdbhkoopaa.Ev
namespace Go.Proofs.Ytfmofpdbhkoopaa.Ev
open Go.RowKit
variable {P : Program} {γ γ' : G} {w0 : Bs} {w : World} {H H' : Tr EK} {n n' : Nat} {T T0 : Tr EV} {cs : List Frame} {fid : FuncId} {FT : Tr FI} {o : Oper}

noncomputable def tabT (ops : Array Oper) (T : Tr EV) (o : Oper) : Tr EV := restr (fun s => T.get s) (looks ops o)
theorem restr_congr {f g : Nat → Option EV} : ∀ {l : List Nat}, (∀ s ∈ l, f s = g s) → restr f l = restr g l
  | [], _ => rfl
  | s :: l, h => by
    show bc (Nat.ble s 65535) (match f s with
      | some a => (restr f l).put s (some a)
      | none => restr f l) (restr f l) = bc (Nat.ble s 65535) (match g s with
      | some a => (restr g l).put s (some a)
      | none => restr g l) (restr g l)
    rw [h s (by simp), restr_congr (l := l) fun t ht => h t (by simp [ht])]
noncomputable def exRecT (P : Program) (sub : Sub) (q : QF) (ops : Array Oper) (Ti : Tr EV) (A : List Nat) (n0 : Nat) (V : Tr EK) (i : Nat) (o : Oper) (M : Mm) : Option Rec := match exGuard Ti ops o with
  | some false => some ⟨.v undef, false, M, none, false, none⟩
  | some true => match exFr P Ti o (Nat.add n0 i) with
    | some (a, c) => some (recFr M a c)
    | none => match exIns P Ti o n0 with
      | some u => some ⟨.v undef, false, M, none, false, some u⟩
      | none => bc (quiet o.op) (match q Ti o V M.n with
        | some a => some ⟨a, false, M, none, false, none⟩
        | none => none) (match exLoud P sub Ti o V M.n with
        | some (a, H, n) => some ⟨a, true, ⟨H, n, atA A i⟩, none, false, none⟩
        | none => none)
  | none => none
theorem exRec_T {sub : Sub} {q : QF} {ops : Array Oper} {A : List Nat} {n0 : Nat} {R : List Rec} {i : Nat} {M : Mm} : exRec P sub q ops A T0 n0 R i o M = exRecT P sub q ops (tabAt ops A T0 R i o) A n0 (vis A n0 R i M) i o M := rfl
/-- the new blocks, with the numbers of their operations -/
def frl : List Rec → Nat → List (Nat × EK)
  | [], _ => []
  | r :: R, k => match r.Fr with
    | some c => (k, c) :: frl R (k + 1)
    | none => frl R (k + 1)
noncomputable def frF (D : Nat → Bool) (n0 : Nat) (Fl : List (Nat × EK)) : Tr EK → Tr EK := List.rec (fun H => H) (fun p _ ih H => ih (bc (D p.1) (H.put (Nat.add n0 p.1) (some p.2)) H)) Fl
theorem frF_eq {D : Nat → Bool} {n0 : Nat} : ∀ {R : List Rec} {k : Nat} {H : Tr EK}, frF D n0 (frl R k) H = frT D n0 R k H
  | [], k, H => rfl
  | r :: R, k, H => by
    have e : frT D n0 (r :: R) k H = frT D n0 R (k + 1) (match r.Fr with
      | some c => bc (D k) (H.put (n0 + k) (some c)) H
      | none => H) := rfl
    rw [e]
    unfold frl
    cases hr : r.Fr with
    | none => exact frF_eq
    | some c => exact frF_eq (R := R) (k := k + 1) (H := bc (D k) (H.put (n0 + k) (some c)) H)
theorem frT_none {D : Nat → Bool} {n0 : Nat} : ∀ {R : List Rec} {k : Nat} {H : Tr EK}, (∀ j, k ≤ j → D j = false) → frT D n0 R k H = H
  | [], k, H, _ => rfl
  | r :: R, k, H, h => by
    have e : frT D n0 (r :: R) k H = frT D n0 R (k + 1) (match r.Fr with
      | some c => bc (D k) (H.put (n0 + k) (some c)) H
      | none => H) := rfl
    rw [e, frT_none fun j hj => h j (by omega)]
    cases r.Fr with
    | none => rfl
    | some c => simp only [h k (Nat.le_refl _)]; rfl
theorem frT_take {D : Nat → Bool} {n0 : Nat} : ∀ {R : List Rec} {m k : Nat} {H : Tr EK}, (∀ j, k + m ≤ j → D j = false) → frT D n0 (R.take m) k H = frT D n0 R k H
  | [], m, k, H, _ => by simp
  | r :: R, 0, k, H, h => by
    rw [List.take_zero, frT_none (R := r :: R) (fun j hj => h j (by omega))]; rfl
  | r :: R, m + 1, k, H, h => by
    rw [List.take_succ_cons]
    have e : ∀ R : List Rec, frT D n0 (r :: R) k H = frT D n0 R (k + 1) (match r.Fr with
      | some c => bc (D k) (H.put (n0 + k) (some c)) H
      | none => H) := fun _ => rfl
    rw [e, e]
    exact frT_take fun j hj => h j (by omega)
theorem frl_snoc : ∀ {R : List Rec} {r : Rec} {k : Nat}, frl (R ++ [r]) k = frl R k ++ (match r.Fr with
    | some c => [(k + R.length, c)]
    | none => [])
  | [], r, k => by
    simp only [List.nil_append, frl, List.length_nil, Nat.add_zero]
  | q :: R, r, k => by
    have ih := frl_snoc (R := R) (r := r) (k := k + 1)
    rw [show k + 1 + R.length = k + (q :: R).length by simp; omega] at ih
    rw [List.cons_append]
    unfold frl
    cases q.Fr with
    | none => exact ih
    | some c => simp only [ih, List.cons_append]
noncomputable def visF (A : List Nat) (n0 : Nat) (Fl : List (Nat × EK)) (i : Nat) (M : Mm) : Tr EK := frF (fun j => bc (tb M.a j) false (tb (atA A i) j)) n0 Fl M.H
theorem visF_eq {A : List Nat} {n0 : Nat} {R : List Rec} {i : Nat} {M : Mm} : visF A n0 (frl R 0) i M = vis A n0 R i M := frF_eq
theorem vis_take {ops : Array Oper} {A : List Nat} {n0 : Nat} {R : List Rec} {i : Nat} {M : Mm} (hst : Stat ops A) (ho : ops[i]? = some o) : vis A n0 (R.take i) i M = vis A n0 R i M := by
  unfold vis
  refine frT_take fun j hj => ?_
  have : tb (atA A i) j = false := by
    cases e : tb (atA A i) j with
    | false => rfl
    | true => have := hst.below i o ho j e; omega
  rw [this, bc_eq]
  split <;> rfl
noncomputable def revA {α : Type} (l : List α) : List α → List α := List.rec (fun acc => acc) (fun a _ ih acc => ih (a :: acc)) l
theorem revA_eq {α : Type} : ∀ (l acc : List α), revA l acc = l.reverse ++ acc
  | [], acc => rfl
  | a :: l, acc => by
    show revA l (a :: acc) = _
    rw [revA_eq l]; simp
/-- what a run leaves: the records, the slots, each operation's own table, the new blocks -/
structure CF where
  R : List Rec
  T : Tr EV
  Ts : List (Tr EV)
  Fl : List (Nat × EK)
noncomputable def addFr (Fl : List (Nat × EK)) (i : Nat) (c : Option EK) : List (Nat × EK) := match c with
  | some c => Fl ++ [(i, c)]
  | none => Fl
noncomputable def canonF (P : Program) (sub : Sub) (q : QF) (ops : Array Oper) (A : List Nat) (n0 N : Nat) (l : List Oper) : Nat → List Rec → List (Nat × EK) → Mm → Tr EV → List (Tr EV) → Option CF := List.rec (fun _ Rr Fl _ T Tr => some ⟨revA Rr [], T, revA Tr [], Fl⟩) (fun o _ ih i Rr Fl M T Tr => match exRecT P sub q ops (tabT ops T o) A n0 (visF A n0 Fl i M) i o M with
  | some r => match setD T N o.dst r.V with
    | some T' => ih (Nat.succ i) (r :: Rr) (addFr Fl i r.Fr) r.M T' (tabT ops T o :: Tr)
    | none => none
  | none => none) l
theorem setD_get {T' : Tr EV} {N : Nat} {d : Option Tmp} {a : EV} (h : setD T N d a = some T') : (∀ s, T'.get s = if d = some s then some a else T.get s) ∧ ∀ t, d = some t → t < N := by
  unfold setD at h
  split at h
  · injection h with h; subst h
    exact ⟨fun s => by simp, fun t e => by cases e⟩
  · rename_i d
    rw [bc_eq, bc_eq] at h
    split at h
    case isFalse => cases h
    rename_i h1
    split at h
    case isFalse => cases h
    rename_i h2
    injection h with h; subst h
    refine ⟨fun s => ?_, fun t e => by injection e with e; subst e; exact blt_lt h1⟩
    rw [Tr.get_put h2]
    by_cases e : s = d
    · subst e; simp
    · rw [if_neg e, if_neg (fun e2 => e (by injection e2 with e2; exact e2.symm))]
theorem zip_snoc {α β : Type} : ∀ {l : List α} {R : List β} {a : α} {b : β}, l[R.length]? = some a → l.zip (R ++ [b]) = l.zip R ++ [(a, b)]
  | [], R, a, b, h => by simp at h
  | x :: l, [], a, b, h => by simp at h; subst h; simp
  | x :: l, y :: R, a, b, h => by
    have := zip_snoc (l := l) (R := R) (a := a) (b := b) (by simpa using h)
    simp [this]
theorem canonF_ok {sub : Sub} {q : QF} {ops : Array Oper} {A : List Nat} {n0 N : Nat} (hst : Stat ops A) : ∀ {l : List Oper} {R : List Rec} {M : Mm} {T : Tr EV} {Ts : List (Tr EV)} {c : CF}, canonF P sub q ops A n0 N l R.length R.reverse (frl R 0) M T Ts.reverse = some c →
    (∀ j o, l[j]? = some o → ops[R.length + j]? = some o) → (∀ s, T.get s = lw (fun _ => true) s (ops.toList.zip R) 0 (T0.get s)) → Ts.length = R.length →
    canon P sub q ops A T0 n0 l R.length R M = some c.R ∧ (∀ s, c.T.get s = lw (fun _ => true) s (ops.toList.zip c.R) 0 (T0.get s)) ∧ (∀ o ∈ l, ∀ d, o.dst = some d → d < N) ∧ (∀ j, j < R.length → c.R[j]? = R[j]? ∧ c.Ts[j]? = Ts[j]?) ∧
      (∀ j o, l[j]? = some o → c.Ts[R.length + j]? = some (tabAt ops A T0 (c.R.take (R.length + j)) (R.length + j) o)) ∧ c.Fl = frl c.R 0
  | [], R, M, T, Ts, c, h, _, hT, _ => by
    have h' : some (⟨revA R.reverse [], T, revA Ts.reverse [], frl R 0⟩ : CF) = some c := h
    rw [revA_eq, revA_eq, List.reverse_reverse, List.reverse_reverse, List.append_nil, List.append_nil] at h'
    injection h' with h'; subst h'
    exact ⟨rfl, hT, fun o ho => by simp at ho, fun _ _ => ⟨rfl, rfl⟩, fun j o hj => by simp at hj, rfl⟩
  | o :: l, R, M, T, Ts, c, h, hl, hT, hlen => by
    have h' : (match exRecT P sub q ops (tabT ops T o) A n0 (visF A n0 (frl R 0) R.length M) R.length o M with
      | some r => match setD T N o.dst r.V with
        | some T' => canonF P sub q ops A n0 N l (R.length + 1) (r :: R.reverse) (addFr (frl R 0) R.length r.Fr) r.M T' (tabT ops T o :: Ts.reverse)
        | none => none
      | none => none) = some c := h
    rw [visF_eq] at h'
    have ho : ops[R.length]? = some o := by simpa using hl 0 o rfl
    -- the operation's own slots
    have htab : tabT ops T o = tabAt ops A T0 R R.length o := by
      unfold tabT tabAt
      refine restr_congr fun s hs => ?_
      rw [hT s]
      refine lw_congr fun j p hj hd => ?_
      obtain ⟨h1, h2⟩ := zip_get.1 hj
      have hjl : j < R.length := (List.getElem?_eq_some_iff.1 h2).1
      rw [Nat.zero_add]
      rcases hst.slot R.length o ho s hs j p.1 h1 hd with h3 | h3 | h3
      · exact h3.symm
      · have := hst.below j p.1 h1 _ h3; omega
      · omega
    rw [htab] at h'
    split at h'
    case h_2 => cases h'
    rename_i r hr
    split at h'
    case h_2 => cases h'
    rename_i T' hT'
    obtain ⟨g1, g2⟩ := setD_get hT'
    have hlen2 : (R ++ [r]).length = R.length + 1 := by simp
    have hfl : addFr (frl R 0) R.length r.Fr = frl (R ++ [r]) 0 := by
      rw [frl_snoc]
      unfold addFr
      cases r.Fr with
      | none => simp
      | some c => simp
    rw [hfl, show r :: R.reverse = (R ++ [r]).reverse by simp, show tabAt ops A T0 R R.length o :: Ts.reverse = (Ts ++ [tabAt ops A T0 R R.length o]).reverse by simp, ← hlen2] at h'
    have hz : ops.toList.zip (R ++ [r]) = ops.toList.zip R ++ [(o, r)] := zip_snoc (by simpa using ho)
    obtain ⟨k1, k2, k3, k4, k5, k6⟩ := canonF_ok hst h' (fun j o' hj => by
      have := hl (j + 1) o' (by simpa using hj)
      rwa [hlen2, show R.length + 1 + j = R.length + (j + 1) by omega]) (fun s => by
      rw [g1, hz, lw_append, hT]
      rw [lw_cons]
      by_cases e : o.dst = some s
      · rw [if_pos e, if_pos ⟨rfl, e⟩]; rfl
      · rw [if_neg e, if_neg (fun x => e x.2)]; rfl) (by simp [hlen])
    refine ⟨?_, k2, fun o' ho' d hd => ?_, fun j hj => ?_, fun j o' hj => ?_, k6⟩
    · show (match exRec P sub q ops A T0 n0 R R.length o M with
        | some r => canon P sub q ops A T0 n0 l (R.length + 1) (R ++ [r]) r.M
        | none => none) = some c.R
      rw [exRec_T, hr]
      simp only
      rw [← hlen2]
      exact k1
    · rcases List.mem_cons.1 ho' with rfl | ho'
      · exact g2 d hd
      · exact k3 o' ho' d hd
    · obtain ⟨q1, q2⟩ := k4 j (by omega)
      rw [List.getElem?_append_left hj] at q1
      rw [List.getElem?_append_left (by omega)] at q2
      exact ⟨q1, q2⟩
    · cases j with
      | zero =>
        simp at hj; subst hj
        obtain ⟨_, q2⟩ := k4 R.length (by omega)
        rw [List.getElem?_append_right (by omega), hlen, Nat.sub_self] at q2
        simp only [Nat.add_zero]
        rw [q2]
        have htake : c.R.take R.length = R := by
          apply List.ext_getElem?
          intro j
          rw [List.getElem?_take]
          by_cases hj : j < R.length
          · rw [if_pos hj, (k4 j (by omega)).1, List.getElem?_append_left hj]
          · rw [if_neg hj]; simp; omega
        rw [htake]; rfl
      | succ j =>
        have := k5 j o' (by simpa using hj)
        rwa [hlen2, show R.length + 1 + j = R.length + (j + 1) by omega] at this
end Go.Proofs.Ytfmofpdbhkoopaa.Ev
namespace Go.Proofs.Ytfmofpdbhkoopaa.Ev
open Go.RowKit
variable {P : Program} {γ γ' : G} {w0 : Bs} {w : World} {H H' : Tr EK} {n n' : Nat} {T T0 : Tr EV} {cs : List Frame} {fid : FuncId} {FT : Tr FI} {o : Oper}

/-- the numbers of the loud ones -/
noncomputable def loudIdx (R : List Rec) : Nat → List Nat := List.rec (fun _ => []) (fun r _ ih k => bc r.L (k :: ih (Nat.succ k)) (ih (Nat.succ k))) R
theorem loudIdx_mem : ∀ {R : List Rec} {k i : Nat}, i ∈ loudIdx R k ↔ ∃ j r, i = k + j ∧ R[j]? = some r ∧ r.L = true
  | [], k, i => by simp [loudIdx]
  | p :: R, k, i => by
    have e : loudIdx (p :: R) k = bc p.L (k :: loudIdx R (k + 1)) (loudIdx R (k + 1)) := rfl
    have ih := @loudIdx_mem R (k + 1) i
    rw [e, bc_eq]
    constructor
    · intro h
      by_cases hp : p.L = true
      · rw [if_pos hp] at h
        rcases List.mem_cons.1 h with rfl | h
        · exact ⟨0, p, rfl, rfl, hp⟩
        · obtain ⟨j, r, h1, h2, h3⟩ := ih.1 h
          exact ⟨j + 1, r, by omega, by simpa using h2, h3⟩
      · rw [if_neg hp] at h
        obtain ⟨j, r, h1, h2, h3⟩ := ih.1 h
        exact ⟨j + 1, r, by omega, by simpa using h2, h3⟩
    · rintro ⟨j, r, h1, h2, h3⟩
      cases j with
      | zero =>
        simp at h2; subst h2
        rw [if_pos h3]; simp [h1]
      | succ j =>
        have := ih.2 ⟨j, r, by omega, by simpa using h2, h3⟩
        by_cases hp : p.L = true
        · rw [if_pos hp]; simp [this]
        · rw [if_neg hp]; exact this
noncomputable def anyL {α : Type} (f : α → Bool) (l : List α) : Bool := List.rec false (fun a _ ih => bc (f a) true ih) l
theorem anyL_ok {α : Type} {f : α → Bool} : ∀ {l : List α}, anyL f l = true → ∃ a ∈ l, f a = true
  | [], h => by cases h
  | b :: l, h => by
    have h' : bc (f b) true (anyL f l) = true := h
    rw [bc_eq] at h'
    split at h'
    · rename_i hf; exact ⟨b, by simp, hf⟩
    · obtain ⟨a, ha, hf⟩ := anyL_ok h'; exact ⟨a, by simp [ha], hf⟩
noncomputable def eqQ (x : Option EV) (v : EV) : Bool := match x with
  | some a => eqE 12 a v
  | none => false
theorem eqQ_ok {x : Option EV} {v : EV} (h : eqQ x v = true) : x = some v := by
  unfold eqQ at h
  split at h
  · rw [eqE_ok 12 _ _ h]
  · cases h
noncomputable def memOf (R : List Rec) (q : Nat) : Mm := match lget R q with
  | some r => r.M
  | none => ⟨.nil, 0, 0⟩
/-- what asks nothing of the memory -/
def memless : Op → Bool
  | .move _ | .assign _ | .pick _ _ _ | .build _ _ | .nilCheck _ | .binOp _ _ _ _ _ | .unOp _ _ _ | .makeFunc _ _ _ | .fieldAddr _ _ _ | .field _ _ _ | .indexAddr _ _ _ | .index _ _ _ | .extract _ _ => true
  | _ => false
noncomputable def evOf (e : Option ER) : Option EV := match e with
  | some er => er.val
  | none => none
theorem evOf_keep {a : Option EV} : evOf (keep a H n) = a := by
  unfold keep evOf
  cases a <;> rfl
noncomputable def orV (a : Option EV) (b : Option Value) : Option EV := match a with
  | some x => some x
  | none => b.map .v
theorem evOf_orPure {a : Option EV} : evOf (orPure (keep a H n) P T o H n) = orV a (exPure P T o) := by
  unfold orPure keep evOf orV
  cases a with
  | some x => rfl
  | none =>
    simp only
    cases exPure P T o <;> rfl
theorem evOf_orNone : evOf (orPure none P T o H n) = orV none (exPure P T o) := by
  unfold orPure evOf orV
  simp only
  cases exPure P T o <;> rfl
theorem evOf_bin {a b : Option EV} : evOf (orPure (match a with
    | some a => keep (some a) H n
    | none => keep b H n) P T o H n) = orV (match a with
    | some a => some a
    | none => b) (exPure P T o) := by
  cases a <;> exact evOf_orPure
theorem exQ_memless (hm : memless o.op = true) : exQ P T o H n = exQ P T o H' n' := by
  have hb : ∀ H n, isToB P T o H n = false := fun H n => by
    unfold isToB
    cases hop : o.op <;> first | rfl | (rw [hop] at hm; cases hm)
  show bc (isToB P T o H n) none (evOf (exOp P T o H n)) = bc (isToB P T o H' n') none (evOf (exOp P T o H' n'))
  rw [hb, hb]
  show evOf (exOp P T o H n) = evOf (exOp P T o H' n')
  rw [exOp_eq, exOp_eq]
  unfold exOp0
  cases hop : o.op <;> rw [hop] at hm <;> first | (cases hm; done) | skip
  all_goals first
    | (simp only [evOf_keep, evOf_orPure, evOf_orNone]; done)
    | (rename_i op t x y t'; simp only []; cases exBin T op x y <;> simp only [evOf_orPure])
/-- a quiet operation gives the same in every memory that may stand when it runs -/
noncomputable def chkQ (q : QF) (A : List Nat) (n0 : Nat) (Fl : List (Nat × EK)) (M0 : Mm) (R : List Rec) (louds : List Nat) (i : Nat) (o : Oper) (Ti : Tr EV) (v : EV) : Bool :=
  bc (bor (allL (fun l => Nat.ble i l) louds) (bor (anyL (fun l => tb (atA A i) l) louds) (eqQ (q Ti o (visF A n0 Fl i M0) M0.n) v)))
    (allL (fun z => bor (bc (Nat.blt z i) (allL (fun l => bor (Nat.ble l z) (Nat.ble i l)) louds) false) (bor (tb (atA A z) i) (bor (anyL (fun l => bc (Nat.blt z l) (tb (atA A i) l) false) louds) (eqQ (q Ti o (visF A n0 Fl i (memOf R z)) (memOf R z).n) v)))) louds) false
noncomputable def chk1 (q : QF) (ops : Array Oper) (A : List Nat) (n0 : Nat) (Fl : List (Nat × EK)) (M0 : Mm) (R : List Rec) (louds : List Nat) (i : Nat) (o : Oper) (r : Rec) (Ti : Tr EV) : Bool :=
  bc (quiet o.op) (bc (memless o.op) true (match exGuard Ti ops o with
    | some true => chkQ q A n0 Fl M0 R louds i o Ti r.V
    | _ => true)) true
noncomputable def chkLoop (q : QF) (ops : Array Oper) (A : List Nat) (n0 : Nat) (Fl : List (Nat × EK)) (M0 : Mm) (R : List Rec) (louds : List Nat) (l : List Oper) : Nat → List Rec → List (Tr EV) → Bool := List.rec (fun _ _ _ => true) (fun o _ ih i Rs Ts => match Rs with
  | r :: Rs => match Ts with
    | Ti :: Ts => bc (chk1 q ops A n0 Fl M0 R louds i o r Ti) (ih (Nat.succ i) Rs Ts) false
    | [] => false
  | [] => false) l
theorem chkLoop_ok {q : QF} {ops : Array Oper} {A : List Nat} {n0 : Nat} {Fl : List (Nat × EK)} {M0 : Mm} {R : List Rec} {louds : List Nat} : ∀ {l : List Oper} {i : Nat} {Rs : List Rec} {Ts : List (Tr EV)}, chkLoop q ops A n0 Fl M0 R louds l i Rs Ts = true →
    ∀ j o r Ti, l[j]? = some o → Rs[j]? = some r → Ts[j]? = some Ti → chk1 q ops A n0 Fl M0 R louds (i + j) o r Ti = true
  | [], i, Rs, Ts, _, j, o, r, Ti, h1, _, _ => by simp at h1
  | b :: l, i, [], Ts, _, j, o, r, Ti, _, h2, _ => by simp at h2
  | b :: l, i, r0 :: Rs, [], _, j, o, r, Ti, _, _, h3 => by simp at h3
  | b :: l, i, r0 :: Rs, T1 :: Ts, h, j, o, r, Ti, h1, h2, h3 => by
    have h' : bc (chk1 q ops A n0 Fl M0 R louds i b r0 T1) (chkLoop q ops A n0 Fl M0 R louds l (i + 1) Rs Ts) false = true := h
    rw [bc_eq] at h'
    split at h'
    case isFalse => cases h'
    rename_i hc
    cases j with
    | zero => simp at h1 h2 h3; subst h1; subst h2; subst h3; exact hc
    | succ j =>
      have := chkLoop_ok h' j o r Ti (by simpa using h1) (by simpa using h2) (by simpa using h3)
      rwa [show i + 1 + j = i + (j + 1) by omega] at this
noncomputable def chkAll (q : QF) (ops : Array Oper) (A : List Nat) (n0 : Nat) (Fl : List (Nat × EK)) (M0 : Mm) (R : List Rec) (Ts : List (Tr EV)) (louds : List Nat) : Bool := match louds with
  | [] => true
  | _ => chkLoop q ops A n0 Fl M0 R louds ops.toList 0 R Ts
noncomputable def loudB (A : List Nat) (louds : List Nat) : Bool := allL (fun i => allL (fun j => bor (Nat.ble i j) (tb (atA A i) j)) louds) louds
noncomputable def noEK (x : Option EK) : Bool := match x with
  | none => true
  | _ => false
theorem noEK_ok {x : Option EK} (h : noEK x = true) : x = none := by
  cases x with
  | none => rfl
  | some c => cases h
noncomputable def bnot (b : Bool) : Bool := bc b false true
theorem bnot_ok {b : Bool} (h : bnot b = true) : b = false := by cases b with
  | true => cases h
  | false => rfl
/-- the keys of a map's entries are of one kind, and apart -/
noncomputable def apart (d : TypeDesc) (k : Value) (jm i : Nat) (R : List Rec) : Nat → Bool := List.rec (fun _ => true) (fun p _ ih z => match p.In with
  | some (j', _, k', _) => bc (Nat.beq j' jm) (bc (isKeyB d k') (bc (bor (Nat.beq z i) (bnot (kEq d k k'))) (ih (Nat.succ z)) false) false) (ih (Nat.succ z))
  | none => ih (Nat.succ z)) R
theorem apart_ok {d : TypeDesc} {k : Value} {jm i : Nat} : ∀ {R : List Rec} {z0 : Nat}, apart d k jm i R z0 = true → ∀ (z : Nat) (rz : Rec) (d' : TypeDesc) (k' : Value) (a' : EV), R[z]? = some rz → rz.In = some (jm, d', k', a') → isKeyB d k' = true ∧ (z0 + z ≠ i → kEq d k k' = false)
  | [], z0, _, z, rz, d', k', a', h, _ => by simp at h
  | p :: R, z0, h, z, rz, d', k', a', hz, hin => by
    have h' : (match p.In with
      | some (j', _, k', _) => bc (Nat.beq j' jm) (bc (isKeyB d k') (bc (bor (Nat.beq z0 i) (bnot (kEq d k k'))) (apart d k jm i R (z0 + 1)) false) false) (apart d k jm i R (z0 + 1))
      | none => apart d k jm i R (z0 + 1)) = true := h
    have rest : apart d k jm i R (z0 + 1) = true := by
      split at h'
      · rw [bc_eq, bc_eq, bc_eq] at h'
        split at h'
        · split at h'
          · split at h'
            · exact h'
            · cases h'
          · cases h'
        · exact h'
      · exact h'
    cases z with
    | succ z =>
      have := apart_ok rest z rz d' k' a' (by simpa using hz) hin
      rwa [show z0 + 1 + z = z0 + (z + 1) by omega] at this
    | zero =>
      simp at hz; subst hz
      rw [hin] at h'
      simp only [bc_eq, Nat.beq_refl] at h'
      rw [if_pos trivial] at h'
      split at h'
      case isFalse => cases h'
      rename_i hk
      split at h'
      case isFalse => cases h'
      rename_i hb
      refine ⟨hk, fun hne => ?_⟩
      rcases bor_iff.1 hb with h1 | h1
      · exact absurd (Nat.eq_of_beq_eq_true h1) (by omega)
      · exact bnot_ok h1
noncomputable def isMpAt (R : List Rec) (j : Nat) : Bool := match lget R j with
  | some r => r.Mp
  | none => false
/-- the numbers kept for new blocks are free -/
noncomputable def chkFr (A : List Nat) (n0 : Nat) (M0 : Mm) (R : List Rec) (louds : List Nat) (j : Nat) (r : Rec) : Bool := match r.Fr with
  | some _ => bc (noEK (M0.H.get (Nat.add n0 j))) (allL (fun q => bor (tb (atA A q) j) (noEK ((memOf R q).H.get (Nat.add n0 j)))) louds) false
  | none => true
noncomputable def chkMp (n0 : Nat) (M0 : Mm) (R : List Rec) (louds : List Nat) (j : Nat) (r : Rec) : Bool := bc r.Mp (bc (noEK (M0.H.get (Nat.add n0 j))) (allL (fun q => noEK ((memOf R q).H.get (Nat.add n0 j))) louds) false) true
noncomputable def chkIn (A : List Nat) (R : List Rec) (j : Nat) (r : Rec) : Bool := match r.In with
  | some (jm, d, k, _) => bc (isMpAt R jm) (bc (tb (atA A j) jm) (apart d k jm j R 0) false) false
  | none => true
noncomputable def chkFree (A : List Nat) (n0 : Nat) (M0 : Mm) (R : List Rec) (louds : List Nat) : Bool := allI (llen R) fun j => match lget R j with
  | some r => bc (chkFr A n0 M0 R louds j r) (bc (chkMp n0 M0 R louds j r) (chkIn A R j r) false) false
  | none => true
theorem chkFree_ok {A : List Nat} {n0 : Nat} {M0 : Mm} {R : List Rec} {louds : List Nat} (h : chkFree A n0 M0 R louds = true) {j : Nat} {r : Rec} (hr : R[j]? = some r) : chkFr A n0 M0 R louds j r = true ∧ chkMp n0 M0 R louds j r = true ∧ chkIn A R j r = true := by
  have hj : j < R.length := (List.getElem?_eq_some_iff.1 hr).1
  have := allI_ok h j (by rw [llen_eq]; exact hj)
  rw [lget_eq, hr] at this
  simp only [bc_eq] at this
  split at this
  case isFalse => cases this
  rename_i h1
  split at this
  case isFalse => cases this
  rename_i h2
  exact ⟨h1, h2, this⟩
theorem run_of {sub : Sub} {q : QF} {RO : Tr (TypeId × SyC)} {ops : Array Oper} {A : List Nat} {n0 : Nat} {M0 : Mm} {R : List Rec} (hs : statB ops A = true) (hc : canon P sub q ops A T0 n0 ops.toList 0 [] M0 = some R) (hl : loudB A (loudIdx R 0) = true) {Ts : List (Tr EV)} (hq : chkAll q ops A n0 (frl R 0) M0 R Ts (loudIdx R 0) = true) (hTs : ∀ i o, ops[i]? = some o → Ts[i]? = some (tabAt ops A T0 (R.take i) i o)) (hml0 : ∀ (T : Tr EV) (o : Oper) (H H' : Tr EK) (n n' : Nat), memless o.op = true → q T o H n = q T o H' n') (hqok : ∀ (i : Nat) (o : Oper), ops[i]? = some o → quiet o.op = true → exGuard (tabAt ops A T0 (R.take i) i o) ops o = some true → ∀ (γ : G) (w0 : Bs) (w : World) (tmps : Array Value) (H : Tr EK) (n : Nat) (a : EV), ROk γ w0 RO → TOk γ (tabAt ops A T0 (R.take i) i o) tmps → HR γ w0 H n w → q (tabAt ops A T0 (R.take i) i o) o H n = some a → ∃ γ' w' x, GLe γ γ' ∧ HR γ' w0 H n w' ∧ (execOp (opEval tmps) o).run P w = .ok (.value x) w' ∧ EC γ' a x) (hf : chkFree A n0 M0 R (loudIdx R 0) = true) (ha : M0.a = 0) (hroom : n0 + ops.size ≤ 65536) : Run P sub q RO ops A T0 n0 M0 R := by
  have hst := statB_ok hs
  obtain ⟨h1, _, h3⟩ := canon_ok (M0 := M0) (R := []) hc rfl
  have hlen : R.length = ops.size := by simpa using h1
  have hstep : ∀ i o, ops[i]? = some o → ∃ r, R[i]? = some r ∧ exRec P sub q ops A T0 n0 (R.take i) i o (memAt M0 R i) = some r := fun i o ho => by
    have := h3 i o (by simpa using ho)
    simpa using this
  have mem : ∀ {i : Nat}, i ∈ loudIdx R 0 ↔ ∃ r, R[i]? = some r ∧ r.L = true := fun {i} => by
    rw [loudIdx_mem]
    constructor
    · rintro ⟨j, r, h1, h2, h3⟩; rw [Nat.zero_add] at h1; subst h1; exact ⟨r, h2, h3⟩
    · rintro ⟨r, h2, h3⟩; exact ⟨i, r, by omega, h2, h3⟩
  have hloud : ∀ i j ri rj, j < i → R[i]? = some ri → R[j]? = some rj → ri.L = true → rj.L = true → tb (atA A i) j = true := fun i j ri rj hji hi hj hli hlj => by
    have := allL_ok (allL_ok hl i (mem.2 ⟨ri, hi, hli⟩)) j (mem.2 ⟨rj, hj, hlj⟩)
    rcases bor_iff.1 this with h | h
    · have := Nat.le_of_ble_eq_true h; omega
    · exact h
  -- the memory before an operation, without the last field
  have hmem : ∀ i, i ≤ ops.size → memAt M0 R i = md (fun j => decide (j < i)) R 0 M0 := fun i => by
    induction i with
    | zero => intro _; rw [md_none (fun j p _ _ => by simp)]; rfl
    | succ i ih =>
      intro hi
      have hlt : i < ops.size := by omega
      obtain ⟨r, hr, hx⟩ := hstep i ops[i] (by simp [hlt])
      have e0 : memAt M0 R (i + 1) = r.M := by simp [memAt, hr]
      rw [e0]
      by_cases hl : r.L = true
      · exact (md_ins hr hl (fun j rj hj _ _ => by simp; omega) (by simp)).symm
      · have hl : r.L = false := by simpa using hl
        rw [exRec_keeps hx hl, ih (by omega)]
        refine md_congr fun j p hj hp => ?_
        by_cases e : j = i
        · subst e; rw [hr] at hj; injection hj with hj; subst hj; rw [hl] at hp; cases hp
        · simp; omega
  have hmO : ∀ q rq, R[q]? = some rq → memOf R q = rq.M := fun q rq h => by unfold memOf; rw [lget_eq, h]
  have hfree : ∀ (j : Nat) (r : Rec) (c : EK), R[j]? = some r → r.Fr = some c → M0.H.get (n0 + j) = none ∧ ∀ (q : Nat) (rq : Rec), R[q]? = some rq → rq.L = true → tb rq.M.a j = false → rq.M.H.get (n0 + j) = none := fun j r c hr hc => by
    have hj : j < R.length := (List.getElem?_eq_some_iff.1 hr).1
    have := (chkFree_ok hf hr).1
    unfold chkFr at this
    simp only [hc, bc_eq] at this
    split at this
    case isFalse => cases this
    rename_i h5
    refine ⟨noEK_ok h5, fun q rq hq hl hb => ?_⟩
    have h6 := allL_ok this q (mem.2 ⟨rq, hq, hl⟩)
    have hqs : q < ops.size := by rw [← hlen]; exact (List.getElem?_eq_some_iff.1 hq).1
    obtain ⟨r7, hr7, hx7⟩ := hstep q ops[q] (by simp [hqs])
    rw [hq] at hr7; injection hr7 with hr7; subst hr7
    rw [(exRec_loud hx7 hl).1] at hb
    rcases bor_iff.1 h6 with h6 | h6
    · rw [hb] at h6; cases h6
    · rw [hmO q rq hq] at h6; exact noEK_ok h6
  have hfreeM : ∀ (j : Nat) (r : Rec), R[j]? = some r → r.Mp = true → M0.H.get (n0 + j) = none ∧ ∀ (q : Nat) (rq : Rec), R[q]? = some rq → rq.L = true → rq.M.H.get (n0 + j) = none := fun j r hr hm => by
    have := (chkFree_ok hf hr).2.1
    unfold chkMp at this
    rw [hm, bc_eq, bc_eq, if_pos rfl] at this
    split at this
    case isFalse => cases this
    rename_i h5
    refine ⟨noEK_ok h5, fun q rq hq hl => ?_⟩
    have h6 := allL_ok this q (mem.2 ⟨rq, hq, hl⟩)
    rw [hmO q rq hq] at h6; exact noEK_ok h6
  have hins : ∀ (i : Nat) (r : Rec) (j : Nat) (d : TypeDesc) (k : Value) (a : EV), R[i]? = some r → r.In = some (j, d, k, a) → (∃ rj, R[j]? = some rj ∧ rj.Mp = true) ∧ tb (atA A i) j = true ∧
      ∀ (z : Nat) (rz : Rec) (d' : TypeDesc) (k' : Value) (a' : EV), R[z]? = some rz → rz.In = some (j, d', k', a') → isKeyB d k' = true ∧ (z ≠ i → kEq d k k' = false) := fun i r j d k a hr hin => by
    have := (chkFree_ok hf hr).2.2
    unfold chkIn at this
    rw [hin] at this
    simp only [bc_eq] at this
    split at this
    case isFalse => cases this
    rename_i h5
    split at this
    case isFalse => cases this
    rename_i h6
    refine ⟨?_, h6, fun z rz d' k' a' hz hi => ?_⟩
    · unfold isMpAt at h5
      rw [lget_eq] at h5
      split at h5
      · rename_i rj hrj; exact ⟨rj, hrj, h5⟩
      · cases h5
    · have := apart_ok this z rz d' k' a' hz hi
      rwa [Nat.zero_add] at this
  refine ⟨hst, hlen, hroom, ha, hfree, hfreeM, hins, hstep, hloud, fun i o r ho hr hqo hgd hnf hni D hg hA hn => ?_, hqok⟩
  obtain ⟨r2, hr2, hx⟩ := hstep i o ho
  rw [hr] at hr2; injection hr2 with hr2; subst hr2
  have hi : i < ops.size := (Array.getElem?_eq_some_iff.1 ho).1
  have hcan : q (tabAt ops A T0 (R.take i) i o) o (vis A n0 (R.take i) i (memAt M0 R i)) (memAt M0 R i).n = some r.V := by
    unfold exRec at hx
    rw [hgd] at hx
    simp only [show Nat.add n0 i = n0 + i from rfl, hnf, hni] at hx
    rw [bc_eq, if_pos hqo] at hx
    split at hx
    · rename_i a ha; injection hx with hx; rw [← hx]; exact ha
    · cases hx
  by_cases hml : memless o.op = true
  · rw [hml0 _ _ _ (vis A n0 (R.take i) i (memAt M0 R i)) _ (memAt M0 R i).n hml]; exact hcan
  have hchk : loudIdx R 0 = [] ∨ chkQ q A n0 (frl R 0) M0 R (loudIdx R 0) i o (tabAt ops A T0 (R.take i) i o) r.V = true := by
    unfold chkAll at hq
    split at hq
    · rename_i e; exact .inl e
    · have := chkLoop_ok hq i o r _ (by simpa using ho) hr (hTs i o ho)
      unfold chk1 at this
      rw [Nat.zero_add, bc_eq, bc_eq, if_pos hqo, if_neg hml, hgd] at this
      exact .inr this
  rcases md_cases D R 0 M0 with ⟨e1, e2⟩ | ⟨z, rq, e1, e2, e3, e4, e5⟩
  · -- no loud one has run
    rw [e1]
    have canI : (∀ l ∈ loudIdx R 0, i ≤ l) → q (tabAt ops A T0 (R.take i) i o) o (vis A n0 (R.take i) i M0) M0.n = some r.V := fun h => by
      rw [hmem i (by omega), md_none (fun j p hj hp => ?_)] at hcan
      · exact hcan
      · have := h j (mem.2 ⟨p, hj, hp⟩)
        simp; omega
    rcases hchk with hnil | hchk
    · exact canI fun l hl => by rw [hnil] at hl; simp at hl
    · unfold chkQ at hchk
      have hv : ∀ M, visF A n0 (frl R 0) i M = vis A n0 (R.take i) i M := fun M => visF_eq.trans (vis_take hst ho).symm
      simp only [hv] at hchk
      rw [bc_eq] at hchk
      split at hchk
      case isFalse => cases hchk
      rename_i hc1
      rcases bor_iff.1 hc1 with h | h
      · exact canI fun l hl => Nat.le_of_ble_eq_true (allL_ok h l hl)
      · rcases bor_iff.1 h with h | h
        · obtain ⟨l, hl, hb⟩ := anyL_ok h
          obtain ⟨rl, hrl, hll⟩ := mem.1 hl
          have := e2 l rl hrl hll
          rw [Nat.zero_add, hA l hb] at this; cases this
        · exact eqQ_ok h
  · rw [Nat.zero_add] at e3
    rw [e5]
    have hqm : z ∈ loudIdx R 0 := mem.2 ⟨rq, e1, e2⟩
    rcases hchk with hnil | hchk
    · rw [hnil] at hqm; simp at hqm
    · unfold chkQ at hchk
      have hv : ∀ M, visF A n0 (frl R 0) i M = vis A n0 (R.take i) i M := fun M => visF_eq.trans (vis_take hst ho).symm
      simp only [hv] at hchk
      rw [bc_eq] at hchk
      split at hchk
      case isFalse => cases hchk
      have h := allL_ok hchk z hqm
      rcases bor_iff.1 h with h | h
      · rw [bc_eq] at h
        split at h
        case isFalse => cases h
        rename_i hqi
        have hqi := blt_lt hqi
        rw [hmem i (by omega), md_ins e1 e2 (fun j rj hj hrj hlj => ?_) (by simp [hqi])] at hcan
        · exact hcan
        · have := allL_ok h j (mem.2 ⟨rj, hrj, hlj⟩)
          rcases bor_iff.1 this with h9 | h9
          · have := Nat.le_of_ble_eq_true h9; omega
          · have := Nat.le_of_ble_eq_true h9; simp; omega
      · rcases bor_iff.1 h with h | h
        · have hqs : z < ops.size := by rw [← hlen]; exact (List.getElem?_eq_some_iff.1 e1).1
          have := hg z hqs e3 i h
          rw [hn] at this; cases this
        · rcases bor_iff.1 h with h | h
          · obtain ⟨l, hl, hb⟩ := anyL_ok h
            rw [bc_eq] at hb
            split at hb
            case isFalse => cases hb
            rename_i hql
            obtain ⟨rl, hrl, hll⟩ := mem.1 hl
            have := e4 l rl (blt_lt hql) hrl hll
            rw [Nat.zero_add, hA l hb] at this; cases this
          · have := eqQ_ok h
            rw [hmO z rq e1] at this
            exact this
/-- the slots at the end -/
noncomputable def finT (N : Nat) (l : List (Oper × Rec)) : Tr EV → Option (Tr EV) := List.rec (fun T => some T) (fun p _ ih T => match setD T N p.1.dst p.2.V with
  | some T' => ih T'
  | none => none) l
theorem finT_ok {N : Nat} : ∀ {l : List (Oper × Rec)} {T T' : Tr EV} {k : Nat}, finT N l T = some T' → (∀ s, T'.get s = lw (fun _ => true) s l k (T.get s)) ∧ ∀ p ∈ l, ∀ d, p.1.dst = some d → d < N
  | [], T, T', k, h => by
    have h' : some T = some T' := h
    injection h' with h'; subst h'
    exact ⟨fun _ => rfl, fun p hp => by simp at hp⟩
  | p :: l, T, T', k, h => by
    have h' : (match setD T N p.1.dst p.2.V with
      | some T' => finT N l T'
      | none => none) = some T' := h
    split at h'
    case h_2 => cases h'
    rename_i T2 hT2
    obtain ⟨h1, h2⟩ := finT_ok (k := k + 1) h'
    unfold setD at hT2
    cases hd : p.1.dst with
    | none =>
      rw [hd] at hT2
      injection hT2 with hT2; subst hT2
      refine ⟨fun s => by rw [h1, lw_cons, hd]; simp, fun q hq d hqd => ?_⟩
      rcases List.mem_cons.1 hq with rfl | hq
      · rw [hd] at hqd; cases hqd
      · exact h2 q hq d hqd
    | some d =>
      rw [hd] at hT2
      simp only [bc_eq] at hT2
      split at hT2
      case isFalse => cases hT2
      rename_i hN
      split at hT2
      case isFalse => cases hT2
      rename_i hb
      injection hT2 with hT2; subst hT2
      refine ⟨fun s => ?_, fun q hq d' hqd => ?_⟩
      · rw [h1, lw_cons, hd, Tr.get_put hb]
        by_cases e : s = d
        · subst e; simp
        · rw [if_neg e, if_neg (fun e2 => e (by have := e2.2; injection this with this; exact this.symm))]
      · rcases List.mem_cons.1 hq with rfl | hq
        · rw [hd] at hqd; injection hqd with hqd; subst hqd; exact blt_lt hN
        · exact h2 q hq d' hqd
noncomputable def drGo3 (s : ES) (k : List IM) (T' : Tr EV) (n0 : Nat) (Fl : List (Nat × EK)) (R : List Rec) (M : Mm) : EO := .go { s with top := { s.top with T := T', todo := k }, H := fT (mpF (fun _ => true) R) n0 R 0 (frF (fun j => bc (tb M.a j) false true) n0 Fl M.H), n := M.n }
noncomputable def drGo2 (P : Program) (s : ES) (ops : Array Oper) (k : List IM) (A : List Nat) (M0 : Mm) (c : CF) (louds : List Nat) : EO := bc (loudB A louds) (bc (chkAll (exQ P) ops A s.n c.Fl M0 c.R c.Ts louds) (bc (chkFree A s.n M0 c.R louds) (drGo3 s k c.T s.n c.Fl c.R (md (fun _ => true) c.R 0 M0)) .fail) .fail) .fail
noncomputable def drGo1 (P : Program) (sub : Sub) (s : ES) (ops : Array Oper) (k : List IM) (A : List Nat) (M0 : Mm) : EO := match canonF P sub (exQ P) ops A s.n s.top.N ops.toList 0 [] [] M0 s.top.T [] with
  | some c => drGo2 P s ops k A M0 c (loudIdx c.R 0)
  | none => .fail
noncomputable def drGo (P : Program) (sub : Sub) (s : ES) (ops : Array Oper) (k : List IM) (A : List Nat) (m : Nat) : EO := bc (statB ops A) (bc (Nat.ble (Nat.add s.n m) 65536) (drGo1 P sub s ops k A ⟨s.H, Nat.add s.n m, 0⟩) .fail) .fail
noncomputable def drAny (P : Program) (sub : Sub) : ES → Nat → Array Oper → List IM → EO := fun s _ ops k => drGo P sub s ops k (ancs ops.toList []) (llen ops.toList)
theorem drAny_ok (hm : P.follows .mixedOrders = true) {sub : Sub} (hsub : LoudOk P sub) : DrOk P (drAny P sub) := by
  intro γ w0 w cs fid s id ops k tmps todo ds ro frs hret h1 h2 hk h4 h5 hfs hH
  unfold drAny drGo
  rw [bc_eq, bc_eq]
  split
  case isFalse => trivial
  rename_i hs
  split
  case isFalse => trivial
  rename_i hroom
  have hroom := Nat.le_of_ble_eq_true hroom
  have hroom : s.n + llen ops.toList ≤ 65536 := hroom
  unfold drGo1
  split
  case h_2 => trivial
  rename_i c hc
  obtain ⟨R, T', Ts, Fl⟩ := c
  have hst0 := statB_ok hs
  obtain ⟨c1, c2, c3, _, c5, c6⟩ := canonF_ok (T0 := s.top.T) (R := []) (Ts := []) hst0 hc (fun j o hj => by simpa using hj) (fun s => by simp [lw]) rfl
  have c6 : Fl = frl R 0 := c6
  subst c6
  unfold drGo2
  rw [bc_eq, bc_eq, bc_eq]
  split
  case isFalse => trivial
  rename_i hl
  split
  case isFalse => trivial
  rename_i hq
  split
  case isFalse => trivial
  rename_i hf
  have hll : llen ops.toList = ops.size := by rw [llen_eq]; simp
  rw [hll] at hroom
  have hR := run_of (RO := .nil) hs c1 hl hq (fun i o ho => by simpa using c5 i o (by simpa using ho)) (fun _ _ _ _ _ _ h => exQ_memless h) (fun i o ho hqo _ γ w0 w tmps H n a _ hT hH h => exQ_ok hT hH hqo h) hf rfl hroom
  obtain ⟨t, ht⟩ := st_draw (P := P) (w := w) (cs := frs ++ cs) (fn := s.top.fn) (tmps := tmps) (id := id) (ops := ops) (k := todo) (ds := ds) (ro := ro) hm
  have hdst : ∀ (i : Nat) (o : Oper), ops[i]? = some o → ∀ d, o.dst = some d → d < s.top.N := fun i o ho d hd => by
    exact c3 o (List.mem_of_getElem? (show ops.toList[i]? = some o by simpa using ho)) d hd
  have hrep : (fun j => (Array.replicate ops.size false).getD j false) = fun _ => false := funext fun j => by
    simp only [Array.getD]
    split
    · simp
    · rfl
  obtain ⟨γ', tmps', w', hle, hst, hT2, hN2, hH2⟩ := hR.all (w0 := w0) (cs := frs ++ cs) hsub (fun q hq => (hH.rsv q hq).2) (fn := s.top.fn) (k := todo) (ds := ds) (ro := ro) (N := s.top.N) hdst ops.size t (Array.replicate ops.size false) γ tmps { w with drawn := w.drawn + 1 } (ROk.none _ _) (by simp)
    (by rw [hrep]; intro i _ hD; cases hD) (by exact Nat.le_trans (List.length_filter_le _ _) (by simp))
    (by rw [hrep]; intro sl a hs; rw [lw_none (fun _ _ _ _ => rfl)] at hs; exact h2 sl a hs) h1
    (by
      rw [hrep]
      unfold HD
      rw [md_none (fun _ _ _ _ => rfl)]
      have h9 : HR γ w0 s.H (s.n + llen ops.toList) { w with drawn := w.drawn + 1 } := by
        have := hH.step (w' := { w with drawn := w.drawn + 1 }) rfl rfl rfl rfl
        exact ⟨this.hp0, this.inj0, fun i hi => this.fresh i (by omega), fun i hi => let ⟨q1, q2⟩ := this.rsv i hi; ⟨q1, by omega⟩, this.lt, this.stays⟩
      refine HR.reserve (h9.congr fun b c hb => ?_) fun i hi => ?_
      · rw [hR.kd, md_none (fun _ _ _ _ => rfl)] at hb
        have hmp : fV (mpF (fun _ => false) R) s.n 0 R b = none := by
          cases e : fV (mpF (fun _ => false) R) s.n 0 R b with
          | none => rfl
          | some c =>
            obtain ⟨j, r, _, _, e2⟩ := fV_some.1 e
            have := (mpF_some.1 e2).2.1
            cases this
        rw [hmp, Option.none_or] at hb
        cases hv : frV (fun j => bc (tb 0 j) false false) s.n 0 R b with
        | none => rw [hv, Option.none_or] at hb; exact hb
        | some c2 =>
          obtain ⟨j, r, _, _, h5, _⟩ := frV_some.1 hv
          rw [bc_eq] at h5
          split at h5 <;> cases h5
      · rcases hi with hi | ⟨j, h5, _, rfl⟩
        · obtain ⟨q1, q2⟩ := hH.rsv i hi
          exact ⟨q1, show i < s.n + llen ops.toList by omega⟩
        · exact ⟨hH.fresh _ (by omega), show s.n + j < s.n + llen ops.toList by omega⟩)
  refine ⟨γ', _, hle, (Steps.one ht).trans (hst.trans (.one st_regionEnd)), _, frs, w', rfl, ⟨tmps', todo, ds, ro, by simp [fram, hret, modeOf], hN2, fun sl a hs => hT2 sl a ((c2 sl).symm.trans hs), hk.mono fun _ _ h => h.mono hle, h4.mono fun _ _ h => h.mono hle, h5.mono hle⟩, hfs.mono fun _ _ h => h.mono hle, ?_⟩
  unfold HD at hH2
  unfold KD at hH2
  rw [← frF_eq] at hH2
  exact (HR.lessRes (r' := w0.res) hH2 fun i hi => .inl hi)
/-- handlers, so many deep -/
noncomputable def drD (P : Program) (FT : Tr FI) (K : Nat) (d : Nat) : ES → Nat → Array Oper → List IM → EO := Nat.rec noDraw (fun _ ih => drAny P (exSub (fun f => exStep P FT f ih) FT K)) d
theorem drD_ok (hm : P.follows .mixedOrders = true) (hF : FTok P FT) (K : Nat) : ∀ d, DrOk P (drD P FT K d)
  | 0 => noDraw_ok
  | d + 1 => drAny_ok hm (loudOk hF (fun fid cs w0 γ s m hM => exStep_ok hF (drD_ok hm hF K d) hM) K)
end Go.Proofs.Ytfmofpdbhkoopaa.Ev
namespace Go.Proofs.Ytfmofpdbhkoopaa.Ev
open Go.RowKit
variable {P : Program} {γ γ' : G} {w0 : Bs} {w : World} {H H' : Tr EK} {n n' : Nat} {T : Tr EV} {cs : List Frame} {fid : FuncId} {FT : Tr FI}

/-- from each machine of the one state a machine of the other is reached -/
def Leads (P : Program) (s s' : ES) : Prop := ∀ (γ : G) (w0 : Bs) (cs : List Frame) (m : Machine), MR γ w0 cs s m → ∃ γ' m', GLe γ γ' ∧ Steps P m m' ∧ MR γ' w0 cs s' m'
theorem Leads.trans {a b c : ES} (h : Leads P a b) (k : Leads P b c) : Leads P a c := fun γ w0 cs m hm => by
  obtain ⟨γ1, m1, h1, h2, h3⟩ := h γ w0 cs m hm
  obtain ⟨γ2, m2, k1, k2, k3⟩ := k γ1 w0 cs m1 h3
  exact ⟨γ2, m2, h1.trans k1, h2.trans k2, k3⟩
/-! ### a run until a place -/
noncomputable def exUntil (st : ES → EO) (p : ES → Bool) (k : Nat) : ES → EO := Nat.rec (fun s => st s) (fun _ ih s => EO.rec (fun s' => Bool.rec (ih s') (.go s') (p s')) (fun a H n => .done a H n) (fun b H n => .doneR b H n) .fail (ih s)) k
theorem exUntil_ok {st : ES → EO} {p : ES → Bool} (hst : ∀ (γ : G) (s : ES) (m : Machine), MR γ w0 cs s m → SOk P γ w0 cs fid m (st s)) : ∀ (k : Nat) (γ : G) (s : ES) (m : Machine), MR γ w0 cs s m → SOk P γ w0 cs fid m (exUntil st p k s)
  | 0, γ, s, m, h => hst γ s m h
  | k + 1, γ, s, m, h => by
    have h1 := exUntil_ok (p := p) hst k γ s m h
    show SOk P γ w0 cs fid m (EO.rec (fun s' => Bool.rec (exUntil st p k s') (.go s') (p s')) (fun a H n => .done a H n) (fun b H n => .doneR b H n) .fail (exUntil st p k s))
    cases hr : exUntil st p k s with
    | go s' =>
      rw [hr] at h1
      show SOk P γ w0 cs fid m (Bool.rec (exUntil st p k s') (.go s') (p s'))
      cases p s' with
      | true => exact h1
      | false =>
        obtain ⟨γ', m', hle, hs, hm⟩ := h1
        exact SOk.trans hle hs (exUntil_ok hst k γ' s' m' hm)
    | done a H n => rw [hr] at h1; exact h1
    | doneR b H n => rw [hr] at h1; exact h1
    | fail => trivial
/-- so many frames beneath, a function on top, ahead of a region -/
noncomputable def atR (d f id : Nat) (s : ES) : Bool := bc (Nat.beq (llen s.rest) d) (bc (Nat.beq s.top.fn f) (match s.top.todo with
  | .it (.code (.seq (.region i _ _) _)) :: _ => Nat.beq i id
  | .it (.code (.region i _ _)) :: _ => Nat.beq i id
  | _ => false) false) false
/-! ### a state in few words -/
noncomputable def mkT {α : Type} (l : List (Nat × α)) : Tr α := List.rec .nil (fun p _ ih => bc (Nat.ble p.1 65535) (ih.put p.1 (some p.2)) ih) l
theorem mkT_get {α : Type} : ∀ {l : List (Nat × α)} {s : Nat} {a : α}, (mkT l).get s = some a → (s, a) ∈ l
  | [], s, a, h => by cases h
  | p :: l, s, a, h => by
    have h' : (bc (Nat.ble p.1 65535) ((mkT l).put p.1 (some p.2)) (mkT l)).get s = some a := h
    rw [bc_eq] at h'
    split at h'
    · rename_i hp
      rw [Tr.get_put hp] at h'
      by_cases e : s = p.1
      · rw [if_pos e] at h'; injection h' with h'; subst h'; subst e; simp
      · rw [if_neg e] at h'; exact List.mem_cons_of_mem _ (mkT_get h')
    · exact List.mem_cons_of_mem _ (mkT_get h')
noncomputable def pick {α : Type} (t : Tr α) (l : List Nat) : List (Nat × α) := List.rec [] (fun s _ ih => match t.get s with
  | some a => (s, a) :: ih
  | none => ih) l
theorem pick_mem {α : Type} {t : Tr α} : ∀ {l : List Nat} {s : Nat} {a : α}, (s, a) ∈ pick t l → t.get s = some a
  | [], s, a, h => by cases h
  | q :: l, s, a, h => by
    have h' : (s, a) ∈ (match t.get q with
      | some a => (q, a) :: pick t l
      | none => pick t l) := h
    split at h'
    · rename_i b hb
      rcases List.mem_cons.1 h' with h' | h'
      · injection h' with e1 e2; subst e1; subst e2; exact hb
      · exact pick_mem h'
    · exact pick_mem h'
noncomputable def upto (k : Nat) : List Nat → List Nat := Nat.rec (fun acc => acc) (fun k ih acc => ih (k :: acc)) k
/-! the numbers that values speak of -/
noncomputable def flatN {α : Type} (f : α → List Nat) (l : List α) : List Nat := List.rec [] (fun a _ ih => f a ++ ih) l
noncomputable def numsE (k : Nat) : EV → List Nat := Nat.rec (fun _ => []) (fun _ ih a => match a with
  | .ptr i _ => [i]
  | .sl i _ _ _ _ => [i]
  | .slE i _ _ => [i]
  | .agg l => flatN ih l
  | .tup l => flatN ih l
  | .fn _ l => flatN ih l
  | .mt _ l => flatN ih l
  | .slO i _ _ _ => [i]
  | .yl i => [i]
  | .mp i => [i]
  | _ => []) k
noncomputable def numsK (k : EK) : List Nat := match k with
  | .cells _ l _ => flatN (numsE 6) l
  | .arr _ T len => match lstT T len [] with
    | some l => flatN (numsE 6) l
    | none => []
  | _ => []
noncomputable def memN (i : Nat) (l : List Nat) : Bool := List.rec false (fun a _ ih => Bool.rec ih true (Nat.beq a i)) l
noncomputable def reachN (H : Tr EK) (k : Nat) : List Nat → List Nat → List Nat := Nat.rec (fun _ seen => seen) (fun _ ih todo seen => match todo with
  | [] => seen
  | i :: todo => bc (memN i seen) (ih todo seen) (match H.get i with
    | some e => ih (numsK e ++ todo) (i :: seen)
    | none => ih todo seen)) k
/-- a frame, and a state, in few words -/
structure FS where
  fn : FuncId
  N : Nat
  T : List (Nat × EV)
  todo : List IM
  ds : List DE
  ro : Option Nat
structure NS where
  fs : List FS
  H : List (Nat × EK)
  n : Nat
noncomputable def frOf (f : FS) : EF := ⟨f.fn, f.N, mkT f.T, f.todo, f.ds, f.ro, false⟩
noncomputable def frsOf (l : List FS) : List EF := List.rec [] (fun f _ ih => frOf f :: ih) l
noncomputable def stOf (r : NS) : ES := match r.fs with
  | f :: l => ⟨frOf f, frsOf l, mkT r.H, r.n⟩
  | [] => ⟨⟨0, 0, .nil, [], [], none, false⟩, [], .nil, 0⟩
noncomputable def normF (f : EF) : Option FS := match f.ret with
  | false => match f.dfs with
    | [] => match f.round with
      | none => some ⟨f.fn, f.N, pick f.T (upto f.N []), f.todo, [], none⟩
      | _ => none
    | _ => none
  | _ => none
noncomputable def normFs (l : List EF) : Option (List FS) := List.rec (some []) (fun f _ ih => match normF f with
  | some a => match ih with
    | some r => some (a :: r)
    | none => none
  | none => none) l
noncomputable def normS (s : ES) : Option NS := match normFs (s.top :: s.rest) with
  | some l => some ⟨l, pick s.H (reachN s.H 4000 (flatN (fun f => flatN (fun p => numsE 6 p.2) f.T) l) []), s.n⟩
  | none => none
noncomputable def normE (e : EO) : Option NS := match e with
  | .go s => normS s
  | _ => none
theorem normF_ok {f : EF} {a : FS} {fr : Frame} (h : normF f = some a) (hf : FR γ f fr) : FR γ (frOf a) fr := by
  unfold normF at h
  split at h
  case h_2 => cases h
  rename_i hret
  split at h
  case h_2 => cases h
  rename_i hdfs
  split at h
  case h_2 => cases h
  rename_i hround
  injection h with h; subst h
  obtain ⟨tmps, todo, ds, ro, rfl, h1, h2, h3, h4, h5⟩ := hf
  rw [hdfs] at h4
  rw [hround] at h5
  exact ⟨tmps, todo, ds, ro, by rw [hret]; rfl, h1, fun sl a hs => h2 sl a (pick_mem (mkT_get hs)), h3, h4, h5⟩
theorem normFs_ok : ∀ {l : List EF} {r : List FS} {frs : List Frame}, normFs l = some r → All2 (FR γ) l frs → All2 (FR γ) (frsOf r) frs
  | [], r, frs, h, hf => by
    have h' : some [] = some r := h
    injection h' with h'; subst h'
    cases hf; exact .nil
  | f :: l, r, frs, h, hf => by
    have h' : (match normF f with
      | some a => match normFs l with
        | some r => some (a :: r)
        | none => none
      | none => none) = some r := h
    split at h'
    case h_2 => cases h'
    rename_i a ha
    split at h'
    case h_2 => cases h'
    rename_i r' hr'
    injection h' with h'; subst h'
    cases hf with
    | cons h1 h2 => exact .cons (normF_ok ha h1) (normFs_ok hr' h2)
theorem normS_ok {s : ES} {r : NS} (h : normS s = some r) {m : Machine} (hm : MR γ w0 cs s m) : MR γ w0 cs (stOf r) m := by
  unfold normS at h
  split at h
  case h_2 => cases h
  rename_i l hl
  injection h with h; subst h
  obtain ⟨fr, frs, w, rfl, h1, hfs, hH⟩ := hm
  have h2 := normFs_ok hl (.cons h1 hfs)
  cases l with
  | nil => cases h2
  | cons f l =>
    cases h2 with
    | cons h3 h4 => exact ⟨fr, frs, w, rfl, h3, h4, hH.congr fun b k hb => pick_mem (mkT_get hb)⟩
theorem leads_until (hF : FTok P FT) {dr : ES → Nat → Array Oper → List IM → EO} (hdr : DrOk P dr) {f k : Nat} {p : ES → Bool} {s : ES} {r : NS} (h : normE (exUntil (exStep P FT f dr) p k s) = some r) : Leads P s (stOf r) := fun γ w0 cs m hm => by
  have := exUntil_ok (p := p) (fid := f) (fun γ s m hm => exStep_ok hF hdr hm) k γ s m hm
  unfold normE at h
  split at h
  case h_2 => cases h
  rename_i s' hs'
  rw [hs'] at this
  obtain ⟨γ', m', h1, h2, h3⟩ := this
  exact ⟨γ', m', h1, h2, normS_ok h h3⟩
/-- the way into a body -/
def nav : List Nat → Code → Code
  | [], c => c
  | b :: l, .seq x y => nav l (if b = 0 then x else y)
  | b :: l, .cond _ x y => nav l (if b = 0 then x else y)
  | _ :: l, .block _ x => nav l x
  | _ :: l, .loop x => nav l x
  | _ :: l, .scope x => nav l x
  | b :: l, .rangeFunc _ _ x y => nav l (if b = 0 then x else y)
  | _ :: _, c => c
def opsOf : Code → Array Oper
  | .region _ ops _ => ops
  | _ => #[]
def bodyOf (f : Func) : Code := f.body.getD .skip
noncomputable def entry (FT : Tr FI) (f : FuncId) : ES := match exEnter FT f [] with
  | some e => ⟨e, [], .nil, 0⟩
  | none => ⟨⟨f, 0, .nil, [], [], none, false⟩, [], .nil, 0⟩
noncomputable def entersB (FT : Tr FI) (f : FuncId) : Bool := match exEnter FT f [] with
  | some _ => true
  | none => false
theorem partsTrue (hF : FTok P FT) {dr : ES → Nat → Array Oper → List IM → EO} (hdr : DrOk P dr) {f : FuncId} {k : Nat} {s : ES} (he : entersB FT f = true) (hl : Leads P (entry FT f) s) (h : endsB (exRun (exStep P FT f dr) k s) = true) (w : World) :
    Calls P f #[] w fun e w' => e = .returned (.bool true) ∧ Stays w w' := by
  intro cs
  obtain ⟨H, n, hd⟩ := endsB_ok h
  unfold entersB at he
  split at he
  case h_2 => cases he
  rename_i e hent
  have hE := exEnter_ok (γ := fun _ => none) hF (args := []) (vs := #[]) (ECL.nil _) hent
  have hM : MR (fun _ => none) (Bs.of w) cs (entry FT f) (lone (Frame.enter P f #[] .normal) cs w) := by
    unfold entry
    rw [hent]
    exact ⟨_, [], w, rfl, hE.1, .nil, ⟨(fun i k hk => by cases hk), (fun i j ki kj hi => by cases hi), (fun _ _ => rfl), (fun i hi => hi.elim), (fun i p hp => by cases hp), ⟨rfl, rfl, rfl, Nat.le_refl _, fun _ _ => rfl⟩⟩⟩
  obtain ⟨γ1, m1, g1, g2, g3⟩ := hl _ _ _ _ hM
  have := exRun_ok (fid := f) (fun γ s m hm => exStep_ok hF hdr hm) k _ _ _ g3
  rw [hd] at this
  obtain ⟨γ', fr', w', v, _, h2, h3, h4, h5, h6⟩ := this
  exact ⟨.returned v, w', fr', ⟨by rw [ec_v h5], staysOf h6.stays⟩, g2.trans h2, h3, h4⟩
end Go.Proofs.Ytfmofpdbhkoopaa.Ev
namespace Go.Proofs.Ytfmofpdbhkoopaa.Ev
open Go.RowKit
variable {P : Program} {γ γ' : G} {w0 : Bs} {w : World} {H H' : Tr EK} {n n' : Nat} {T : Tr EV} {cs : List Frame} {fid : FuncId} {FT : Tr FI} {tmps : Array Value} {o : Oper}

/-- a condition, and what the operation gives if it holds -/
structure YR where
  c : Bool
  er : ER
/-! ### contents -/
noncomputable def SyC.len (c : SyC) : Nat := match c with
  | .ints _ l => l.length
theorem SyC.enc_len (c : SyC) : c.enc.length = c.len := by
  cases c with
  | ints k l => show (l.map _).length = l.length; rw [List.length_map]
noncomputable def intE (k : IntKind) (a : EV) : Option Int := match a with
  | .v (.int k' x) => bc (decide (k' = k)) (some x) none
  | _ => none
theorem intE_ok {k : IntKind} {a : EV} {x : Int} (h : intE k a = some x) : a = .v (.int k x) := by
  unfold intE at h
  split at h
  case h_2 => cases h
  rw [bc_eq] at h
  split at h
  case isFalse => cases h
  rename_i hk
  injection h with h; subst h
  have := of_decide_eq_true hk
  subst this; rfl
noncomputable def intsE (k : IntKind) (ax : List EV) : Option (List Int) := List.rec (some []) (fun a _ ih => match intE k a with
  | some x => match ih with
    | some l => some (x :: l)
    | none => none
  | none => none) ax
theorem intsE_ok {k : IntKind} : ∀ {ax : List EV} {l : List Int}, intsE k ax = some l → ax = l.map fun x => .v (.int k x)
  | [], l, h => by simp [intsE] at h; subst h; rfl
  | a :: ax, l, h => by
    have h' : (match intE k a with
      | some x => match intsE k ax with
        | some l => some (x :: l)
        | none => none
      | none => none) = some l := h
    split at h'
    case h_2 => cases h'
    rename_i x hx
    split at h'
    case h_2 => cases h'
    rename_i l' hl
    injection h' with h'; subst h'
    rw [intE_ok hx, intsE_ok hl]; rfl
noncomputable def SyC.set (c : SyC) (off : Nat) (a : EV) : Option SyC := match c with
  | .ints k l => match intE k a with
    | some x => some (.ints k (l.set off x))
    | none => none
theorem SyC.set_enc {c c' : SyC} {off : Nat} {a : EV} (h : c.set off a = some c') : c'.enc = c.enc.set off a ∧ a.cells = [a] := by
  cases c with
  | ints k l =>
    have h' : (match intE k a with
      | some x => some (SyC.ints k (l.set off x))
      | none => none) = some c' := h
    split at h'
    case h_2 => cases h'
    rename_i x hx
    injection h' with h'; subst h'
    rw [intE_ok hx]
    refine ⟨?_, rfl⟩
    show (l.set off x).map _ = (l.map _).set off _
    rw [List.map_set]
noncomputable def SyC.app (c : SyC) (ax : List EV) : Option SyC := match c with
  | .ints k l => match intsE k ax with
    | some xs => some (.ints k (l ++ xs))
    | none => none
theorem SyC.app_enc {c c' : SyC} {ax : List EV} (h : c.app ax = some c') : c'.enc = c.enc ++ ax := by
  cases c with
  | ints k l =>
    have h' : (match intsE k ax with
      | some xs => some (SyC.ints k (l ++ xs))
      | none => none) = some c' := h
    split at h'
    case h_2 => cases h'
    rename_i xs hx
    injection h' with h'; subst h'
    show (l ++ xs).map _ = _
    rw [List.map_append, intsE_ok hx]; rfl
noncomputable def SyC.take (c : SyC) (k : Nat) : SyC := match c with
  | .ints q l => .ints q (l.take k)
theorem SyC.take_enc (c : SyC) (k : Nat) : (c.take k).enc = c.enc.take k := by
  cases c with
  | ints q l => show (l.take k).map _ = (l.map _).take k; rw [List.map_take]
theorem SyC.cell_ok2 {c : SyC} {off : Nat} (h : (c.cell off).1 = true) : c.enc[off]? = some (c.cell off).2 := by
  cases c with
  | ints k l =>
    have h1 : off < l.length := blt_lt h
    show (l.map fun x => EV.v (.int k x))[off]? = some (.v (.int k (l.getD off 0)))
    rw [List.getElem?_map, List.getElem?_eq_getElem h1, List.getD_eq_getElem?_getD, List.getElem?_eq_getElem h1]
    rfl
/-! ### tables of the same memory -/
theorem HR.recast (h : HR γ w0 H n w) {i : Nat} (hi : Nat.ble i 65535 = true) {k0 k : EK} (hg : H.get i = some k0) (hn : ¬ k0.Nil) (hk : ∀ b m, k0.ok γ b m w → k.ok γ b m w) : HR γ w0 (H.put i (some k)) n w := by
  obtain ⟨b, m, h1, h2, h3⟩ := h.hp i k0 hg hn
  exact h.turn hi hg h1 k (fun _ _ => rfl) rfl rfl rfl rfl (hk b m h3) hn
theorem HR.nilSeq (h : HR γ w0 H n w) {i : Nat} (hi : Nat.ble i 65535 = true) {ty : TypeId} {c : SyC} (hc : c.enc = []) : HR γ w0 (H.put i (some (.seq ty c false))) n w := by
  refine ⟨fun j k hj => ?_, fun j l kj kl hj hl nj nl hne bj bl ej el => ?_, h.fresh, h.rsv, h.lt, h.stays⟩
  · rw [Tr.get_put hi] at hj
    split at hj
    · injection hj with hj; subst hj; exact .inl ⟨rfl, hc⟩
    · exact h.hp0 j k hj
  · rw [Tr.get_put hi] at hj hl
    split at hj
    · injection hj with hj; subst hj; exact absurd ⟨rfl, hc⟩ nj
    · split at hl
      · injection hl with hl; subst hl; exact absurd ⟨rfl, hc⟩ nl
      · exact h.inj0 j l kj kl hj hl nj nl hne bj bl ej el
theorem seq_cells {ty : TypeId} {c : SyC} {nn : Bool} {b : Pl} {m : Nat} (h : (EK.seq ty c nn).ok γ b m w) : (EK.cells ty c.enc false).ok γ b m w := by
  obtain ⟨ca, h1, h2, h3, h4⟩ := h
  exact ⟨ca, h1, h2, h3, (fun e => by cases e), h4⟩
theorem cells_seq {ty : TypeId} {c : SyC} {nn full : Bool} {l : List EV} (hl : l = c.enc) {b : Pl} {m : Nat} (h : (EK.cells ty l full).ok γ b m w) : (EK.seq ty c nn).ok γ b m w := by
  subst hl
  obtain ⟨ca, h1, h2, h3, _, h4⟩ := h
  exact ⟨ca, h1, h2, h3, h4⟩
theorem notNil_of_len {ty : TypeId} {c : SyC} {nn : Bool} (h : 0 < c.len) : ¬ (EK.seq ty c nn).Nil := fun e => by
  have h1 : c.enc = [] := e.2
  rw [← c.enc_len, h1] at h; simp at h
theorem slO_sl {i z len : Nat} {nn : Bool} {x : Value} (h : EC γ (.slO i z len nn) x) (hn : nn = true ∨ 0 < len) : nn = true ∧ EC γ (.sl i z 0 len none) x := by
  cases h with
  | slO _ _ _ _ _ h =>
    cases nn with
    | false =>
      have := (h.1 rfl).2
      rcases hn with hn | hn
      · cases hn
      · omega
    | true =>
      obtain ⟨b, m, c, h1, rfl, h2, h3, h4⟩ := h.2 rfl
      exact ⟨rfl, .sl i z 0 len none b m c h1 h2 h3 (by omega) (fun k e => by cases e) (fun _ => by omega)⟩
theorem sl_slO {i z len : Nat} {x : Value} (h : EC γ (.sl i z 0 len none) x) : EC γ (.slO i z len true) x := by
  cases h with
  | sl _ _ _ _ _ b m c h hl hm hn hc hu => exact .slO i z len true _ ⟨(fun e => by cases e), fun _ => ⟨b, m, c, h, rfl, hl, hm, by have := hu rfl; omega⟩⟩
theorem slO_nil {i z len : Nat} {x : Value} (h : EC γ (.slO i z len false) x) : x = .slice none 0 0 ∧ len = 0 := by
  cases h with
  | slO _ _ _ _ _ h => exact h.1 rfl
/-! ### reading -/
noncomputable def ySeqLoad (P : Program) (T : Tr EV) (t : TypeId) (x : Operand) (H : Tr EK) : Option (Bool × EV) := match exVal T x with
  | some (.ptr i off) => match H.get i with
    | some (.seq _ c _) => match aggOf P t with
      | some none => some (c.cell off)
      | _ => none
    | _ => none
  | _ => none
theorem ySeqLoad_ok (hT : TOk γ T tmps) (hH : HR γ w0 H n w) {t : TypeId} {x : Operand} {p : Bool × EV} (ho : o.op = .load t x) (h : ySeqLoad P T t x H = some p) (hc : p.1 = true) : Gives P γ w0 w (execOp (opEval tmps) o) (some p.2) H n := by
  unfold ySeqLoad at h
  split at h
  case h_2 => cases h
  rename_i i off hx
  split at h
  case h_2 => cases h
  rename_i ty c nn hg
  split at h
  case h_2 => cases h
  rename_i hag
  injection h with h; subst h
  have hcell := SyC.cell_ok2 hc
  have hlen : 0 < c.len := by rw [← c.enc_len]; have := (List.getElem?_eq_some_iff.1 hcell).1; omega
  obtain ⟨b, m, hγ, _, ca, hb, hsz, hl, hcl⟩ := hH.hp i _ hg (notNil_of_len hlen)
  obtain ⟨b2, m2, hγ2, he⟩ := ec_ptr (exVal_ok hT hx)
  rw [hγ] at hγ2
  simp only [Option.some.injEq, Prod.mk.injEq] at hγ2
  obtain ⟨rfl, rfl⟩ := hγ2
  obtain ⟨y, hy, hcy⟩ := hcl.at hcell
  have hcw : w.cell? (b.at off) = some y := by
    rw [(cell_of hb).1, ← Array.getElem?_toList]
    rw [List.getElem?_take] at hy
    split at hy
    · rw [List.getElem?_drop] at hy; exact hy
    · cases hy
  have hs2 : execOp (opEval tmps) o = (do pure (Next.value (← Instr.loadAt t (.pointer (some (b.at off))))) : Sem Next) := by
    unfold execOp; rw [ho]; simp only [he]
  refine gives_value (x := y) ?_ hcy hH
  rw [hs2]
  refine run_v ?_
  simp [Instr.loadAt, Instr.sureAddr, loadVar, aggOf_one hag, load, Sem.run, hcw]
/-! ### writing -/
noncomputable def yStore (P : Program) (T : Tr EV) (t : TypeId) (x y : Operand) (H : Tr EK) (n : Nat) : Option YR := match exVal T x with
  | some (.ptr i off) => match H.get i with
    | some (.seq ty c nn) => match exVal T y with
      | some a => match Sx.sizeB P t with
        | some m => bc (Nat.beq m 1) (bc (Nat.ble i 65535) (match c.set off a with
          | some c' => some ⟨Nat.blt off c.len, ⟨none, H.put i (some (.seq ty c' nn)), n⟩⟩
          | none => none) none) none
        | none => none
      | none => none
    | _ => none
  | _ => none
theorem set_putAt {α : Type} {l : List α} {off : Nat} {a : α} (h : off < l.length) : Sx.putAt l off [a] = l.set off a := by
  apply List.ext_getElem?
  intro j
  rw [Sx.putAt_get (by simp; omega), List.getElem?_set]
  by_cases e : off = j
  · subst e; rw [if_pos (by simp), if_pos rfl, if_pos h]; simp
  · rw [if_neg (by simp; omega), if_neg e]
theorem yStore_ok (hT : TOk γ T tmps) (hH : HR γ w0 H n w) {t : TypeId} {x y : Operand} {r : YR} (ho : o.op = .store t x y) (h : yStore P T t x y H n = some r) (hc : r.c = true) : Gives P γ w0 w (execOp (opEval tmps) o) r.er.val r.er.H r.er.n := by
  unfold yStore at h
  split at h
  case h_2 => cases h
  rename_i i off hx
  split at h
  case h_2 => cases h
  rename_i ty c nn hg
  split at h
  case h_2 => cases h
  rename_i a hy
  split at h
  case h_2 => cases h
  rename_i m hm
  rw [bc_eq] at h
  split at h
  case isFalse => cases h
  rename_i hm1
  rw [bc_eq] at h
  split at h
  case isFalse => cases h
  rename_i hi
  split at h
  case h_2 => cases h
  rename_i c' hset
  injection h with h; subst h
  have hoff : off < c.len := blt_lt hc
  obtain ⟨he1, he2⟩ := SyC.set_enc hset
  have hm1 := Nat.eq_of_beq_eq_true hm1
  subst hm1
  have hnn := notNil_of_len (ty := ty) (nn := nn) (show 0 < c.len by omega)
  have h1 : HR γ w0 (H.put i (some (.cells ty c.enc false))) n w := hH.recast hi hg hnn fun b m => seq_cells
  have hput : exPut i off a.cells (H.put i (some (.cells ty c.enc false))) = some ((H.put i (some (.cells ty c.enc false))).put i (some (.cells ty (Sx.putAt c.enc off [a]) false))) := by
    have hgi : (H.put i (some (.cells ty c.enc false))).get i = some (.cells ty c.enc false) := by rw [Tr.get_put hi, if_pos rfl]
    have hca : cellsAt (H.put i (some (.cells ty c.enc false))) i = some (ty, c.enc, false) := by unfold cellsAt; rw [hgi]
    have h5 : a.one = true := by
      cases c with
      | ints k l =>
        have : (match intE k a with
          | some x => some (SyC.ints k (l.set off x))
          | none => none) = some c' := hset
        split at this
        · rename_i x hx; rw [intE_ok hx]; rfl
        · cases this
    have h6 : Nat.ble (Nat.add off (llen [a])) (llen c.enc) = true := by
      rw [llen_eq, llen_eq, c.enc_len]; exact Nat.ble_eq_true_of_le (show off + 1 ≤ c.len by omega)
    unfold exPut
    rw [hgi, he2]
    show exPutL i off [a] _ = _
    unfold exPutL
    rw [hca]
    simp only [bc_eq]
    rw [if_pos h6, if_pos (by rw [allOne_eq]; simp [h5]), if_pos hi]
  have hst : exStore P T t x y (H.put i (some (.cells ty c.enc false))) n = some ⟨none, (H.put i (some (.cells ty c.enc false))).put i (some (.cells ty (Sx.putAt c.enc off [a]) false)), n⟩ := by
    unfold exStore
    rw [hx, hy, hm]
    simp only [bc_eq]
    rw [if_pos (by rw [he2]; rfl), hput]
  obtain ⟨γ', w', hle, hH2, hv⟩ := exStore_ok hT h1 ho hst
  refine ⟨γ', w', hle, ?_, hv⟩
  have h7 : HR γ' w0 (((H.put i (some (.cells ty c.enc false))).put i (some (.cells ty (Sx.putAt c.enc off [a]) false))).put i (some (.seq ty c' nn))) n w' :=
    hH2.recast hi (by rw [Tr.get_put hi, if_pos rfl]) id fun b m => cells_seq (by rw [set_putAt (by rw [c.enc_len]; exact hoff)]; exact he1.symm)
  refine h7.congr fun j k hj => ?_
  rw [Tr.get_put hi] at hj ⊢
  split at hj
  · rename_i e; rw [if_pos e]; exact hj
  · rename_i e; rw [if_neg e, Tr.get_put hi, if_neg e, Tr.get_put hi, if_neg e]; exact hj
/-! ### lengthening -/
noncomputable def yApp (P : Program) (t : TypeId) (s x : EV) (H : Tr EK) (n : Nat) : Option YR := match s with
  | .slO i z len nn => match H.get i with
    | some (.seq ty c nn') => match elemInfo P t with
      | some ei => match newsOf H ei.z x with
        | some (m, news) => match c.app news with
          | some c' => bc (Nat.beq z ei.z) (bc (Nat.beq z 1) (bc (Nat.beq ty ei.e) (bc (Nat.blt 0 m) (bc (Nat.beq (llen news) m) (bc (Nat.ble i 65535) (bc (Nat.ble n 65535) (bc (allOne news)
              (some ⟨bc (Nat.beq len c.len) (bc (Nat.ble (len + m) 65536) (bc nn' true (bc nn false true)) false) false, ⟨some (.slO n z (len + m) true), (H.put i none).put n (some (.seq ty c' true)), Nat.succ n⟩⟩) none) none) none) none) none) none) none) none
          | none => none
        | none => none
      | none => none
    | _ => none
  | _ => none
theorem yAppN_ok (hT : TOk γ T tmps) (hH : HR γ w0 H n w) {t ty : TypeId} {ei : EI} (hei : elemInfo P t = some ei) {i z len : Nat} {nn nn' : Bool} {vs : Value} {c c' : SyC} {m : Nat} {news : List EV} (hs : EC γ (.slO i z len nn) vs) (hg : H.get i = some (.seq ei.e c nn')) (h1' : z = ei.z) (hz1' : z = 1) (h3' : 0 < m) (h5 : Nat.ble i 65535 = true) (h6 : Nat.ble n 65535 = true) (h7 : allOne news = true) (hlen' : len = c.len) (hroom : len + m ≤ 65536) (hnn : nn' = true ∨ nn = false) (happ' : c'.enc = c.enc ++ news)
    {a : Addr} {ca : Nat} {ns : List Value} (hcn : ECL γ news ns) (hnl : ns.length = m * ei.z) (hnc : ∀ j u, ns[j]? = some u → w.cell? (a.add j) = some u) :
    ∃ γ' w' v', GLe γ γ' ∧ HR γ' w0 ((H.put i none).put n (some (.seq ei.e c' true))) (Nat.succ n) w' ∧ (Builtin.append_ #[t, t] ty #[vs, .slice (some a) m ca]).run P w = .ok v' w' ∧ EC γ' (.slO n z (len + m) true) v' := by
  cases nn with
  | false =>
    obtain ⟨rfl, hl0⟩ := slO_nil hs
    have hc0 : c.enc = [] := List.eq_nil_of_length_eq_zero (by rw [c.enc_len]; omega)
    have hap : exAppendN ei (.v (.slice none 0 0)) m news H n = some ⟨some (.sl n ei.z 0 (0 + m) none), H.put n (some (.cells ei.e ([] ++ news) false)), Nat.succ n⟩ := by
      unfold exAppendN exGrow
      simp only [bc_eq, show Nat.blt 0 m = true by (unfold Nat.blt; exact Nat.ble_eq_true_of_le h3'), Nat.beq_refl, h6, h7]
      have : Nat.ble (Nat.add 0 m) 65536 = true := Nat.ble_eq_true_of_le (show 0 + m ≤ 65536 by omega)
      simp only [this]
      rfl
    obtain ⟨γ', w', v', q1, q2, q3, a, q4, q5⟩ := exAppendN_ok (ty := ty) (c := ca) hT hH hei (.v (γ := γ) (.slice none 0 0)) hcn hnl hnc hap
    refine ⟨γ', w', v', q1, ?_, q3, ?_⟩
    · have hgn : (H.put n (some (EK.cells ei.e ([] ++ news) false))).get n = some (.cells ei.e ([] ++ news) false) := by rw [Tr.get_put h6, if_pos rfl]
      have := q2.recast h6 (k := .seq ei.e c' true) hgn id fun b m => cells_seq (by rw [happ', hc0])
      refine this.congr fun j k hj => ?_
      rw [Tr.get_put h6] at hj ⊢
      split at hj
      · rename_i e; rw [if_pos e]; exact hj
      · rename_i e
        rw [if_neg e, Tr.get_put h6, if_neg e]
        rw [Tr.get_put h5] at hj
        split at hj
        · cases hj
        · exact hj
    · injection q4 with q4; subst q4
      have e : len + m = 0 + m := by omega
      rw [e, h1']
      exact sl_slO q5
  | true =>
    have hnn' : nn' = true := by
      rcases hnn with h | h
      · exact h
      · cases h
    subst hnn'
    have hnil : ¬ (EK.seq ei.e c true).Nil := fun e => by cases e.1
    have hR1 : HR γ w0 (H.put i (some (.cells ei.e c.enc false))) n w := hH.recast h5 hg hnil fun b m => seq_cells
    obtain ⟨_, hsl⟩ := slO_sl hs (.inl rfl)
    have hgi : (H.put i (some (EK.cells ei.e c.enc false))).get i = some (.cells ei.e c.enc false) := by rw [Tr.get_put h5, if_pos rfl]
    have hca : cellsAt (H.put i (some (.cells ei.e c.enc false))) i = some (ei.e, c.enc, false) := by unfold cellsAt; rw [hgi]
    have hlz : c.enc.length = len := by rw [c.enc_len, hlen']
    have hap : exAppendN ei (.sl i z 0 len none) m news (H.put i (some (.cells ei.e c.enc false))) n = some ⟨some (.sl n ei.z 0 (len + m) none), ((H.put i (some (.cells ei.e c.enc false))).put i none).put n (some (.cells ei.e (((c.enc.drop 0).take (Nat.mul len ei.z)) ++ news) false)), Nat.succ n⟩ := by
      unfold exAppendN
      rw [h1'] at hz1' ⊢
      simp only [bc_eq, Nat.beq_refl, hca]
      have e3 : Nat.ble (Nat.add 0 (Nat.mul len ei.z)) (llen c.enc) = true := by
        rw [llen_eq, hlz, hz1']
        exact Nat.ble_eq_true_of_le (show 0 + len * 1 ≤ len by omega)
      have hroom2 : Nat.ble (Nat.add len m) 65536 = true := Nat.ble_eq_true_of_le hroom
      simp only [e3, h5]
      unfold exGrow
      simp only [bc_eq, h6, h7, hroom2, if_true]
      rfl
    obtain ⟨γ', w', v', q1, q2, q3, a, q4, q5⟩ := exAppendN_ok (ty := ty) (c := ca) hT hR1 hei hsl hcn hnl hnc hap
    refine ⟨γ', w', v', q1, ?_, q3, ?_⟩
    · have hgn : (((H.put i (some (.cells ei.e c.enc false))).put i none).put n (some (.cells ei.e (((c.enc.drop 0).take (Nat.mul len ei.z)) ++ news) false))).get n = some (.cells ei.e (((c.enc.drop 0).take (Nat.mul len ei.z)) ++ news) false) := by rw [Tr.get_put h6, if_pos rfl]
      have := q2.recast h6 (k := .seq ei.e c' true) hgn id fun b m => by
        refine cells_seq ?_
        rw [happ', List.drop_zero]
        congr 1
        refine List.take_of_length_le ?_
        rw [hlz]
        rw [h1'] at hz1'
        rw [hz1']
        show len ≤ len * 1
        omega
      refine this.congr fun j k hj => ?_
      rw [Tr.get_put h6] at hj ⊢
      split at hj
      · rename_i e; rw [if_pos e]; exact hj
      · rename_i e
        rw [if_neg e, Tr.get_put h6, if_neg e, Tr.get_put h5]
        rw [Tr.get_put h5] at hj
        split at hj
        · cases hj
        · rename_i e2; rw [if_neg e2, Tr.get_put h5, if_neg e2]; exact hj
    · injection q4 with q4; subst q4
      rw [h1']
      exact sl_slO q5
theorem yApp_ok (hT : TOk γ T tmps) (hH : HR γ w0 H n w) {t ty : TypeId} {s x : EV} {vs vx : Value} {r : YR} (hs : EC γ s vs) (hx : EC γ x vx) (h : yApp P t s x H n = some r) (hc : r.c = true) :
    ∃ γ' w' v', GLe γ γ' ∧ HR γ' w0 r.er.H r.er.n w' ∧ (Builtin.append_ #[t, t] ty #[vs, vx]).run P w = .ok v' w' ∧ ∃ a, r.er.val = some a ∧ EC γ' a v' := by
  unfold yApp at h
  split at h
  case h_2 => cases h
  rename_i i z len nn
  split at h
  case h_2 => cases h
  rename_i ty' c nn' hg
  split at h
  case h_2 => cases h
  rename_i ei hei
  split at h
  case h_2 => cases h
  rename_i m news hnw
  split at h
  case h_2 => cases h
  rename_i c' happ
  rw [bc_eq] at h
  split at h
  case isFalse => cases h
  rename_i h1
  rw [bc_eq] at h
  split at h
  case isFalse => cases h
  rename_i hz1
  rw [bc_eq] at h
  split at h
  case isFalse => cases h
  rename_i h2
  rw [bc_eq] at h
  split at h
  case isFalse => cases h
  rename_i h3
  rw [bc_eq] at h
  split at h
  case isFalse => cases h
  rename_i h4
  rw [bc_eq] at h
  split at h
  case isFalse => cases h
  rename_i h5
  rw [bc_eq] at h
  split at h
  case isFalse => cases h
  rename_i h6
  rw [bc_eq] at h
  split at h
  case isFalse => cases h
  rename_i h7
  injection h with h; subst h
  have hc : bc (Nat.beq len c.len) (bc (Nat.ble (len + m) 65536) (bc nn' true (bc nn false true)) false) false = true := hc
  rw [bc_eq] at hc
  split at hc
  case isFalse => cases hc
  rename_i hlen
  rw [bc_eq] at hc
  split at hc
  case isFalse => cases hc
  rename_i hroom
  have h1' := Nat.eq_of_beq_eq_true h1
  have hz1' := Nat.eq_of_beq_eq_true hz1
  have h2' := Nat.eq_of_beq_eq_true h2
  have h3' := blt_lt h3
  have h4' := Nat.eq_of_beq_eq_true h4
  have hlen' := Nat.eq_of_beq_eq_true hlen
  rw [llen_eq] at h4'
  have happ' := SyC.app_enc happ
  obtain ⟨a, ca, ns, rfl, hcn, hnl, hnc⟩ := newsOf_ok hH hx hnw
  have hnn : nn' = true ∨ nn = false := by
    cases nn with
    | false => exact .inr rfl
    | true =>
      cases nn' with
      | true => exact .inl rfl
      | false => exact absurd (show false = true from hc) (by simp)
  subst h2'
  obtain ⟨γ', w', v', q1, q2, q3, q4⟩ := yAppN_ok (ty := ty) (ca := ca) hT hH hei hs hg h1' hz1' h3' h5 h6 h7 hlen' (Nat.le_of_ble_eq_true hroom) hnn happ' hcn hnl hnc
  exact ⟨γ', w', v', q1, q2, q3, _, rfl, q4⟩
end Go.Proofs.Ytfmofpdbhkoopaa.Ev
namespace Go.Proofs.Ytfmofpdbhkoopaa.Ev
open Go.RowKit
variable {P : Program} {γ γ' : G} {w0 : Bs} {w : World} {H H' : Tr EK} {n n' : Nat} {T : Tr EV} {cs : List Frame} {fid : FuncId} {FT : Tr FI} {tmps : Array Value} {o : Oper}

/-! ### cut -/
noncomputable def yCut (P : Program) (T : Tr EV) (t : TypeId) (x : Operand) (lo hi mx : Option Operand) (H : Tr EK) (n : Nat) : Option YR := match mx with
  | some _ => none
  | none => match lo with
    | some _ => none
    | none => match hi with
      | none => none
      | some y => match exVal T x with
        | some (.slO i z len nn) => match H.get i with
          | some (.seq ty c nn') => match intOf (exVal T y) with
            | some k => match Sx.slZ P t with
              | some z' => bc (Nat.beq z z') (bc (Nat.ble i 65535) (some ⟨bc (decide (0 ≤ k)) (bc (Nat.ble k.toNat len) (Nat.beq len c.len) false) false, ⟨some (.slO i z k.toNat nn), H.put i (some (.seq ty (c.take k.toNat) nn')), n⟩⟩) none) none
              | none => none
            | none => none
          | _ => none
        | _ => none
theorem HR.recastSeq (h : HR γ w0 H n w) {i : Nat} (hi : Nat.ble i 65535 = true) {ty : TypeId} {c c' : SyC} {nn : Bool} (hg : H.get i = some (.seq ty c nn)) (hk : ∃ k, c'.enc = c.enc.take k) : HR γ w0 (H.put i (some (.seq ty c' nn))) n w := by
  obtain ⟨k, hk⟩ := hk
  by_cases hn : (EK.seq ty c nn).Nil
  · obtain ⟨h1, h2⟩ := hn
    subst h1
    exact h.nilSeq hi (by rw [hk, h2]; simp)
  · refine h.recast hi hg hn fun b m ho => ?_
    obtain ⟨ca, h1, h2, h3, h4⟩ := ho
    refine ⟨ca, h1, h2, ?_, ?_⟩
    · rw [hk, List.length_take]; omega
    · rw [hk]
      have := h4.take k
      rw [List.take_take] at this
      rw [List.length_take]
      exact this
theorem yCut_ok (hT : TOk γ T tmps) (hH : HR γ w0 H n w) {t : TypeId} {x : Operand} {lo hi mx : Option Operand} {r : YR} (ho : o.op = .slice t x lo hi mx) (h : yCut P T t x lo hi mx H n = some r) (hc : r.c = true) : Gives P γ w0 w (execOp (opEval tmps) o) r.er.val r.er.H r.er.n := by
  unfold yCut at h
  split at h
  · cases h
  split at h
  · cases h
  split at h
  · cases h
  rename_i y
  split at h
  case h_2 => cases h
  rename_i i z len nn hx
  split at h
  case h_2 => cases h
  rename_i ty c nn' hg
  split at h
  case h_2 => cases h
  rename_i k hy
  split at h
  case h_2 => cases h
  rename_i z' hz
  rw [bc_eq] at h
  split at h
  case isFalse => cases h
  rename_i hzz
  rw [bc_eq] at h
  split at h
  case isFalse => cases h
  rename_i hi
  injection h with h; subst h
  have hc : bc (decide (0 ≤ k)) (bc (Nat.ble k.toNat len) (Nat.beq len c.len) false) false = true := hc
  rw [bc_eq] at hc
  split at hc
  case isFalse => cases hc
  rename_i h1
  rw [bc_eq] at hc
  split at hc
  case isFalse => cases hc
  rename_i h2
  have h1 := of_decide_eq_true h1
  have h2 := Nat.le_of_ble_eq_true h2
  have h3 := Nat.eq_of_beq_eq_true hc
  have hzz := Nat.eq_of_beq_eq_true hzz
  subst hzz
  obtain ⟨κ, hky⟩ := intOf_ok hT hy
  obtain ⟨q, rfl⟩ := Int.eq_ofNat_of_zero_le h1
  have hq : (Int.toNat (q : Int)) = q := Int.toNat_natCast q
  rw [hq] at h2
  show Gives P γ w0 w _ (some (.slO i z (Int.toNat (q : Int)) nn)) (H.put i (some (.seq ty (c.take (Int.toNat (q : Int))) nn'))) n
  rw [hq]
  clear hc
  obtain ⟨e, inf, hu, hinf, hsz⟩ := Sx.slZ_spec hz
  have hs := exVal_ok hT hx
  have hex : ∀ s : Value, opEval tmps x = s → execOp (opEval tmps) o = (do pure (Next.value (← Instr.sliceAt t s none (some (.int κ (q : Int))) none)) : Sem Next) := fun s hs => by
    unfold execOp; rw [ho]; simp only [hs]
    rw [← hky]; rfl
  have hb : ∀ cap : Nat, q ≤ cap → (Instr.sliceBounds true len cap none (some (.int κ (q : Int))) none).run P w = .ok (0, q, cap) w := fun cap hcap => by
    unfold Instr.sliceBounds
    simp [Instr.sliceBound, asIntOf, hcap]
  have hH2 : HR γ w0 (H.put i (some (.seq ty (c.take q) nn'))) n w := hH.recastSeq hi hg ⟨_, SyC.take_enc _ _⟩
  generalize hxx : opEval tmps x = xx at hs
  cases hs with
  | slO _ _ _ _ _ hs =>
    cases nn with
    | false =>
      obtain ⟨rfl, hl⟩ := hs.1 rfl
      subst hl
      have hk0 : q = 0 := by omega
      refine gives_value (x := .slice none 0 0) ?_ (by rw [hk0]; exact .slO i z 0 false _ ⟨fun _ => ⟨rfl, rfl⟩, fun e => by cases e⟩) hH2
      rw [hex _ hxx]
      refine run_v ?_
      have hb := hb 0 (by omega)
      subst hk0
      rw [show ((0 : Nat) : Int) = 0 from rfl] at hb ⊢
      simp [Instr.sliceAt, Instr.slice, run_underlying hu, hb, sizeOf, typeInfo, hinf, hsz]
    | true =>
      obtain ⟨b, m, cp, hγ, rfl, hlc, hcm, hcz⟩ := hs.2 rfl
      have hkc : q ≤ cp := by omega
      refine gives_value (x := .slice (some (b.at 0)) q cp) ?_ (.slO i z q true _ ⟨(fun e => by cases e), fun _ => ⟨b, m, cp, hγ, rfl, hkc, hcm, hcz⟩⟩) hH2
      rw [hex _ hxx]
      refine run_v ?_
      have hb := hb cp hkc
      simp [Instr.sliceAt, Instr.slice, run_underlying hu, hb, sizeOf, typeInfo, hinf, hsz, Pl.at_add]
/-! ### made -/
noncomputable def zeroInt (zs : List Value) : Option IntKind := match zs with
  | [.int k x] => bc (decide (x = 0)) (some k) none
  | _ => none
theorem zeroInt_ok {zs : List Value} {k : IntKind} (h : zeroInt zs = some k) : zs = [.int k 0] := by
  unfold zeroInt at h
  split at h
  case h_2 => cases h
  rw [bc_eq] at h
  split at h
  case isFalse => cases h
  rename_i hx
  injection h with h; subst h
  rw [of_decide_eq_true hx]
/-- so many zeros -/
noncomputable def zerosL (l : Nat) : List Int := List.replicate l 0
theorem zeros_enc (k : IntKind) (m l : Nat) (h : l ≤ m) : (SyC.ints k (zerosL l)).enc = (zeroCellsE [.int k 0] m).take l := by
  show (List.replicate l (0 : Int)).map _ = _
  rw [List.map_replicate]
  unfold zeroCellsE
  apply List.ext_getElem?
  intro j
  rw [List.getElem?_take, List.getElem?_map, List.getElem?_replicate]
  by_cases hj : j < l
  · rw [if_pos hj, if_pos hj, List.getElem?_range (by omega)]
    simp [Nat.mod_one]
  · rw [if_neg hj, if_neg hj]
theorem HR.seqOf {ty : TypeId} {cs : List EV} {full : Bool} (h : HR γ w0 (H.put n (some (EK.cells ty cs full))) n' w) (hn : Nat.ble n 65535 = true) {c : SyC} {nn : Bool} {l : Nat} (hc : c.enc = cs.take l) : HR γ w0 (H.put n (some (.seq ty c nn))) n' w := by
  have hg : (H.put n (some (EK.cells ty cs full))).get n = some (.cells ty cs full) := by rw [Tr.get_put hn, if_pos rfl]
  have := h.recast hn (k := .seq ty c nn) hg id fun b m ho => by
    obtain ⟨ca, h1, h2, h3, _, h4⟩ := ho
    refine ⟨ca, h1, h2, by rw [hc, List.length_take]; omega, ?_⟩
    rw [hc]
    have := h4.take l
    rw [List.take_take] at this
    rw [List.length_take]
    exact this
  refine this.congr fun j k hj => ?_
  rw [Tr.get_put hn] at hj ⊢
  split at hj
  · rename_i e; rw [if_pos e]; exact hj
  · rename_i e; rw [if_neg e, Tr.get_put hn, if_neg e]; exact hj
noncomputable def yMake (P : Program) (T : Tr EV) (t : TypeId) (len cap : Operand) (H : Tr EK) (n : Nat) : Option YR := match elemInfo P t with
  | some ei => match Sx.zeroL P ei.e with
    | some zs => match zeroInt zs with
      | some k => match intOf (exVal T len) with
        | some l => match intOf (exVal T cap) with
          | some c => bc (Nat.beq ei.z 1) (bc (Nat.ble n 65535) (some ⟨bc (decide (0 ≤ l)) (bc (decide (l ≤ c)) (decide (c ≤ 65536)) false) false, ⟨some (.slO n 1 l.toNat true), H.put n (some (.seq ei.e (.ints k (zerosL l.toNat)) true)), Nat.succ n⟩⟩) none) none
          | none => none
        | none => none
      | none => none
    | none => none
  | none => none
theorem yMake_ok (hT : TOk γ T tmps) (hH : HR γ w0 H n w) {t : TypeId} {len cap : Operand} {r : YR} (ho : o.op = .makeSlice t len cap) (h : yMake P T t len cap H n = some r) (hc : r.c = true) : Gives P γ w0 w (execOp (opEval tmps) o) r.er.val r.er.H r.er.n := by
  unfold yMake at h
  split at h
  case h_2 => cases h
  rename_i ei hei
  split at h
  case h_2 => cases h
  rename_i zs hzs
  split at h
  case h_2 => cases h
  rename_i k hk
  split at h
  case h_2 => cases h
  rename_i l hl
  split at h
  case h_2 => cases h
  rename_i c hcp
  rw [bc_eq] at h
  split at h
  case isFalse => cases h
  rename_i hz1
  rw [bc_eq] at h
  split at h
  case isFalse => cases h
  rename_i hnb
  injection h with h; subst h
  have hc : bc (decide (0 ≤ l)) (bc (decide (l ≤ c)) (decide (c ≤ 65536)) false) false = true := hc
  rw [bc_eq] at hc
  split at hc
  case isFalse => cases hc
  rename_i h1
  rw [bc_eq] at hc
  split at hc
  case isFalse => cases hc
  rename_i h2
  have h1 := of_decide_eq_true h1
  have h2 := of_decide_eq_true h2
  have h3 := of_decide_eq_true hc
  have hz1 := Nat.eq_of_beq_eq_true hz1
  have hzs' := zeroInt_ok hk
  subst hzs'
  obtain ⟨l, rfl⟩ := Int.eq_ofNat_of_zero_le h1
  obtain ⟨c, rfl⟩ := Int.eq_ofNat_of_zero_le (show 0 ≤ c by omega)
  have hm : exMake P T t len cap H n = some ⟨some (.sl n ei.z 0 l (some c)), H.put n (some (.cells ei.e (zeroCellsE [.int k 0] (Nat.mul c ei.z)) true)), Nat.succ n⟩ := by
    unfold exMake
    rw [hei]; simp only [hzs, hl, hcp]
    show (match natOf (Int.ofNat l) with
      | some l => match natOf (Int.ofNat c) with
        | some c => _
        | none => none
      | none => none) = _
    show bc _ (bc _ (bc _ (bc _ _ _) _) _) _ = _
    simp only [bc_eq]
    rw [if_pos (Nat.ble_eq_true_of_le (show l ≤ c by omega)), if_pos (Nat.ble_eq_true_of_le (show c ≤ 65536 by omega)), if_pos (Nat.ble_eq_true_of_le (show Nat.mul c ei.z ≤ 65536 by rw [hz1]; show c * 1 ≤ _; omega)), if_pos hnb]
  obtain ⟨γ', w', hle, hH2, x, hx, hcx⟩ := exMake_ok hT hH ho hm
  have hg : (H.put n (some (EK.cells ei.e (zeroCellsE [.int k 0] (Nat.mul c ei.z)) true))).get n = some (.cells ei.e (zeroCellsE [.int k 0] (Nat.mul c ei.z)) true) := by rw [Tr.get_put hnb, if_pos rfl]
  obtain ⟨b, m, e1, _, ca, _, _, _, e3, _⟩ := hH2.hp n _ hg
  have e3 := e3 rfl
  have e4 : (zeroCellsE [.int k 0] (Nat.mul c ei.z)).length = c := by unfold zeroCellsE; rw [List.length_map, List.length_range, hz1]; exact Nat.mul_one c
  refine ⟨γ', w', hle, hH2.seqOf hnb (zeros_enc k (Nat.mul c ei.z) l (by rw [hz1]; show l ≤ c * 1; omega)), x, hx, ?_⟩
  show EC γ' (.slO n 1 l true) x
  cases hcx with
  | sl _ _ _ _ _ b2 m2 c2 q1 q2 q3 q4 q5 q6 =>
    rw [e1] at q1
    simp only [Option.some.injEq, Prod.mk.injEq] at q1
    obtain ⟨rfl, rfl⟩ := q1
    have := q5 _ rfl
    subst this
    exact .slO n 1 l true _ ⟨(fun e => by cases e), fun _ => ⟨b, m, c2, e1, rfl, q2, q3, by omega⟩⟩
/-- `[]int{}` -/
noncomputable def yEmpty (P : Program) (t : TypeId) (len : Nat) (parts : Array (Nat × Operand)) (H : Tr EK) (n : Nat) : Option YR := match exBS0 P t len parts H n with
  | some er => match elemInfo P t with
    | some ei => match Sx.zeroL P ei.e with
      | some zs => match zeroInt zs with
        | some k => bc (Nat.beq ei.z 1) (bc (Nat.ble n 65535) (some ⟨true, ⟨some (.slO n 1 0 true), H.put n (some (.seq ei.e (.ints k []) true)), Nat.succ n⟩⟩) none) none
        | none => none
      | none => none
    | none => none
  | none => none
theorem yEmpty_ok (hH : HR γ w0 H n w) {t : TypeId} {len : Nat} {parts : Array (Nat × Operand)} {r : YR} (ho : o.op = .buildSlice t len parts) (h : yEmpty P t len parts H n = some r) : Gives P γ w0 w (execOp (opEval tmps) o) r.er.val r.er.H r.er.n := by
  unfold yEmpty at h
  split at h
  case h_2 => cases h
  rename_i er her
  split at h
  case h_2 => cases h
  rename_i ei hei
  split at h
  case h_2 => cases h
  rename_i zs hzs
  split at h
  case h_2 => cases h
  rename_i k hk
  rw [bc_eq] at h
  split at h
  case isFalse => cases h
  rename_i hz1
  rw [bc_eq] at h
  split at h
  case isFalse => cases h
  rename_i hnb
  injection h with h; subst h
  have hz1 := Nat.eq_of_beq_eq_true hz1
  have hg := exBS0_ok (tmps := tmps) hH ho her
  unfold exBS0 at her
  split at her
  case h_2 => cases her
  split at her
  case h_2 => cases her
  split at her
  case h_2 => cases her
  rename_i ei2 hei2
  rw [hei] at hei2; injection hei2 with hei2; subst hei2
  rw [bc_eq, if_pos hnb] at her
  injection her with her; subst her
  obtain ⟨γ', w', hle, hH2, x, hx, hcx⟩ := hg
  have hgn : (H.put n (some (EK.cells ei.e [] true))).get n = some (.cells ei.e [] true) := by rw [Tr.get_put hnb, if_pos rfl]
  obtain ⟨b, m, e1, _, ca, _, _, _, e3, _⟩ := hH2.hp n _ hgn
  have e3 := e3 rfl
  refine ⟨γ', w', hle, hH2.seqOf (c := .ints k []) hnb (l := 0) rfl, x, hx, ?_⟩
  show EC γ' (.slO n 1 0 true) x
  cases hcx with
  | sl _ _ _ _ _ b2 m2 c2 q1 q2 q3 q4 q5 q6 =>
    rw [e1] at q1
    simp only [Option.some.injEq, Prod.mk.injEq] at q1
    obtain ⟨rfl, rfl⟩ := q1
    have := q5 _ rfl
    subst this
    exact .slO n 1 0 true _ ⟨(fun e => by cases e), fun _ => ⟨b, m, 0, e1, rfl, q2, q3, by simp at e3; omega⟩⟩
/-! ### joined -/
noncomputable def SyC.appS (c d : SyC) : Option SyC := match c with
  | .ints k l => match d with
    | .ints q m => bc (decide (k = q)) (some (.ints k (l ++ m))) none
theorem SyC.appS_enc {c d e : SyC} (h : c.appS d = some e) : e.enc = c.enc ++ d.enc := by
  cases c with
  | ints k l => cases d with
    | ints q m =>
      have h' : bc (decide (k = q)) (some (SyC.ints k (l ++ m))) none = some e := h
      rw [bc_eq] at h'
      split at h'
      case isFalse => cases h'
      rename_i hk
      have hk := of_decide_eq_true hk
      subst hk
      injection h' with h'; subst h'
      show (l ++ m).map _ = l.map _ ++ m.map _
      rw [List.map_append]
theorem SyC.enc_one (c : SyC) : allOne c.enc = true := by
  rw [allOne_eq]
  cases c with
  | ints k l =>
    show (l.map _).all _ = true
    rw [List.all_eq_true]
    intro a ha
    obtain ⟨x, _, rfl⟩ := List.mem_map.1 ha
    rfl
/-- where a sequence is read from -/
noncomputable def srcOf (RO : Tr (TypeId × SyC)) (H : Tr EK) (j : Nat) : Option SyC := match RO.get j with
  | some (_, c) => some c
  | none => match H.get j with
    | some (.seq _ c _) => some c
    | _ => none
theorem srcOf_ok {RO : Tr (TypeId × SyC)} (hR : ROk γ w0 RO) (hH : HR γ w0 H n w) {j : Nat} {c : SyC} (h : srcOf RO H j = some c) (hn : 0 < c.len) : ∃ (b : Pl) (m : Nat) (ns : List Value), γ j = some (b, m) ∧ ECL γ c.enc ns ∧ ns.length = c.len ∧ ∀ q u, ns[q]? = some u → w.cell? (b.at q) = some u := by
  have key : ∀ (b : Pl) (m : Nat) (ca : Array Value) (ty : TypeId) (fz : Nat × Nat), γ j = some (b, m) → w.heap[b.k]? = some (.cells ca ty fz) → ECL γ c.enc ((ca.toList.drop b.s).take c.enc.length) → ∃ (b : Pl) (m : Nat) (ns : List Value), γ j = some (b, m) ∧ ECL γ c.enc ns ∧ ns.length = c.len ∧ ∀ q u, ns[q]? = some u → w.cell? (b.at q) = some u := fun b m ca ty fz h1 h2 h3 => by
    refine ⟨b, m, _, h1, h3, by rw [← h3.1, c.enc_len], fun q u hu => ?_⟩
    rw [List.getElem?_take] at hu
    split at hu
    case isFalse => cases hu
    rw [List.getElem?_drop] at hu
    have : ca[b.s + q]? = some u := by simpa using hu
    simp [World.cell?, Pl.at, h2, this]
  have hne : c.enc ≠ [] := fun e => by rw [← c.enc_len, e] at hn; simp at hn
  unfold srcOf at h
  split at h
  · rename_i ty c' hg
    injection h with h; subst h
    rcases hR j ty c' hg with e | ⟨b, m, ca, fz, e1, e2, ⟨ty', e3⟩, e4, e5, e6⟩
    · exact absurd e hne
    · exact key b m ca ty' fz e1 ((hH.stays.block _ e2).trans e3) e6
  · split at h
    · rename_i ty c' nn hg
      injection h with h; subst h
      obtain ⟨b, m, e1, _, ca, ⟨fz, e2, _⟩, e3, e4, e5⟩ := hH.hp j _ hg (fun e => hne e.2)
      exact key b m ca ty fz e1 e2 e5
    · cases h
noncomputable def yAppAll (P : Program) (t : TypeId) (s x : EV) (RO : Tr (TypeId × SyC)) (H : Tr EK) (n : Nat) : Option YR := match s with
  | .slO i z len nn => match x with
    | .slO j z2 len2 nn2 => match H.get i with
      | some (.seq ty c nn') => match srcOf RO H j with
        | some d => match elemInfo P t with
          | some ei => match c.appS d with
            | some c' => bc (Nat.beq z ei.z) (bc (Nat.beq z 1) (bc (Nat.beq ty ei.e) (bc (Nat.ble i 65535) (bc (Nat.ble n 65535)
                (some ⟨bc (Nat.beq len c.len) (bc (Nat.beq len2 d.len) (bc (Nat.ble (len + len2) 65536) (bc nn' true (bc nn false true)) false) false) false, ⟨some (.slO n z (len + len2) (bc nn true (Nat.blt 0 len2))), (H.put i none).put n (some (.seq ty c' (bc nn true (Nat.blt 0 len2)))), Nat.succ n⟩⟩) none) none) none) none) none
            | none => none
          | none => none
        | none => none
      | _ => none
    | _ => none
  | _ => none
theorem HR.more (h : HR γ w0 H n w) : HR γ w0 H (Nat.succ n) w := ⟨h.hp0, h.inj0, fun i hi => h.fresh i (by omega), fun i hi => ⟨(h.rsv i hi).1, by have := (h.rsv i hi).2; omega⟩, h.lt, h.stays⟩
theorem HR.drop (h : HR γ w0 H n w) {i : Nat} (h5 : Nat.ble i 65535 = true) : HR γ w0 (H.put i none) n w := h.congr fun j k hj => by
  rw [Tr.get_put h5] at hj
  split at hj
  · cases hj
  · exact hj
theorem append_none {t ty e : TypeId} (hu : P.underlying t = some (.slice e)) {inf : TypeInfo} (hi : P.info? e = some inf) {base : Option Addr} {len cap : Nat} {vx : Value} (hl : len ≤ cap) (hx : vx = .slice none 0 0 ∨ ∃ a c, vx = .slice (some a) 0 c) : (Builtin.append_ #[t, t] ty #[.slice base len cap, vx]).run P w = .ok (.slice base len cap) w := by
  rcases hx with rfl | ⟨a, c, rfl⟩
  · cases base with
    | none => simp [Builtin.append_, run_underlying hu, sizeOf, typeInfo, hi, Builtin.lenOf, Builtin.firstCells, hl]
    | some b => simp [Builtin.append_, run_underlying hu, sizeOf, typeInfo, hi, Builtin.lenOf, Builtin.firstCells, hl, storeCells]
  · have hf := run_firstCells_some (P := P) w inf.size 0 a 0 c [] (by simp) (by simp)
    cases base with
    | none => simp [Builtin.append_, run_underlying hu, sizeOf, typeInfo, hi, Builtin.lenOf, hf, hl]
    | some b => simp [Builtin.append_, run_underlying hu, sizeOf, typeInfo, hi, Builtin.lenOf, hf, hl, storeCells]
theorem yAppAll_ok {RO : Tr (TypeId × SyC)} (hR : ROk γ w0 RO) (hT : TOk γ T tmps) (hH : HR γ w0 H n w) {t ty : TypeId} {s x : EV} {vs vx : Value} {r : YR} (hs : EC γ s vs) (hx : EC γ x vx) (h : yAppAll P t s x RO H n = some r) (hc : r.c = true) :
    ∃ γ' w' v', GLe γ γ' ∧ HR γ' w0 r.er.H r.er.n w' ∧ (Builtin.append_ #[t, t] ty #[vs, vx]).run P w = .ok v' w' ∧ ∃ a, r.er.val = some a ∧ EC γ' a v' := by
  unfold yAppAll at h
  split at h
  case h_2 => cases h
  rename_i i z len nn
  split at h
  case h_2 => cases h
  rename_i j z2 len2 nn2
  split at h
  case h_2 => cases h
  rename_i ty' c nn' hg
  split at h
  case h_2 => cases h
  rename_i d hd
  split at h
  case h_2 => cases h
  rename_i ei hei
  split at h
  case h_2 => cases h
  rename_i c' happ
  rw [bc_eq] at h
  split at h
  case isFalse => cases h
  rename_i h1
  rw [bc_eq] at h
  split at h
  case isFalse => cases h
  rename_i hz1
  rw [bc_eq] at h
  split at h
  case isFalse => cases h
  rename_i h2
  rw [bc_eq] at h
  split at h
  case isFalse => cases h
  rename_i h5
  rw [bc_eq] at h
  split at h
  case isFalse => cases h
  rename_i h6
  injection h with h; subst h
  have hc : bc (Nat.beq len c.len) (bc (Nat.beq len2 d.len) (bc (Nat.ble (len + len2) 65536) (bc nn' true (bc nn false true)) false) false) false = true := hc
  rw [bc_eq] at hc
  split at hc
  case isFalse => cases hc
  rename_i hlen
  rw [bc_eq] at hc
  split at hc
  case isFalse => cases hc
  rename_i hlen2
  rw [bc_eq] at hc
  split at hc
  case isFalse => cases hc
  rename_i hroom
  have h1' := Nat.eq_of_beq_eq_true h1
  have hz1' := Nat.eq_of_beq_eq_true hz1
  have h2' := Nat.eq_of_beq_eq_true h2
  have hlen' := Nat.eq_of_beq_eq_true hlen
  have hlen2' := Nat.eq_of_beq_eq_true hlen2
  have hroom' := Nat.le_of_ble_eq_true hroom
  have happ' := SyC.appS_enc happ
  have hnn : nn' = true ∨ nn = false := by
    cases nn with
    | false => exact .inr rfl
    | true =>
      cases nn' with
      | true => exact .inl rfl
      | false => exact absurd (show false = true from hc) (by simp)
  subst h2'
  by_cases hm : 0 < len2
  · have hb : Nat.blt 0 len2 = true := by unfold Nat.blt; exact Nat.ble_eq_true_of_le hm
    have hbb : bc nn true (Nat.blt 0 len2) = true := by rw [hb]; cases nn <;> rfl
    simp only [hbb]
    obtain ⟨hn2, hsx⟩ := slO_sl hx (.inr hm)
    subst hn2
    cases hx with
    | slO _ _ _ _ _ hx =>
    obtain ⟨b, m, cp, e1, rfl, e3, e4, e5⟩ := hx.2 rfl
    obtain ⟨b2, m2, ns, g1, g2, g3, g4⟩ := srcOf_ok hR hH hd (by omega)
    rw [e1] at g1
    simp only [Option.some.injEq, Prod.mk.injEq] at g1
    obtain ⟨rfl, rfl⟩ := g1
    obtain ⟨γ', w', v', q1, q2, q3, q4⟩ := yAppN_ok (ty := ty) (ca := cp) hT hH hei hs hg h1' hz1' hm h5 h6 d.enc_one hlen' hroom' hnn happ' g2 (by rw [g3, ← h1', hz1', ← hlen2', Nat.mul_one]) (fun q u hu => by rw [show (b.at 0).add q = b.at q by unfold Pl.at Addr.add; simp]; exact g4 q u hu)
    exact ⟨γ', w', v', q1, q2, q3, _, rfl, q4⟩
  · have hm0 : len2 = 0 := by omega
    subst hm0
    have hbb : bc nn true (Nat.blt 0 0) = nn := by cases nn <;> rfl
    simp only [hbb]
    have hd0 : d.enc = [] := List.eq_nil_of_length_eq_zero (by rw [d.enc_len]; omega)
    rw [hd0, List.append_nil] at happ'
    obtain ⟨hu, inf, zv, hi, _⟩ := elemInfo_ok hei
    have hvx : vx = .slice none 0 0 ∨ ∃ a c, vx = .slice (some a) 0 c := by
      cases hx with
      | slO _ _ _ _ _ hx =>
      cases nn2 with
      | false => exact .inl (hx.1 rfl).1
      | true => obtain ⟨b, m, cp, _, e, _⟩ := hx.2 rfl; exact .inr ⟨_, _, e⟩
    cases nn with
    | false =>
      obtain ⟨rfl, hl0⟩ := slO_nil hs
      refine ⟨γ, w, .slice none 0 0, GLe.refl γ, ((hH.drop h5).more.nilSeq h6 ?_), append_none hu hi (Nat.le_refl _) hvx, _, rfl, .slO n z _ false _ ⟨fun _ => ⟨rfl, by omega⟩, fun e => by cases e⟩⟩
      rw [happ']
      exact List.eq_nil_of_length_eq_zero (by rw [c.enc_len]; omega)
    | true =>
      have hnn' : nn' = true := by
        rcases hnn with h | h
        · exact h
        · cases h
      subst hnn'
      cases hs with
      | slO _ _ _ _ _ hs =>
      obtain ⟨b, m, cp, e1, rfl, e3, e4, e5⟩ := hs.2 rfl
      have hnil : ¬ (EK.seq ei.e c true).Nil := fun e => by cases e.1
      obtain ⟨b2, m2, g1, g2, g3⟩ := hH.hp i _ hg hnil
      rw [e1] at g1
      simp only [Option.some.injEq, Prod.mk.injEq] at g1
      obtain ⟨rfl, rfl⟩ := g1
      have hle := G.upd_le (p := (b, m)) (hH.fresh n (Nat.le_refl _))
      have g4 : (EK.seq ei.e c' true).ok (γ.upd n (b, m)) b m w := by
        have := EK.ok_mono hle rfl g3
        obtain ⟨ca, q1, q2, q3, q4⟩ := this
        exact ⟨ca, q1, q2, by rw [happ']; exact q3, by rw [happ']; exact q4⟩
      exact ⟨γ.upd n (b, m), w, _, hle, hH.pass h6 h5 hg e1 b m _ (.inl rfl) (fun _ _ _ => rfl) (Nat.le_refl _) (hH.lt i _ e1) rfl rfl rfl g4 hnil, append_none hu hi e3 hvx, _, rfl, .slO n z _ true _ ⟨(fun e => by cases e), fun _ => ⟨b, m, cp, G.upd_same, rfl, e3, e4, e5⟩⟩⟩
noncomputable def SyC.empty (c : SyC) : SyC := match c with
  | .ints k _ => .ints k []
theorem SyC.empty_enc (c : SyC) : c.empty.enc = [] := by cases c; rfl
/-- behind nil, too -/
noncomputable def yAppAll2 (P : Program) (t : TypeId) (s x : EV) (RO : Tr (TypeId × SyC)) (H : Tr EK) (n : Nat) : Option YR := match s with
  | .v (.slice none 0 0) => match x with
    | .slO j _ _ _ => match srcOf RO H j with
      | some d => match elemInfo P t with
        | some ei => bc (Nat.ble n 65535) (yAppAll P t (.slO n ei.z 0 false) x RO (H.put n (some (.seq ei.e d.empty false))) (Nat.succ n)) none
        | none => none
      | none => none
    | _ => none
  | s => yAppAll P t s x RO H n
theorem yAppAll2_ok {RO : Tr (TypeId × SyC)} (hR : ROk γ w0 RO) (hT : TOk γ T tmps) (hH : HR γ w0 H n w) {t ty : TypeId} {s x : EV} {vs vx : Value} {r : YR} (hs : EC γ s vs) (hx : EC γ x vx) (h : yAppAll2 P t s x RO H n = some r) (hc : r.c = true) :
    ∃ γ' w' v', GLe γ γ' ∧ HR γ' w0 r.er.H r.er.n w' ∧ (Builtin.append_ #[t, t] ty #[vs, vx]).run P w = .ok v' w' ∧ ∃ a, r.er.val = some a ∧ EC γ' a v' := by
  unfold yAppAll2 at h
  split at h
  · split at h
    case h_2 => cases h
    split at h
    case h_2 => cases h
    rename_i d hd
    split at h
    case h_2 => cases h
    rename_i ei hei
    rw [bc_eq] at h
    split at h
    case isFalse => cases h
    rename_i hn
    have e := ec_v hs
    subst e
    exact yAppAll_ok hR hT (hH.more.nilSeq hn d.empty_enc) (.slO n ei.z 0 false _ ⟨fun _ => ⟨rfl, rfl⟩, fun e => by cases e⟩) hx h hc
  · exact yAppAll_ok hR hT hH hs hx h hc
/-- zeros behind nil -/
noncomputable def yAppZ (P : Program) (T : Tr EV) (x y : Operand) (t u : TypeId) (H : Tr EK) (n : Nat) : Option YR := match exVal T x with
  | some (.v (.slice none 0 0)) => match intOf (exVal T y) with
    | some m => match elemInfo P t with
      | some ei => match Sx.zeroL P ei.e with
        | some zs => match zeroInt zs with
          | some k => bc (isInt P u) (bc (Nat.beq ei.z 1) (bc (Nat.ble n 65535) (some ⟨bc (decide (0 < m)) (decide (m ≤ 4096)) false, ⟨some (.slO n 1 m.toNat true), H.put n (some (.seq ei.e (.ints k (zerosL m.toNat)) true)), Nat.succ n⟩⟩) none) none) none
          | none => none
        | none => none
      | none => none
    | none => none
  | _ => none
theorem yAppZ_ok (hT : TOk γ T tmps) (hH : HR γ w0 H n w) {x y : Operand} {t u : TypeId} {r : YR} (ho : o.op = .call { callee := .builtin .append, args := #[x, y], argTypes := #[t, u] }) (h : yAppZ P T x y t u H n = some r) (hc : r.c = true) : Gives P γ w0 w (execOp (opEval tmps) o) r.er.val r.er.H r.er.n := by
  unfold yAppZ at h
  split at h
  case h_2 => cases h
  rename_i hx
  split at h
  case h_2 => cases h
  rename_i m hy
  split at h
  case h_2 => cases h
  rename_i ei hei
  split at h
  case h_2 => cases h
  rename_i zs hzs
  split at h
  case h_2 => cases h
  rename_i k hk
  rw [bc_eq] at h
  split at h
  case isFalse => cases h
  rename_i h1
  rw [bc_eq] at h
  split at h
  case isFalse => cases h
  rename_i h2
  rw [bc_eq] at h
  split at h
  case isFalse => cases h
  rename_i h4
  injection h with h; subst h
  have hc : bc (decide (0 < m)) (decide (m ≤ 4096)) false = true := hc
  rw [bc_eq] at hc
  split at hc
  case isFalse => cases hc
  rename_i h5
  have h5 := of_decide_eq_true h5
  have h6 := of_decide_eq_true hc
  obtain ⟨m, rfl⟩ := Int.eq_ofNat_of_zero_le (show 0 ≤ m by omega)
  have h2 := Nat.eq_of_beq_eq_true h2
  obtain ⟨kn, hkn⟩ := isInt_ok h1
  obtain ⟨hu, inf, zv, hi, hz, hsz, hzsz, hpos, hby⟩ := elemInfo_ok hei
  obtain ⟨inf2, zv2, hi2, hz2, hzl⟩ := zero_of hzs
  rw [hi] at hi2; injection hi2 with hi2; subst hi2
  rw [hz] at hz2; injection hz2 with hz2; subst hz2
  have hb2 : m * inf.bytes ≤ 281474976710656 := Nat.le_trans (Nat.mul_le_mul (show m ≤ 4096 by omega) hby) (by decide)
  obtain ⟨κ, hyy⟩ := intOf_ok hT hy
  obtain ⟨γ', w', hle, hH2, v, hv, hcv⟩ := appZ_gives hH ho (ec_v (exVal_ok hT hx)) hyy hu hkn hi hz (by simpa using hzl) hzsz (show 0 < m by omega) (by rw [hsz]; exact hpos) (show m ≤ 4096 by omega) hb2 h4
  have hzs' := zeroInt_ok hk
  subst hzs'
  refine ⟨γ', w', hle, hH2.seqOf h4 (zeros_enc k (m * ei.z) m (by rw [h2]; omega)), v, hv, ?_⟩
  rw [h2] at hcv
  exact sl_slO hcv
end Go.Proofs.Ytfmofpdbhkoopaa.Ev
namespace Go.Proofs.Ytfmofpdbhkoopaa.Ev
open Go.RowKit
variable {P : Program} {γ γ' : G} {w0 : Bs} {w : World} {H H' : Tr EK} {n n' : Nat} {T : Tr EV} {cs : List Frame} {fid : FuncId} {FT : Tr FI} {tmps : Array Value} {o : Oper}

/-! ### operations -/
noncomputable def yKeep (x : Option (Bool × EV)) (H : Tr EK) (n : Nat) : Option YR := match x with
  | some p => some ⟨p.1, ⟨some p.2, H, n⟩⟩
  | none => none
noncomputable def smallTmp (x : Operand) : Bool := match x with
  | .tmp s => Nat.ble s 65535
  | _ => false
noncomputable def yIndex (P : Program) (T : Tr EV) (t : TypeId) (x ix : Operand) : Option (Bool × EV) := match intOf (exVal T ix) with
  | some k => match exVal T x with
    | some (.sl i z off len _) => match Sx.slZ P t with
      | some z' => bc (Nat.beq z z') (some (bc (decide (0 ≤ k)) (Nat.blt k.toNat len) false, .ptr i (Nat.add off (Nat.mul k.toNat z)))) none
      | none => none
    | some (.slO i z len _) => match Sx.slZ P t with
      | some z' => bc (Nat.beq z z') (bc (smallTmp x) (some (bc (decide (0 ≤ k)) (Nat.blt k.toNat len) false, .ptr i (Nat.add 0 (Nat.mul k.toNat z)))) none) none
      | none => none
    | _ => none
  | none => none
theorem slO_tmp {x : Operand} {i z len : Nat} {nn : Bool} (h : exVal T x = some (.slO i z len nn)) : ∃ s, x = .tmp s ∧ T.get s = some (.slO i z len nn) := by
  cases x with
  | tmp s => exact ⟨s, rfl, h⟩
  | const v => simp [exVal] at h
  | global g => simp [exVal] at h
  | func f => simp [exVal] at h
theorem yIndex_ok (hT : TOk γ T tmps) (hH : HR γ w0 H n w) {t : TypeId} {x ix : Operand} {p : Bool × EV} (ho : o.op = .indexAddr t x ix) (h : yIndex P T t x ix = some p) (hc : p.1 = true) : Gives P γ w0 w (execOp (opEval tmps) o) (some p.2) H n := by
  unfold yIndex at h
  split at h
  case h_2 => cases h
  rename_i k hk
  split at h
  case h_3 => cases h
  rotate_left
  · rename_i i z len nn hx
    split at h
    case h_2 => cases h
    rename_i z' hz
    rw [bc_eq] at h
    split at h
    case isFalse => cases h
    rename_i hzz
    rw [bc_eq] at h
    split at h
    case isFalse => cases h
    rename_i hsm
    injection h with h; subst h
    simp only [bc_eq] at hc
    split at hc
    case isFalse => cases hc
    rename_i h0
    have h0 := of_decide_eq_true h0
    obtain ⟨m, rfl⟩ := Int.eq_ofNat_of_zero_le h0
    obtain ⟨s, rfl, hs⟩ := slO_tmp hx
    have hsm : Nat.ble s 65535 = true := hsm
    have hlt : m < len := blt_lt hc
    have hT2 : TOk γ (T.put s (some (.sl i z 0 len none))) tmps := fun q a hq => by
      rw [Tr.get_put hsm] at hq
      split at hq
      · rename_i e; subst e
        injection hq with hq; subst hq
        obtain ⟨y, hy, hcy⟩ := hT _ _ hs
        exact ⟨y, hy, (slO_sl hcy (.inr (by omega))).2⟩
      · exact hT q a hq
    have hk2 : intOf (exVal (T.put s (some (.sl i z 0 len none))) ix) = some (m : Int) := by
      cases ix with
      | tmp q =>
        have hk' : intOf (T.get q) = some (m : Int) := hk
        show intOf ((T.put s (some (.sl i z 0 len none))).get q) = _
        rw [Tr.get_put hsm]
        split
        · rename_i e; subst e; rw [hs] at hk'; cases hk'
        · exact hk'
      | const v => exact hk
      | global g => exact hk
      | func f => exact hk
    refine exIndex_ok hT2 hH ho ?_
    unfold exIndex
    rw [hk2]
    have hx2 : exVal (T.put s (some (.sl i z 0 len none))) (.tmp s) = some (.sl i z 0 len none) := by
      show (T.put s (some (.sl i z 0 len none))).get s = _
      rw [Tr.get_put hsm, if_pos rfl]
    show (match (some m : Option Nat) with
      | some k => _
      | none => none) = _
    simp only [hx2, hz, bc_eq, hzz]
    simp only [Int.toNat_natCast] at hc ⊢
    rw [if_pos trivial, if_pos hc]
  rename_i i z off len cap hx
  split at h
  case h_2 => cases h
  rename_i z' hz
  rw [bc_eq] at h
  split at h
  case isFalse => cases h
  rename_i hzz
  injection h with h; subst h
  simp only [bc_eq] at hc
  split at hc
  case isFalse => cases hc
  rename_i h0
  have h0 := of_decide_eq_true h0
  obtain ⟨m, rfl⟩ := Int.eq_ofNat_of_zero_le h0
  refine exIndex_ok hT hH ho ?_
  unfold exIndex
  rw [hk]
  show (match (some m : Option Nat) with
    | some k => _
    | none => none) = _
  simp only [hx, hz, bc_eq, hzz]
  simp only [Int.toNat_natCast] at hc ⊢
  rw [if_pos trivial, if_pos hc]
noncomputable def yLoad (P : Program) (T : Tr EV) (t : TypeId) (x : Operand) (RO : Tr (TypeId × SyC)) : Option (Bool × EV) := match exVal T x with
  | some (.ptr i off) => match RO.get i with
    | some (_, c) => match aggOf P t with
      | some none => some (c.cell off)
      | _ => none
    | none => none
  | _ => none
theorem yLoad_ok {RO : Tr (TypeId × SyC)} (hR : ROk γ w0 RO) (hT : TOk γ T tmps) (hH : HR γ w0 H n w) {t : TypeId} {x : Operand} {p : Bool × EV} (ho : o.op = .load t x) (h : yLoad P T t x RO = some p) (hc : p.1 = true) : Gives P γ w0 w (execOp (opEval tmps) o) (some p.2) H n := by
  unfold yLoad at h
  split at h
  case h_2 => cases h
  rename_i i off hx
  split at h
  case h_2 => cases h
  rename_i ty c hr
  split at h
  case h_2 => cases h
  rename_i hag
  injection h with h; subst h
  have hne : c.enc ≠ [] := fun e => by have := SyC.cell_ok hc; rw [e] at this; cases this
  obtain ⟨b, m, ca, fz, hγ, hF, ⟨ty', hb⟩, hsz, hl, hcl⟩ := (hR i ty c hr).resolve_left hne
  obtain ⟨b2, m2, hγ2, he⟩ := ec_ptr (exVal_ok hT hx)
  rw [hγ] at hγ2
  simp only [Option.some.injEq, Prod.mk.injEq] at hγ2
  obtain ⟨rfl, rfl⟩ := hγ2
  obtain ⟨y, hy, hcy⟩ := hcl.at (SyC.cell_ok hc)
  have hbw : w.heap[b.k]? = some (.cells ca ty' fz) := by rw [hH.stays.block _ hF]; exact hb
  have hcell : w.cell? (b.at off) = some y := by
    have : w.cell? (b.at off) = ca[b.s + off]? := by unfold World.cell? Pl.at; simp [hbw]
    rw [this, ← Array.getElem?_toList]
    rw [List.getElem?_take] at hy
    split at hy
    · rw [List.getElem?_drop] at hy; exact hy
    · cases hy
  have hs2 : execOp (opEval tmps) o = (do pure (Next.value (← Instr.loadAt t (.pointer (some (b.at off))))) : Sem Next) := by
    unfold execOp; rw [ho]; simp only [he]
  refine gives_value (x := y) ?_ hcy hH
  rw [hs2]
  refine run_v ?_
  simp [Instr.loadAt, Instr.sureAddr, loadVar, aggOf_one hag, load, Sem.run, hcell]
/-! ### decided bools -/
noncomputable def eqB (a b : Bool) : Bool := Bool.rec (Bool.rec true false b) b a
theorem eqB_ok {a b : Bool} (h : eqB a b = true) : a = b := by cases a <;> cases b <;> first | rfl | cases h
/-- a slot's bool is taken to be this one -/
noncomputable def fixB (d : Nat) (b : Bool) (s : ES) : Bool × ES := match s.top.T.get d with
  | some (.v (.bool t)) => (bc (Nat.ble d 65535) (eqB t b) false, { s with top := { s.top with T := s.top.T.put d (some (.v (.bool b))) } })
  | _ => (true, s)
theorem fixB_ok {d : Nat} {b : Bool} {s : ES} {m : Machine} (hm : MR γ w0 cs s m) (hc : (fixB d b s).1 = true) : MR γ w0 cs (fixB d b s).2 m := by
  unfold fixB at hc ⊢
  split at hc
  · rename_i t ht
    simp only [bc_eq] at hc
    split at hc
    case isFalse => cases hc
    rename_i hd
    have e := eqB_ok hc
    subst e
    obtain ⟨fr, frs, w, rfl, ⟨tmps, todo, ds, ro, rfl, h1, h2, h3, h4, h5⟩, hfs, hH⟩ := hm
    refine ⟨_, frs, w, rfl, ⟨tmps, todo, ds, ro, rfl, h1, fun sl a hs => ?_, h3, h4, h5⟩, hfs, hH⟩
    have hs2 : (s.top.T.put d (some (.v (.bool t)))).get sl = some a := hs
    clear hs
    rw [Tr.get_put hd] at hs2
    split at hs2
    · rename_i e
      subst e
      exact h2 _ a (ht.trans hs2)
    · exact h2 sl a hs2
  · exact hm
end Go.Proofs.Ytfmofpdbhkoopaa.Ev
namespace Go.Proofs.Ytfmofpdbhkoopaa.Ev
open Go.RowKit
variable {P : Program} {γ γ' : G} {w0 : Bs} {w : World} {H H' : Tr EK} {n n' : Nat} {T : Tr EV} {cs : List Frame} {fid : FuncId} {FT : Tr FI} {tmps : Array Value} {o : Oper}

/-- the operations that know open leaves -/
noncomputable def yQ (P : Program) (T : Tr EV) (o : Oper) (RO : Tr (TypeId × SyC)) : Option (Bool × EV) := match o.op with
  | .indexAddr t x ix => yIndex P T t x ix
  | .load t x => yLoad P T t x RO
  | _ => none
/-- operations on sequences that the call owns -/
noncomputable def yApp2 (P : Program) (T : Tr EV) (args : List Operand) (ats : List TypeId) (RO : Tr (TypeId × SyC)) (H : Tr EK) (n : Nat) : Option YR := match args with
  | [x, y] => match ats with
    | [t, u] => bc (Nat.beq t u) (match exVal T x with
      | some a => match exVal T y with
        | some b => match yAppAll2 P t a b RO H n with
          | some r => some r
          | none => yApp P t a b H n
        | none => none
      | none => none) (yAppZ P T x y t u H n)
    | _ => none
  | _ => none
noncomputable def yOwn (P : Program) (T : Tr EV) (o : Oper) (RO : Tr (TypeId × SyC)) (H : Tr EK) (n : Nat) : Option YR := match o.op with
  | .load t x => yKeep (ySeqLoad P T t x H) H n
  | .store t x y => yStore P T t x y H n
  | .slice t x lo hi mx => yCut P T t x lo hi mx H n
  | .makeSlice t len cap => yMake P T t len cap H n
  | .buildSlice t len parts => yEmpty P t len parts H n
  | .call c => match c.callee with
    | .builtin .append => yApp2 P T c.args.toList c.argTypes.toList RO H n
    | _ => none
  | _ => none
theorem yKeep_ok {x : Option (Bool × EV)} {r : YR} (h : yKeep x H n = some r) : ∃ p, x = some p ∧ r = ⟨p.1, ⟨some p.2, H, n⟩⟩ := by
  unfold yKeep at h
  split at h
  case h_2 => cases h
  rename_i p
  injection h with h
  exact ⟨p, rfl, h.symm⟩
theorem yOwn_ok {RO : Tr (TypeId × SyC)} (hR : ROk γ w0 RO) (hT : TOk γ T tmps) (hH : HR γ w0 H n w) {r : YR} (h : yOwn P T o RO H n = some r) (hc : r.c = true) : notDefer o.op = true ∧ Gives P γ w0 w (execOp (opEval tmps) o) r.er.val r.er.H r.er.n := by
  unfold yOwn at h
  split at h
  · rename_i t x ho
    obtain ⟨p, hp, rfl⟩ := yKeep_ok h
    exact ⟨by rw [ho]; rfl, ySeqLoad_ok hT hH ho hp hc⟩
  · rename_i t x y ho
    exact ⟨by rw [ho]; rfl, yStore_ok hT hH ho h hc⟩
  · rename_i t x lo hi mx ho
    exact ⟨by rw [ho]; rfl, yCut_ok hT hH ho h hc⟩
  · rename_i t len cap ho
    exact ⟨by rw [ho]; rfl, yMake_ok hT hH ho h hc⟩
  · rename_i t len parts ho
    exact ⟨by rw [ho]; rfl, yEmpty_ok hH ho h⟩
  · rename_i c ho
    refine ⟨by rw [ho]; rfl, ?_⟩
    split at h
    case h_2 => cases h
    rename_i hcal
    obtain ⟨callee, args, ats⟩ := c
    simp only at hcal h; subst hcal
    unfold yApp2 at h
    split at h
    case h_2 => cases h
    rename_i x y hargs
    split at h
    case h_2 => cases h
    rename_i t u hats
    have ha2 : args = #[x, y] := by apply Array.ext'; simpa using hargs
    have ha3 : ats = #[t, u] := by apply Array.ext'; simpa using hats
    subst ha2; subst ha3
    rw [bc_eq] at h
    split at h
    case isFalse => exact yAppZ_ok hT hH ho h hc
    rename_i htu
    have htu := Nat.eq_of_beq_eq_true htu
    subst htu
    split at h
    case h_2 => cases h
    rename_i a ha
    split at h
    case h_2 => cases h
    rename_i b hb
    have key : ∃ γ' w' v', GLe γ γ' ∧ HR γ' w0 r.er.H r.er.n w' ∧ (Builtin.append_ #[t, t] o.type #[opEval tmps x, opEval tmps y]).run P w = .ok v' w' ∧ ∃ a, r.er.val = some a ∧ EC γ' a v' := by
      split at h
      · rename_i r' hr'
        injection h with h; subst h
        exact yAppAll2_ok (ty := o.type) hR hT hH (exVal_ok hT ha) (exVal_ok hT hb) hr' hc
      · exact yApp_ok (ty := o.type) hT hH (exVal_ok hT ha) (exVal_ok hT hb) h hc
    obtain ⟨γ', w', v', h1, h2, h3, av, h4, h5⟩ := key
    refine ⟨γ', w', h1, h2, ?_⟩
    rw [h4]
    refine ⟨v', ?_, h5⟩
    simp [execOp, ho, resolve, invoke, builtin, h3]
  · cases h
noncomputable def yOp (P : Program) (T : Tr EV) (o : Oper) (H : Tr EK) (n : Nat) (RO : Tr (TypeId × SyC)) : Option YR := match yKeep (yQ P T o RO) H n with
  | some r => some r
  | none => yOwn P T o RO H n
theorem yQ_ok {RO : Tr (TypeId × SyC)} (hR : ROk γ w0 RO) (hT : TOk γ T tmps) (hH : HR γ w0 H n w) {p : Bool × EV} (h : yQ P T o RO = some p) (hc : p.1 = true) : notDefer o.op = true ∧ Gives P γ w0 w (execOp (opEval tmps) o) (some p.2) H n := by
  unfold yQ at h
  split at h
  · rename_i t x ix ho
    exact ⟨by rw [ho]; rfl, yIndex_ok hT hH ho h hc⟩
  · rename_i t x ho
    exact ⟨by rw [ho]; rfl, yLoad_ok hR hT hH ho h hc⟩
  · cases h
theorem yOp_ok {RO : Tr (TypeId × SyC)} (hR : ROk γ w0 RO) (hT : TOk γ T tmps) (hH : HR γ w0 H n w) {r : YR} (h : yOp P T o H n RO = some r) (hc : r.c = true) : notDefer o.op = true ∧ Gives P γ w0 w (execOp (opEval tmps) o) r.er.val r.er.H r.er.n := by
  unfold yOp at h
  split at h
  · rename_i r' hr
    injection h with h; subst h
    obtain ⟨p, hp, rfl⟩ := yKeep_ok hr
    exact yQ_ok hR hT hH hp hc
  · exact yOwn_ok hR hT hH h hc
/-! ### regions that draw their order -/
noncomputable def lookB (ov : List (Nat × Bool)) (d : Nat) : Option Bool := List.rec none (fun p _ ih => bc (Nat.beq p.1 d) (some p.2) ih) ov
/-- a bool that was decided ahead -/
noncomputable def ovD (ov : List (Nat × Bool)) (d : Option Nat) : Option Bool := match d with
  | some d => lookB ov d
  | none => none
noncomputable def ovQ (ov : List (Nat × Bool)) (d : Option Nat) (r : Option EV) : Option EV := match ovD ov d with
  | some b => match r with
    | some (.v (.bool _)) => some (.v (.bool b))
    | r => r
  | none => r
noncomputable def ovC (ov : List (Nat × Bool)) (d : Option Nat) (r : Option EV) : Bool := match ovD ov d with
  | some b => match r with
    | some (.v (.bool t)) => eqB t b
    | _ => true
  | none => true
theorem ovQ_eq {ov : List (Nat × Bool)} {d : Option Nat} {r : Option EV} (h : ovC ov d r = true) : ovQ ov d r = r := by
  unfold ovQ; unfold ovC at h
  split
  · rename_i b hb
    rw [hb] at h
    split
    · rename_i t
      have h : eqB t b = true := h
      rw [eqB_ok h]
    · rfl
  · rfl
noncomputable def qY (P : Program) (RO : Tr (TypeId × SyC)) (ov : List (Nat × Bool)) : QF := fun T o H n => match yQ P T o RO with
  | some p => some p.2
  | none => bc (memless o.op) (ovQ ov o.dst (exQ P T o .nil 0)) (exQ P T o H n)
theorem qY_memless {RO : Tr (TypeId × SyC)} {ov : List (Nat × Bool)} (T : Tr EV) (o : Oper) (H H' : Tr EK) (n n' : Nat) (h : memless o.op = true) : qY P RO ov T o H n = qY P RO ov T o H' n' := by
  unfold qY
  split
  · rfl
  · rw [bc_eq, bc_eq, if_pos h, if_pos h]
noncomputable def cond1 (P : Program) (RO : Tr (TypeId × SyC)) (ov : List (Nat × Bool)) (ops : Array Oper) (o : Oper) (Ti : Tr EV) : Bool := match exGuard Ti ops o with
  | some true => match yQ P Ti o RO with
    | some p => p.1
    | none => bc (memless o.op) (ovC ov o.dst (exQ P Ti o .nil 0)) true
  | _ => true
noncomputable def condL (P : Program) (RO : Tr (TypeId × SyC)) (ov : List (Nat × Bool)) (ops : Array Oper) (l : List Oper) : List (Tr EV) → Bool := List.rec (fun _ => true) (fun o _ ih Ts => match Ts with
  | Ti :: Ts => bc (cond1 P RO ov ops o Ti) (ih Ts) false
  | [] => false) l
theorem condL_ok {RO : Tr (TypeId × SyC)} {ov : List (Nat × Bool)} {ops : Array Oper} : ∀ {l : List Oper} {Ts : List (Tr EV)}, condL P RO ov ops l Ts = true → ∀ (j : Nat) (o : Oper) (Ti : Tr EV), l[j]? = some o → Ts[j]? = some Ti → cond1 P RO ov ops o Ti = true
  | [], Ts, _, j, o, Ti, h1, _ => by simp at h1
  | b :: l, [], _, j, o, Ti, _, h2 => by simp at h2
  | b :: l, T1 :: Ts, h, j, o, Ti, h1, h2 => by
    have h' : bc (cond1 P RO ov ops b T1) (condL P RO ov ops l Ts) false = true := h
    rw [bc_eq] at h'
    split at h'
    case isFalse => cases h'
    rename_i hc
    cases j with
    | zero => simp at h1 h2; subst h1; subst h2; exact hc
    | succ j => exact condL_ok h' j o Ti (by simpa using h1) (by simpa using h2)
noncomputable def drY2 (P : Program) (RO : Tr (TypeId × SyC)) (ov : List (Nat × Bool)) (s : ES) (ops : Array Oper) (k : List IM) (A : List Nat) (M0 : Mm) (c : CF) (louds : List Nat) : EO := bc (loudB A louds) (bc (chkAll (qY P RO ov) ops A s.n c.Fl M0 c.R c.Ts louds) (bc (chkFree A s.n M0 c.R louds) (drGo3 s k c.T s.n c.Fl c.R (md (fun _ => true) c.R 0 M0)) .fail) .fail) .fail
noncomputable def drY1 (P : Program) (sub : Sub) (RO : Tr (TypeId × SyC)) (ov : List (Nat × Bool)) (s : ES) (ops : Array Oper) (k : List IM) (A : List Nat) (M0 : Mm) : Bool × EO := match canonF P sub (qY P RO ov) ops A s.n s.top.N ops.toList 0 [] [] M0 s.top.T [] with
  | some c => (condL P RO ov ops ops.toList c.Ts, drY2 P RO ov s ops k A M0 c (loudIdx c.R 0))
  | none => (true, .fail)
noncomputable def drY (P : Program) (sub : Sub) (RO : Tr (TypeId × SyC)) (ov : List (Nat × Bool)) (s : ES) (ops : Array Oper) (k : List IM) (A : List Nat) (m : Nat) : Bool × EO := bc (statB ops A) (bc (Nat.ble (Nat.add s.n m) 65536) (drY1 P sub RO ov s ops k A ⟨s.H, Nat.add s.n m, 0⟩) (true, .fail)) (true, .fail)
theorem drY_ok (hm : P.follows .mixedOrders = true) {sub : Sub} (hsub : LoudOk P sub) {RO : Tr (TypeId × SyC)} (hRO : ROk γ w0 RO) {ov : List (Nat × Bool)} {s : ES} {id : Nat} {ops : Array Oper} {k : List IM} {todo : List Item} {ds : List Deferred} {ro : Option Nat} {frs : List Frame}
    (hret : s.top.ret = false) (h1 : tmps.size = s.top.N) (h2 : TOk γ s.top.T tmps) (hk : All2 (IR γ) k todo) (h4 : All2 (DR γ) s.top.dfs ds) (h5 : RR γ s.top.round ro) (hfs : All2 (FR γ) s.rest frs) (hH : HR γ w0 s.H s.n w)
    (hcc : (drY P sub RO ov s ops k (ancs ops.toList []) (llen ops.toList)).1 = true) :
    SOk P γ w0 cs fid (lone (fram s.top.fn tmps (.code (.region id ops true) :: todo) ds ro) (frs ++ cs) w) (drY P sub RO ov s ops k (ancs ops.toList []) (llen ops.toList)).2 := by
  unfold drY at hcc ⊢
  rw [bc_eq, bc_eq] at hcc ⊢
  split
  case isFalse => trivial
  rename_i hs
  rw [if_pos hs] at hcc
  split
  case isFalse => trivial
  rename_i hroom
  rw [if_pos hroom] at hcc
  have hroom := Nat.le_of_ble_eq_true hroom
  have hroom : s.n + llen ops.toList ≤ 65536 := hroom
  unfold drY1 at hcc ⊢
  split
  case h_2 => trivial
  rename_i c hc
  rw [hc] at hcc
  have hcc : condL P RO ov ops ops.toList c.Ts = true := hcc
  obtain ⟨R, T', Ts, Fl⟩ := c
  have hst0 := statB_ok hs
  obtain ⟨c1, c2, c3, _, c5, c6⟩ := canonF_ok (T0 := s.top.T) (R := []) (Ts := []) hst0 hc (fun j o hj => by simpa using hj) (fun s => by simp [lw]) rfl
  have c6 : Fl = frl R 0 := c6
  subst c6
  show SOk P γ w0 cs fid _ (drY2 P RO ov s ops k _ _ _ _)
  unfold drY2
  rw [bc_eq, bc_eq, bc_eq]
  split
  case isFalse => trivial
  rename_i hl
  split
  case isFalse => trivial
  rename_i hq
  split
  case isFalse => trivial
  rename_i hf
  have hll : llen ops.toList = ops.size := by rw [llen_eq]; simp
  rw [hll] at hroom
  have hqk : ∀ (i : Nat) (o : Oper), ops[i]? = some o → quiet o.op = true → exGuard (tabAt ops (ancs ops.toList []) s.top.T (R.take i) i o) ops o = some true → ∀ (γ : G) (w0 : Bs) (w : World) (tmps : Array Value) (H : Tr EK) (n : Nat) (a : EV), ROk γ w0 RO → TOk γ (tabAt ops (ancs ops.toList []) s.top.T (R.take i) i o) tmps → HR γ w0 H n w → qY P RO ov (tabAt ops (ancs ops.toList []) s.top.T (R.take i) i o) o H n = some a →
      ∃ γ' w' x, GLe γ γ' ∧ HR γ' w0 H n w' ∧ (execOp (opEval tmps) o).run P w = .ok (.value x) w' ∧ EC γ' a x := fun i o ho hqo hgd γ w0 w tmps H n a hRK hT hH h => by
    have hTs : Ts[i]? = some (tabAt ops (ancs ops.toList []) s.top.T (R.take i) i o) := by simpa using c5 i o (by simpa using ho)
    have h1 := condL_ok hcc i o _ (by simpa using ho) hTs
    unfold qY at h
    split at h
    · rename_i p hp
      injection h with h; subst h
      unfold cond1 at h1
      rw [hgd] at h1
      simp only [hp] at h1
      obtain ⟨_, γ', w', hle, hH2, x, hx, hcx⟩ := yQ_ok hRK hT hH hp h1
      exact ⟨γ', w', x, hle, hH2, hx, hcx⟩
    · rename_i hyq
      unfold cond1 at h1
      rw [hgd] at h1
      simp only [hyq] at h1
      rw [bc_eq] at h h1
      split at h
      · rename_i hml
        rw [if_pos hml] at h1
        rw [ovQ_eq h1, exQ_memless hml (H' := H) (n' := n)] at h
        exact exQ_ok hT hH hqo h
      · exact exQ_ok hT hH hqo h
  have hR := run_of (RO := RO) hs c1 hl hq (fun i o ho => by simpa using c5 i o (by simpa using ho)) (fun T o H H' n n' h => qY_memless T o H H' n n' h) (fun i o ho hqo hgd γ w0 w tmps H n a hRK hT hH h => hqk i o ho hqo hgd γ w0 w tmps H n a hRK hT hH h) hf rfl hroom
  obtain ⟨t, ht⟩ := st_draw (P := P) (w := w) (cs := frs ++ cs) (fn := s.top.fn) (tmps := tmps) (id := id) (ops := ops) (k := todo) (ds := ds) (ro := ro) hm
  have hdst : ∀ (i : Nat) (o : Oper), ops[i]? = some o → ∀ d, o.dst = some d → d < s.top.N := fun i o ho d hd => by
    exact c3 o (List.mem_of_getElem? (show ops.toList[i]? = some o by simpa using ho)) d hd
  have hrep : (fun j => (Array.replicate ops.size false).getD j false) = fun _ => false := funext fun j => by
    simp only [Array.getD]
    split
    · simp
    · rfl
  obtain ⟨γ', tmps', w', hle, hst, hT2, hN2, hH2⟩ := hR.all (w0 := w0) (cs := frs ++ cs) hsub (fun q hq => (hH.rsv q hq).2) (fn := s.top.fn) (k := todo) (ds := ds) (ro := ro) (N := s.top.N) hdst ops.size t (Array.replicate ops.size false) γ tmps { w with drawn := w.drawn + 1 } (show ROk γ w0 RO from hRO) (by simp)
    (by rw [hrep]; intro i _ hD; cases hD) (by exact Nat.le_trans (List.length_filter_le _ _) (by simp))
    (by rw [hrep]; intro sl a hs; rw [lw_none (fun _ _ _ _ => rfl)] at hs; exact h2 sl a hs) h1
    (by
      rw [hrep]
      unfold HD
      rw [md_none (fun _ _ _ _ => rfl)]
      have h9 : HR γ w0 s.H (s.n + llen ops.toList) { w with drawn := w.drawn + 1 } := by
        have := hH.step (w' := { w with drawn := w.drawn + 1 }) rfl rfl rfl rfl
        exact ⟨this.hp0, this.inj0, fun i hi => this.fresh i (by omega), fun i hi => let ⟨q1, q2⟩ := this.rsv i hi; ⟨q1, by omega⟩, this.lt, this.stays⟩
      refine HR.reserve (h9.congr fun b c hb => ?_) fun i hi => ?_
      · rw [hR.kd, md_none (fun _ _ _ _ => rfl)] at hb
        have hmp : fV (mpF (fun _ => false) R) s.n 0 R b = none := by
          cases e : fV (mpF (fun _ => false) R) s.n 0 R b with
          | none => rfl
          | some c =>
            obtain ⟨j, r, _, _, e2⟩ := fV_some.1 e
            have := (mpF_some.1 e2).2.1
            cases this
        rw [hmp, Option.none_or] at hb
        cases hv : frV (fun j => bc (tb 0 j) false false) s.n 0 R b with
        | none => rw [hv, Option.none_or] at hb; exact hb
        | some c2 =>
          obtain ⟨j, r, _, _, h5, _⟩ := frV_some.1 hv
          rw [bc_eq] at h5
          split at h5 <;> cases h5
      · rcases hi with hi | ⟨j, h5, _, rfl⟩
        · obtain ⟨q1, q2⟩ := hH.rsv i hi
          exact ⟨q1, show i < s.n + llen ops.toList by omega⟩
        · exact ⟨hH.fresh _ (by omega), show s.n + j < s.n + llen ops.toList by omega⟩)
  refine ⟨γ', _, hle, (Steps.one ht).trans (hst.trans (.one st_regionEnd)), _, frs, w', rfl, ⟨tmps', todo, ds, ro, by simp [fram, hret, modeOf], hN2, fun sl a hs => hT2 sl a ((c2 sl).symm.trans hs), hk.mono fun _ _ h => h.mono hle, h4.mono fun _ _ h => h.mono hle, h5.mono hle⟩, hfs.mono fun _ _ h => h.mono hle, ?_⟩
  unfold HD at hH2
  unfold KD at hH2
  rw [← frF_eq] at hH2
  exact (HR.lessRes (r' := w0.res) hH2 fun i hi => .inl hi)
/-! ### sequences that a region only reads -/
noncomputable def Tr.map {α β : Type} (f : Option α → Option β) : Tr α → Tr β := Tr.rec .nil (fun v _ _ l r => .node (f v) l r)
theorem Tr.get_map {α β : Type} {f : Option α → Option β} (hf : f none = none) : ∀ {t : Tr α} {i : Nat}, (Tr.map f t).get i = f (t.get i)
  | .nil, i => hf.symm
  | .node v l r, i => by
    show (Tr.node (f v) (Tr.map f l) (Tr.map f r)).get i = _
    rw [Tr.get_node, Tr.get_node]
    split
    · rfl
    · split
      · exact Tr.get_map hf
      · exact Tr.get_map hf
noncomputable def Tr.zip {α β δ : Type} (f : Option α → Option β → Option δ) : Tr α → Tr β → Tr δ := Tr.rec (fun t2 => Tr.map (f none) t2) (fun v _ _ il ir t2 => Tr.rec (.node (f v none) (il .nil) (ir .nil)) (fun v2 l2 r2 _ _ => .node (f v v2) (il l2) (ir r2)) t2)
theorem Tr.get_zip {α β δ : Type} {f : Option α → Option β → Option δ} (hf : f none none = none) : ∀ {t : Tr α} {t2 : Tr β} {i : Nat}, (Tr.zip f t t2).get i = f (t.get i) (t2.get i)
  | .nil, t2, i => Tr.get_map hf
  | .node v l r, .nil, i => by
    show (Tr.node (f v none) (Tr.zip f l .nil) (Tr.zip f r .nil)).get i = _
    rw [Tr.get_node, Tr.get_node]
    split
    · rfl
    · split
      · exact Tr.get_zip hf
      · exact Tr.get_zip hf
  | .node v l r, .node v2 l2 r2, i => by
    show (Tr.node (f v v2) (Tr.zip f l l2) (Tr.zip f r r2)).get i = _
    rw [Tr.get_node, Tr.get_node, Tr.get_node]
    split
    · rfl
    · split
      · exact Tr.get_zip hf
      · exact Tr.get_zip hf
noncomputable def seqOfK (k : Option EK) : Option (TypeId × SyC) := match k with
  | some (.seq ty c _) => some (ty, c)
  | _ => none
noncomputable def frRO (RO : Tr (TypeId × SyC)) (H : Tr EK) : Tr (TypeId × SyC) := Tr.zip (fun a k => match a with
  | some p => some p
  | none => seqOfK k) RO H
noncomputable def noSeq (k : Option EK) : Option EK := match k with
  | some (.seq _ _ _) => none
  | k => k
noncomputable def frH (H : Tr EK) : Tr EK := Tr.map noSeq H
noncomputable def orSeq (a k : Option EK) : Option EK := match a with
  | some (.seq ty c nn) => some (.seq ty c nn)
  | _ => k
noncomputable def unH (H0 H : Tr EK) : Tr EK := Tr.zip orSeq H0 H
theorem frH_get {i : Nat} {k : EK} (h : (frH H).get i = some k) : H.get i = some k ∧ ∀ ty c nn, k ≠ .seq ty c nn := by
  unfold frH at h
  rw [Tr.get_map rfl] at h
  cases hk : H.get i with
  | none => rw [hk] at h; cases h
  | some k' =>
    rw [hk] at h
    cases k' with
    | seq ty c nn => cases h
    | _ => injection (show some _ = some k from h) with h; subst h; exact ⟨rfl, fun _ _ _ e => by cases e⟩
theorem unH_get {H0 H : Tr EK} {i : Nat} {k : EK} (h : (unH H0 H).get i = some k) : (∃ ty c nn, H0.get i = some (.seq ty c nn) ∧ k = .seq ty c nn) ∨ H.get i = some k := by
  unfold unH at h
  rw [Tr.get_zip rfl] at h
  cases hk : H0.get i with
  | none => rw [hk] at h; exact .inr h
  | some k' =>
    rw [hk] at h
    cases k' with
    | seq ty c nn => injection (show some (EK.seq ty c nn) = some k from h) with h; exact .inl ⟨ty, c, nn, rfl, h.symm⟩
    | _ => exact .inr h
/-- the sequences' blocks are left alone besides -/
def Bs.frz (w0 : Bs) (γ : G) (H : Tr EK) (n : Nat) (w : World) (h : HR γ w0 H n w) : Bs := ⟨w, fun k => w0.F k ∨ ∃ i ty c nn b m, H.get i = some (.seq ty c nn) ∧ ¬ (EK.seq ty c nn).Nil ∧ γ i = some (b, m) ∧ b.k = k, fun k hk => by
  rcases hk with hk | ⟨i, ty, c, nn, b, m, _, _, h1, rfl⟩
  · exact Nat.lt_of_lt_of_le (w0.lt k hk) h.stays.size
  · exact h.lt i _ h1, w0.res⟩
theorem frz_HR (hH : HR γ w0 H n w) : HR γ (w0.frz γ H n w hH) (frH H) n w := by
  refine ⟨fun i k hk => ?_, fun i j ki kj hi hj ni nj hne bi bj ei ej => hH.inj0 i j ki kj (frH_get hi).1 (frH_get hj).1 ni nj hne bi bj ei ej, hH.fresh, hH.rsv, hH.lt, ⟨rfl, rfl, rfl, Nat.le_refl _, fun _ _ => rfl⟩⟩
  obtain ⟨h1, h2⟩ := frH_get hk
  by_cases hn : k.Nil
  · exact .inl hn
  obtain ⟨b, m, e1, e2, e3⟩ := hH.hp i k h1 hn
  refine .inr ⟨b, m, e1, fun hf => ?_, e3⟩
  rcases hf with hf | ⟨j, ty, c, nn, b2, m2, g1, g2, g3, g4⟩
  · exact e2 hf
  · by_cases e : i = j
    · subst e; rw [h1] at g1; injection g1 with g1; exact h2 _ _ _ g1
    · exact hH.inj0 i j k _ h1 g1 hn g2 e _ _ e1 g3 g4.symm
theorem frz_RO {RO : Tr (TypeId × SyC)} (hR : ROk γ w0 RO) (hH : HR γ w0 H n w) : ROk γ (w0.frz γ H n w hH) (frRO RO H) := fun i ty c hi => by
  unfold frRO at hi
  rw [Tr.get_zip rfl] at hi
  cases hr : RO.get i with
  | some p =>
    rw [hr] at hi
    injection (show some p = some (ty, c) from hi) with hi; subst hi
    refine (hR i ty c hr).imp id fun ⟨b, m, ca, fz, e1, e2, ⟨ty', e3⟩, e4, e5, e6⟩ => ?_
    exact ⟨b, m, ca, fz, e1, .inl e2, ⟨ty', (hH.stays.block _ e2).trans e3⟩, e4, e5, e6⟩
  | none =>
    rw [hr] at hi
    have hi : seqOfK (H.get i) = some (ty, c) := hi
    unfold seqOfK at hi
    split at hi
    case h_2 => cases hi
    rename_i ty' c' nn hg
    simp only [Option.some.injEq, Prod.mk.injEq] at hi
    obtain ⟨rfl, rfl⟩ := hi
    by_cases hn : (EK.seq ty' c' nn).Nil
    · exact .inl hn.2
    obtain ⟨b, m, e1, e2, ca, ⟨fz, e3, _⟩, e4, e5, e6⟩ := hH.hp i _ hg hn
    exact .inr ⟨b, m, ca, fz, e1, .inr ⟨i, ty', c', nn, b, m, hg, hn, e1, rfl⟩, ⟨_, e3⟩, Nat.le_of_eq e4.symm, e5, e6⟩
theorem frz_back (hH : HR γ w0 H n w) (hle : GLe γ γ') {H2 : Tr EK} {w' : World} (h : HR γ' (w0.frz γ H n w hH) H2 n' w') : HR γ' w0 (unH H H2) n' w' := by
  have stay : ∀ i ty c nn b m, H.get i = some (.seq ty c nn) → ¬ (EK.seq ty c nn).Nil → γ i = some (b, m) → (w0.frz γ H n w hH).F b.k ∧ w'.heap[b.k]? = w.heap[b.k]? := fun i ty c nn b m h1 h2 h3 =>
    ⟨.inr ⟨i, ty, c, nn, b, m, h1, h2, h3, rfl⟩, h.stays.block _ (.inr ⟨i, ty, c, nn, b, m, h1, h2, h3, rfl⟩)⟩
  have cls : ∀ j k, (unH H H2).get j = some k → k.Nil ∨ (∃ b m, H.get j = some k ∧ ¬ k.Nil ∧ γ j = some (b, m) ∧ γ' j = some (b, m) ∧ ¬ w0.F b.k ∧ (w0.frz γ H n w hH).F b.k ∧ k.ok γ' b m w') ∨ (∃ b m, H2.get j = some k ∧ ¬ k.Nil ∧ γ' j = some (b, m) ∧ ¬ (w0.frz γ H n w hH).F b.k ∧ k.ok γ' b m w') := fun j k hk => by
    by_cases hn : k.Nil
    · exact .inl hn
    right
    rcases unH_get hk with ⟨ty, c, nn, h1, rfl⟩ | h1
    · left
      obtain ⟨b, m, e1, e2, e3⟩ := hH.hp j _ h1 hn
      obtain ⟨q1, q2⟩ := stay j ty c nn b m h1 hn e1
      exact ⟨b, m, h1, hn, e1, hle _ _ e1, e2, q1, EK.ok_mono hle q2 e3⟩
    · right
      obtain ⟨b, m, e1, e2, e3⟩ := h.hp j k h1 hn
      exact ⟨b, m, h1, hn, e1, e2, e3⟩
  refine ⟨fun j k hk => ?_, fun j l kj kl hj hl nj nl hne bj bl ej el => ?_, h.fresh, h.rsv, h.lt, ?_⟩
  · rcases cls j k hk with h1 | ⟨b, m, h1, h2, h3, h4, h5, h6, h7⟩ | ⟨b, m, h1, h2, h3, h4, h5⟩
    · exact .inl h1
    · exact .inr ⟨b, m, h4, h5, h7⟩
    · exact .inr ⟨b, m, h3, fun hf => h4 (.inl hf), h5⟩
  · rcases cls j kj hj with h1 | ⟨b, m, h1, h2, h3, h4, h5, h6, h7⟩ | ⟨b, m, h1, h2, h3, h4, h5⟩
    · exact absurd h1 nj
    · rw [h4] at ej; injection ej with ej; subst ej
      rcases cls l kl hl with g1 | ⟨b', m', g1, g2, g3, g4, g5, g6, g7⟩ | ⟨b', m', g1, g2, g3, g4, g5⟩
      · exact absurd g1 nl
      · rw [g4] at el; injection el with el; subst el
        exact hH.inj0 j l kj kl h1 g1 h2 g2 hne _ _ h3 g3
      · rw [g3] at el; injection el with el; subst el
        show b.k ≠ b'.k
        intro e
        rw [e] at h6
        exact g4 h6
    · rw [h3] at ej; injection ej with ej; subst ej
      rcases cls l kl hl with g1 | ⟨b', m', g1, g2, g3, g4, g5, g6, g7⟩ | ⟨b', m', g1, g2, g3, g4, g5⟩
      · exact absurd g1 nl
      · rw [g4] at el; injection el with el; subst el
        show b.k ≠ b'.k
        intro e
        rw [← e] at g6
        exact h4 g6
      · rw [g3] at el; injection el with el; subst el
        exact h.inj0 j l kj kl h1 g1 h2 g2 hne _ _ h3 g3
  · have h1 := h.stays
    have e1 : w'.os = w.os := h1.os
    have e2 : w'.tape = w.tape := h1.tape
    have e3 : w'.output = w.output := h1.output
    have e4 : w.heap.size ≤ w'.heap.size := h1.size
    exact ⟨e1.trans hH.stays.os, e2.trans hH.stays.tape, e3.trans hH.stays.output, Nat.le_trans hH.stays.size e4, fun k hk => (h1.block k (.inl hk)).trans (hH.stays.block k hk)⟩
noncomputable def drYZ (P : Program) (sub : Sub) (RO : Tr (TypeId × SyC)) (ov : List (Nat × Bool)) (s : ES) (ops : Array Oper) (k : List IM) (A : List Nat) (m : Nat) : Bool × EO := match (drY P sub (frRO RO s.H) ov { s with H := frH s.H } ops k A m).2 with
  | .go s' => ((drY P sub (frRO RO s.H) ov { s with H := frH s.H } ops k A m).1, .go { s' with H := unH s.H s'.H })
  | _ => drY P sub RO ov s ops k A m
theorem drYZ_ok (hm : P.follows .mixedOrders = true) {sub : Sub} (hsub : LoudOk P sub) {RO : Tr (TypeId × SyC)} (hRO : ROk γ w0 RO) {ov : List (Nat × Bool)} {s : ES} {id : Nat} {ops : Array Oper} {k : List IM} {todo : List Item} {ds : List Deferred} {ro : Option Nat} {frs : List Frame}
    (hret : s.top.ret = false) (h1 : tmps.size = s.top.N) (h2 : TOk γ s.top.T tmps) (hk : All2 (IR γ) k todo) (h4 : All2 (DR γ) s.top.dfs ds) (h5 : RR γ s.top.round ro) (hfs : All2 (FR γ) s.rest frs) (hH : HR γ w0 s.H s.n w)
    (hcc : (drYZ P sub RO ov s ops k (ancs ops.toList []) (llen ops.toList)).1 = true) :
    SOk P γ w0 cs fid (lone (fram s.top.fn tmps (.code (.region id ops true) :: todo) ds ro) (frs ++ cs) w) (drYZ P sub RO ov s ops k (ancs ops.toList []) (llen ops.toList)).2 := by
  unfold drYZ at hcc ⊢
  split
  · rename_i s' hs'
    simp only [hs'] at hcc
    have := drY_ok (cs := cs) (fid := fid) (id := id) (ov := ov) (s := { s with H := frH s.H }) hm hsub (frz_RO hRO hH) hret h1 h2 hk h4 h5 hfs (frz_HR hH) hcc
    rw [hs'] at this
    obtain ⟨γ', m', g1, g2, fr, frs', w', rfl, g3, g4, g5⟩ := this
    exact ⟨γ', _, g1, g2, fr, frs', w', rfl, g3, g4, frz_back hH g1 g5⟩
  · rename_i hs'
    have e : (match (drY P sub (frRO RO s.H) ov { s with H := frH s.H } ops k (ancs ops.toList []) (llen ops.toList)).2 with
      | .go s' => ((drY P sub (frRO RO s.H) ov { s with H := frH s.H } ops k (ancs ops.toList []) (llen ops.toList)).1, EO.go { s' with H := unH s.H s'.H })
      | _ => drY P sub RO ov s ops k (ancs ops.toList []) (llen ops.toList)) = drY P sub RO ov s ops k (ancs ops.toList []) (llen ops.toList) := by
      split
      · rename_i s' h9; exact absurd h9 (hs' s')
      · rfl
    rw [e] at hcc
    exact drY_ok hm hsub hRO hret h1 h2 hk h4 h5 hfs hH hcc
/-- the next operation, as it gives -/
noncomputable def opG (s : ES) (ops : Array Oper) (o : Oper) (l : List Oper) (k : List IM) (er : ER) : EO := match setD s.top.T s.top.N o.dst (er.val.getD (.v undef)) with
  | some T' => .go { s with top := { s.top with T := T', todo := .ops ops l :: k }, H := er.H, n := er.n }
  | none => .fail
theorem opG_ok {s : ES} {ops : Array Oper} {l : List Oper} {k : List IM} {i : Nat} {rest : List Nat} {todo : List Item} {ds : List Deferred} {ro : Option Nat} {frs : List Frame} {er : ER}
    (hret : s.top.ret = false) (h1 : tmps.size = s.top.N) (h2 : TOk γ s.top.T tmps) (hk : All2 (IR γ) k todo) (h4 : All2 (DR γ) s.top.dfs ds) (h5 : RR γ s.top.round ro) (hfs : All2 (FR γ) s.rest frs)
    (ho : ops[i]? = some o) (hrest : rest.map (ops[·]?) = l.map some) (hw : Region.wanted o (yielded ops tmps) = true) (hd : notDefer o.op = true) (hg : Gives P γ w0 w (execOp (opEval tmps) o) er.val er.H er.n) :
    SOk P γ w0 cs fid (lone (fram s.top.fn tmps (.inRegion ops (i :: rest) :: todo) ds ro) (frs ++ cs) w) (opG s ops o l k er) := by
  unfold opG
  split
  case h_2 => trivial
  rename_i T' hT'
  obtain ⟨γ', w', hle, hH2, hv⟩ := hg
  cases hval : er.val with
  | some a =>
    rw [hval] at hv hT'
    obtain ⟨x, hx, hcx⟩ := hv
    obtain ⟨g1, g2⟩ := setD_ok (h2.mono hle) h1 hT' hcx
    exact ⟨γ', _, hle, .one (st_opValue ho hw hd hx), _, frs, w', rfl, ⟨_, _, ds, ro, by simp [fram, hret, modeOf], g2, g1, .cons (.ops ops l rest hrest) (hk.mono fun _ _ h => h.mono hle), h4.mono fun _ _ h => h.mono hle, h5.mono hle⟩, hfs.mono fun _ _ h => h.mono hle, hH2⟩
  | none =>
    rw [hval] at hv hT'
    obtain ⟨g1, g2⟩ := setD_ok (h2.mono hle) h1 hT' (.v undef)
    exact ⟨γ', _, hle, .one (st_opDone ho hw hd hv), _, frs, w', rfl, ⟨_, _, ds, ro, by simp [fram, hret, modeOf], g2, g1, .cons (.ops ops l rest hrest) (hk.mono fun _ _ h => h.mono hle), h4.mono fun _ _ h => h.mono hle, h5.mono hle⟩, hfs.mono fun _ _ h => h.mono hle, hH2⟩
/-- a run's result: it holds under a condition -/
structure YO where
  c : Bool → Bool     -- the conditions, ahead of more
  o : EO
  bits : List Bool
/-- a decided bool, if the slot holds one -/
structure YP where
  c : Bool
  s : ES
  bits : List Bool
noncomputable def isB (a : Option EV) : Bool := match a with
  | some (.v (.bool _)) => true
  | _ => false
noncomputable def takeB (s : ES) (bits : List Bool) (d : Nat) : YP := Bool.rec ⟨true, s, bits⟩ (List.rec ⟨true, s, []⟩ (fun b bs _ => ⟨(fixB d b s).1, (fixB d b s).2, bs⟩) bits) (isB (s.top.T.get d))
noncomputable def preCode (c : Code) (s : ES) (bits : List Bool) : YP := match c with
  | .cond (.tmp d) _ _ => takeB s bits d
  | _ => ⟨true, s, bits⟩
noncomputable def preOp (ops : Array Oper) (o : Oper) (s : ES) (bits : List Bool) : YP := match o.guard with
  | some (j, _) => match lget ops.toList j with
    | some oj => match oj.dst with
      | some d => takeB s bits d
      | none => ⟨true, s, bits⟩
    | none => ⟨true, s, bits⟩
  | none => ⟨true, s, bits⟩
noncomputable def pre (s : ES) (bits : List Bool) : YP := match s.top.todo with
  | .it (.code c) :: _ => preCode c s bits
  | .ops ops (o :: _) :: _ => preOp ops o s bits
  | _ => ⟨true, s, bits⟩
theorem takeB_ok {s : ES} {bits : List Bool} {d : Nat} {m : Machine} (hm : MR γ w0 cs s m) (hc : (takeB s bits d).c = true) : MR γ w0 cs (takeB s bits d).s m := by
  unfold takeB at hc ⊢
  cases hb : isB (s.top.T.get d) with
  | false => exact hm
  | true =>
    rw [hb] at hc
    cases bits with
    | nil => exact hm
    | cons b bs => exact fixB_ok hm hc
theorem pre_ok {s : ES} {bits : List Bool} {m : Machine} (hm : MR γ w0 cs s m) (hc : (pre s bits).c = true) : MR γ w0 cs (pre s bits).s m := by
  unfold pre at hc ⊢
  split at hc
  · unfold preCode at hc ⊢
    split at hc
    · exact takeB_ok hm hc
    · exact hm
  · unfold preOp at hc ⊢
    split at hc
    · split at hc
      · split at hc
        · exact takeB_ok hm hc
        · exact hm
      · exact hm
    · exact hm
  · exact hm
noncomputable def yOps (P : Program) (FT : Tr FI) (fid : FuncId) (dr : ES → Nat → Array Oper → List IM → EO) (RO : Tr (TypeId × SyC)) (s : ES) (ops : Array Oper) (o : Oper) (l : List Oper) (k : List IM) : Bool × EO := match exGuard s.top.T ops o with
  | some true => match yOp P s.top.T o s.H s.n RO with
    | some r => (r.c, opG s ops o l k r.er)
    | none => (true, exStep P FT fid dr s)
  | _ => (true, exStep P FT fid dr s)
noncomputable def yMain (P : Program) (FT : Tr FI) (fid : FuncId) (dr : ES → Nat → Array Oper → List IM → EO) (sub : Sub) (RO : Tr (TypeId × SyC)) (ov : List (Nat × Bool)) (s : ES) : Bool × EO := match s.top.ret with
  | false => match s.top.todo with
    | .ops ops (o :: l) :: k => yOps P FT fid dr RO s ops o l k
    | .it (.code (.region _ ops true)) :: k => drYZ P sub RO ov s ops k (ancs ops.toList []) (llen ops.toList)
    | _ => (true, exStep P FT fid dr s)
  | true => (true, exStep P FT fid dr s)
theorem yMain_ok (hm0 : P.follows .mixedOrders = true) (hF : FTok P FT) {dr : ES → Nat → Array Oper → List IM → EO} (hdr : DrOk P dr) {sub : Sub} (hsub : LoudOk P sub) {RO : Tr (TypeId × SyC)} (hR : ROk γ w0 RO) {ov : List (Nat × Bool)} {s : ES} {m : Machine} (hm : MR γ w0 cs s m) (hc : (yMain P FT fid dr sub RO ov s).1 = true) : SOk P γ w0 cs fid m (yMain P FT fid dr sub RO ov s).2 := by
  unfold yMain at hc ⊢
  split at hc
  · rename_i hret
    split at hc
    · rename_i ops o l k htodo
      unfold yOps at hc ⊢
      split at hc
      · rename_i hg
        split at hc
        · rename_i r hr
          obtain ⟨fr, frs, w, rfl, ⟨tmps, todo, ds, ro, rfl, h1, h2, h3, h4, h5⟩, hfs, hH⟩ := hm
          rw [htodo] at h3
          cases h3 with
          | @cons _ _ _ todo' hi hk =>
            cases hi with
            | ops _ _ idx hidx =>
              obtain ⟨i, rest, rfl, ho, hrest⟩ := map_cons_inv hidx
              obtain ⟨hd, hgv⟩ := yOp_ok hR h2 hH hr hc
              have hfr : (lone { fn := s.top.fn, tmps := tmps, todo := .inRegion ops (i :: rest) :: todo', defers := ds, mode := modeOf s.top.ret, kind := .normal, roundOf := ro } (frs ++ cs) w) = lone (fram s.top.fn tmps (.inRegion ops (i :: rest) :: todo') ds ro) (frs ++ cs) w := by rw [hret]; rfl
              rw [hfr]
              exact opG_ok hret h1 h2 hk h4 h5 hfs ho hrest (exGuard_ok h2 hg) hd hgv
        · exact exStep_ok hF hdr hm
      · exact exStep_ok hF hdr hm
    · rename_i id ops k htodo
      obtain ⟨fr, frs, w, rfl, ⟨tmps, todo, ds, ro, rfl, h1, h2, h3, h4, h5⟩, hfs, hH⟩ := hm
      rw [htodo] at h3
      cases h3 with
      | @cons _ _ _ todo' hi hk =>
        cases hi with
        | it x =>
          have hfr : (lone { fn := s.top.fn, tmps := tmps, todo := .code (.region id ops true) :: todo', defers := ds, mode := modeOf s.top.ret, kind := .normal, roundOf := ro } (frs ++ cs) w) = lone (fram s.top.fn tmps (.code (.region id ops true) :: todo') ds ro) (frs ++ cs) w := by rw [hret]; rfl
          rw [hfr]
          exact drYZ_ok hm0 hsub hR hret h1 h2 hk h4 h5 hfs hH hc
    · exact exStep_ok hF hdr hm
  · exact exStep_ok hF hdr hm
noncomputable def stepY (P : Program) (FT : Tr FI) (fid : FuncId) (dr : ES → Nat → Array Oper → List IM → EO) (sub : Sub) (RO : Tr (TypeId × SyC)) (s : ES) (bits : List Bool) : YO := YP.rec (fun c s bits => Prod.rec (fun c' e => ⟨fun r => bc c (bc c' r false) false, e, bits⟩) (yMain P FT fid dr sub RO [] s)) (pre s bits)
theorem stepY_ok (hm0 : P.follows .mixedOrders = true) (hF : FTok P FT) {dr : ES → Nat → Array Oper → List IM → EO} (hdr : DrOk P dr) {sub : Sub} (hsub : LoudOk P sub) {RO : Tr (TypeId × SyC)} (hR : ROk γ w0 RO) {s : ES} {bits : List Bool} {m : Machine} (hm : MR γ w0 cs s m) {r : Bool} (hc : (stepY P FT fid dr sub RO s bits).c r = true) : SOk P γ w0 cs fid m (stepY P FT fid dr sub RO s bits).o ∧ r = true := by
  have e : stepY P FT fid dr sub RO s bits = ⟨fun r => bc (pre s bits).c (bc (yMain P FT fid dr sub RO [] (pre s bits).s).1 r false) false, (yMain P FT fid dr sub RO [] (pre s bits).s).2, (pre s bits).bits⟩ := rfl
  rw [e] at hc ⊢
  simp only [bc_eq] at hc
  split at hc
  case isFalse => cases hc
  rename_i h1
  split at hc
  case isFalse => cases hc
  rename_i h2
  exact ⟨yMain_ok hm0 hF hdr hsub hR (pre_ok hm h1) h2, hc⟩
/-! ### runs, until a place -/
/-- what follows a part of a run -/
noncomputable def nextY (ih : ES → List Bool → YO) (p : ES → Bool) (r : YO) : YO := EO.rec (fun s' => Bool.rec ⟨fun b => r.c ((ih s' r.bits).c b), (ih s' r.bits).o, (ih s' r.bits).bits⟩ ⟨r.c, .go s', r.bits⟩ (p s')) (fun a H n => ⟨r.c, .done a H n, r.bits⟩) (fun b H n => ⟨r.c, .doneR b H n, r.bits⟩) ⟨r.c, .fail, r.bits⟩ r.o
theorem nextY_ok {ih : ES → List Bool → YO} {p : ES → Bool} {RO : Tr (TypeId × SyC)} (hih : ∀ (γ : G) (s : ES) (b : List Bool) (m : Machine) (x : Bool), ROk γ w0 RO → MR γ w0 cs s m → (ih s b).c x = true → SOk P γ w0 cs fid m (ih s b).o ∧ x = true) {r : YO} {m : Machine} (hR : ROk γ w0 RO) (h1 : ∀ x, r.c x = true → SOk P γ w0 cs fid m r.o ∧ x = true) {x : Bool} (hc : (nextY ih p r).c x = true) : SOk P γ w0 cs fid m (nextY ih p r).o ∧ x = true := by
  obtain ⟨c, eo, bits⟩ := r
  cases eo with
  | go s' =>
    cases hp : p s' with
    | true =>
      have e : nextY ih p ⟨c, .go s', bits⟩ = ⟨c, .go s', bits⟩ := by unfold nextY; simp only [hp]
      rw [e] at hc ⊢
      exact h1 x hc
    | false =>
      have e : nextY ih p ⟨c, .go s', bits⟩ = ⟨fun b => c ((ih s' bits).c b), (ih s' bits).o, (ih s' bits).bits⟩ := by unfold nextY; simp only [hp]
      rw [e] at hc ⊢
      obtain ⟨h5, h6⟩ := h1 _ hc
      obtain ⟨γ', m', hle, hs, hm⟩ := h5
      obtain ⟨h7, h8⟩ := hih γ' s' bits m' x (hR.mono hle) hm h6
      exact ⟨SOk.trans hle hs h7, h8⟩
  | done a H n => exact h1 x hc
  | doneR b H n => exact h1 x hc
  | fail => exact ⟨trivial, (h1 x hc).2⟩
noncomputable def runY (st : ES → List Bool → YO) (p : ES → Bool) (k : Nat) : ES → List Bool → YO := Nat.rec (fun s b => st s b) (fun _ ih s b => nextY ih p (ih s b)) k
theorem runY_ok {st : ES → List Bool → YO} {p : ES → Bool} {RO : Tr (TypeId × SyC)} (hst : ∀ (γ : G) (s : ES) (b : List Bool) (m : Machine) (x : Bool), ROk γ w0 RO → MR γ w0 cs s m → (st s b).c x = true → SOk P γ w0 cs fid m (st s b).o ∧ x = true) :
    ∀ (k : Nat) (γ : G) (s : ES) (b : List Bool) (m : Machine) (x : Bool), ROk γ w0 RO → MR γ w0 cs s m → (runY st p k s b).c x = true → SOk P γ w0 cs fid m (runY st p k s b).o ∧ x = true
  | 0, γ, s, b, m, x, hR, h, hc => hst γ s b m x hR h hc
  | k + 1, γ, s, b, m, x, hR, h, hc => nextY_ok (p := p) (runY_ok (p := p) hst k) hR (fun x hx => runY_ok (p := p) hst k γ s b m x hR h hx) hc
end Go.Proofs.Ytfmofpdbhkoopaa.Ev
namespace Go.Proofs.Ytfmofpdbhkoopaa.Ev
open Go.RowKit
variable {P : Program} {γ γ' : G} {w0 : Bs} {w : World} {H H' : Tr EK} {n n' : Nat} {T : Tr EV} {cs : List Frame} {fid : FuncId} {FT : Tr FI} {tmps : Array Value} {o : Oper}

def LeadsY (P : Program) (RO : Tr (TypeId × SyC)) (s s' : ES) : Prop := ∀ (γ : G) (w0 : Bs) (cs : List Frame) (m : Machine), (∀ i, ¬ w0.res i) → ROk γ w0 RO → MR γ w0 cs s m → ∃ γ' m', Steps P m m' ∧ ROk γ' w0 RO ∧ MR γ' w0 cs s' m'
theorem LeadsY.trans {RO : Tr (TypeId × SyC)} {a b c : ES} (h : LeadsY P RO a b) (k : LeadsY P RO b c) : LeadsY P RO a c := fun γ w0 cs m hr hR hm => by
  obtain ⟨γ1, m1, h1, h2, h3⟩ := h γ w0 cs m hr hR hm
  obtain ⟨γ2, m2, k1, k2, k3⟩ := k γ1 w0 cs m1 hr h2 h3
  exact ⟨γ2, m2, h1.trans k1, k2, k3⟩
theorem LeadsY.refl {RO : Tr (TypeId × SyC)} (a : ES) : LeadsY P RO a a := fun γ _ _ m _ hR hm => ⟨γ, m, Steps.refl P _, hR, hm⟩
end Go.Proofs.Ytfmofpdbhkoopaa.Ev
namespace Go.Proofs.Ytfmofpdbhkoopaa.Ev
open Go.RowKit
variable {P : Program} {γ γ' : G} {w0 : Bs} {w : World} {H H' : Tr EK} {n n' : Nat} {T : Tr EV} {cs : List Frame} {fid : FuncId} {FT : Tr FI} {tmps : Array Value} {o : Oper}

/-- so many frames beneath, a function on top, ahead of a region and what follows it -/
noncomputable def atS (d f id : Nat) (s : ES) : Bool := bc (Nat.beq (llen s.rest) d) (bc (Nat.beq s.top.fn f) (match s.top.todo with
  | .it (.code (.seq (.region i _ _) _)) :: _ => Nat.beq i id
  | _ => false) false) false
end Go.Proofs.Ytfmofpdbhkoopaa.Ev
namespace Go.Proofs.Ytfmofpdbhkoopaa.Ev
open Go.RowKit
variable {P : Program} {γ γ' : G} {w0 : Bs} {w : World} {H H' : Tr EK} {n n' : Nat} {T : Tr EV} {cs : List Frame} {fid : FuncId} {FT : Tr FI} {tmps : Array Value} {o : Oper}

/-- what a call comes to, by its arguments, what is only read, and the memory -/
abbrev YCT := List EV → Tr (TypeId × SyC) → Tr EK → Nat → Option YR
def YCtOk (P : Program) (g : FuncId) (ct : YCT) : Prop := ∀ (γ : G) (w0 : Bs) (w : World) (H : Tr EK) (n : Nat) (RO : Tr (TypeId × SyC)) (ax : List EV) (us : Array Value) (r : YR), ROk γ w0 RO → HR γ w0 H n w → ECL γ ax us.toList → ct ax RO H n = some r → r.c = true →
  ∃ a, r.er.val = some a ∧ Calls P g us w fun e w' => ∃ γ' x, GLe γ γ' ∧ HR γ' w0 r.er.H r.er.n w' ∧ EC γ' a x ∧ e = .returned x
def CtsOk (P : Program) (ct : Tr YCT) : Prop := ∀ g c, ct.get g = some c → YCtOk P g c
theorem CtsOk.nil (P : Program) : CtsOk P .nil := fun g c h => by cases h
theorem CtsOk.add {ct : Tr YCT} (h : CtsOk P ct) {g : Nat} (hg : Nat.ble g 65535 = true) {c : YCT} (hc : YCtOk P g c) : CtsOk P (ct.put g (some c)) := fun g' c' h' => by
  rw [Tr.get_put hg] at h'
  split at h'
  · rename_i e
    injection h' with h'; subst h'; subst e; exact hc
  · exact h _ _ h'
noncomputable def callY1 (FT : Tr FI) (ct : Tr YCT) (RO : Tr (TypeId × SyC)) (s : ES) (ops : Array Oper) (o : Oper) (l : List Oper) (k : List IM) (c : Call) : Option (Bool × EO) := match c.callee with
  | .value f => match exVals s.top.T c.args.toList with
    | some args => match exCallee s.top.T f args with
      | some (.fn g ax) => match ct.get g with
        | some q => match FT.get g with
          | some _ => match q ax RO s.H s.n with
            | some r => some (r.c, opG s ops o l k r.er)
            | none => none
          | none => none
        | none => none
      | _ => none
    | none => none
  | _ => none
noncomputable def callY (FT : Tr FI) (ct : Tr YCT) (RO : Tr (TypeId × SyC)) (s : ES) : Option (Bool × EO) := match s.top.ret with
  | false => match s.top.todo with
    | .ops ops (o :: l) :: k => match exGuard s.top.T ops o with
      | some true => match o.op with
        | .call c => callY1 FT ct RO s ops o l k c
        | _ => none
      | _ => none
    | _ => none
  | true => none
theorem callY_ok (hF : FTok P FT) {ct : Tr YCT} (hct : CtsOk P ct) {RO : Tr (TypeId × SyC)} (hR : ROk γ w0 RO) {s : ES} {m : Machine} (hm : MR γ w0 cs s m) {r : Bool × EO} (h : callY FT ct RO s = some r) (hc : r.1 = true) : SOk P γ w0 cs fid m r.2 := by
  unfold callY at h
  split at h
  case h_2 => cases h
  rename_i hret
  split at h
  case h_2 => cases h
  rename_i ops o l k htodo
  split at h
  case h_2 => cases h
  rename_i hg
  split at h
  case h_2 => cases h
  rename_i c hop
  unfold callY1 at h
  split at h
  case h_2 => cases h
  rename_i f hf
  split at h
  case h_2 => cases h
  rename_i args hargs
  split at h
  case h_2 => cases h
  rename_i g ax hcal
  split at h
  case h_2 => cases h
  rename_i q hq
  split at h
  case h_2 => cases h
  rename_i fi hfi
  split at h
  case h_2 => cases h
  rename_i r' hr'
  injection h with h; subst h
  have hc : r'.c = true := hc
  obtain ⟨fr, frs, w, rfl, ⟨tmps, todo, ds, ro, rfl, h1, h2, h3, h4, h5⟩, hfs, hH⟩ := hm
  rw [htodo] at h3
  cases h3 with
  | @cons _ _ _ todo' hi hk =>
    cases hi with
    | ops _ _ idx hidx =>
      obtain ⟨i, rest, rfl, ho, hrest⟩ := map_cons_inv hidx
      have hw := exGuard_ok h2 hg
      have hfr : (lone { fn := s.top.fn, tmps := tmps, todo := .inRegion ops (i :: rest) :: todo', defers := ds, mode := modeOf s.top.ret, kind := .normal, roundOf := ro } (frs ++ cs) w) = lone (fram s.top.fn tmps (.inRegion ops (i :: rest) :: todo') ds ro) (frs ++ cs) w := by rw [hret]; rfl
      rw [hfr]
      have hd : notDefer o.op = true := by rw [hop]; rfl
      have hca := exVals_ok h2 hargs
      have hca : ECL γ args (c.args.map (opEval tmps)).toList := by simpa using hca
      have hex : ∀ w, (execOp (opEval tmps) o).run P w = (do let d ← resolve (opEval tmps) { callee := .value f, args := c.args, argTypes := c.argTypes } o.type; invoke d.target d.args : Sem Next).run P w := fun w => by
        obtain ⟨callee, ar, at2⟩ := c
        simp only at hf; subst hf
        unfold execOp; rw [hop]
      rcases run_callee (P := P) h2 (opEval tmps) rfl (xs := c.args) (ats := c.argTypes) (t := o.type) rfl hca hcal with ⟨g', ax', us, e1, e2, e3⟩ | ⟨l', b, m, e1, _⟩
      rotate_left
      · cases e1
      injection e1 with e4 e5; subst e4; subst e5
      obtain ⟨a, ha, hcalls⟩ := hct g q hq γ w0 w s.H s.n RO ax us r' hR hH e2 hr' hc
      show SOk P γ w0 cs fid _ (opG s ops o l k r'.er)
      unfold opG
      split
      case h_2 => trivial
      rename_i T' hT'
      rw [ha] at hT'
      obtain ⟨⟨fn, hfn, hN, hres, hb, hname⟩, _, _⟩ := hF g fi hfi
      obtain ⟨e, w', fr', ⟨γ', x, g1, g2, g3, rfl⟩, g4, g5, g6⟩ := hcalls (fram s.top.fn tmps (.inRegion ops (i :: rest) :: todo') ds ro :: (frs ++ cs))
      have q2 : ∀ w, (callFunc g us).run P w = .ok (.enter g us) w := fun w => by
        have h9 : fn.name ≠ "runtime.NumGoroutine" := by simpa using hname
        simp [callFunc, hfn, h9, hb]
      have hst := Steps.trans g4 (.one (step_leave_returned g6))
      obtain ⟨p1, p2⟩ := setD_ok (h2.mono g1) h1 hT' g3
      rw [finish_op ho] at hst
      refine ⟨γ', _, g1, (Steps.one (st_opEnter ho hw hd (by rw [hex, e3, q2]))).trans hst, _, frs, w', rfl, ⟨_, _, ds, ro, by simp [fram, hret, modeOf], p2, p1, .cons (.ops ops l rest hrest) (hk.mono fun _ _ h => h.mono g1), h4.mono fun _ _ h => h.mono g1, h5.mono g1⟩, hfs.mono fun _ _ h => h.mono g1, g2⟩
/-! ### from a call's own numbers to those of its caller -/
theorem EC.slO_to {i j z len : Nat} {nn : Bool} {x : Value} (h : EC γ (.slO i z len nn) x) (e : γ' j = γ i) : EC γ' (.slO j z len nn) x := by
  cases h with
  | slO _ _ _ _ _ h => exact .slO j z len nn x ⟨h.1, fun q => let ⟨b, m, c, q1, q2⟩ := h.2 q; ⟨b, m, c, by rw [e]; exact q1, q2⟩⟩
theorem EC.v_to {v x : Value} (h : EC γ (.v v) x) : EC γ' (.v v) x := by rw [ec_v h]; exact .v _
/-- a sequence that is read: its type and contents -/
noncomputable def roSrc (RO : Tr (TypeId × SyC)) (H : Tr EK) (i : Nat) : Option (TypeId × SyC) := match RO.get i with
  | some p => some p
  | none => match H.get i with
    | some (.seq ty c _) => some (ty, c)
    | _ => none
theorem SyC.enc_go {c : SyC} {vs : List Value} (h : ECL γ c.enc vs) : ECL γ' c.enc vs := by
  refine ⟨h.1, fun j a x ha hx => ?_⟩
  have := h.2 j a x ha hx
  cases c with
  | ints k l =>
    have ha : (l.map fun x => EV.v (.int k x))[j]? = some a := ha
    rw [List.getElem?_map] at ha
    cases hl2 : l[j]? with
    | none => rw [hl2] at ha; cases ha
    | some y =>
      rw [hl2] at ha
      injection ha with ha; subst ha
      exact this.v_to
/-- a block is known as it is read -/
def Src (γ : G) (w : World) (i : Nat) (ty : TypeId) (c : SyC) : Prop := c.enc = [] ∨ ∃ (b : Pl) (m : Nat) (ca : Array Value) (fz : Nat × Nat), γ i = some (b, m) ∧ b.k < w.heap.size ∧ (∃ ty' : TypeId, w.heap[b.k]? = some (.cells ca ty' fz)) ∧ b.s + m ≤ ca.size ∧ c.enc.length ≤ m ∧ ECL γ c.enc ((ca.toList.drop b.s).take c.enc.length)
theorem roSrc_ok {RO : Tr (TypeId × SyC)} (hR : ROk γ w0 RO) (hH : HR γ w0 H n w) {i : Nat} {ty : TypeId} {c : SyC} (h : roSrc RO H i = some (ty, c)) : Src γ w i ty c := by
  unfold roSrc at h
  split at h
  · rename_i p hg
    injection h with h; subst h
    refine (hR i ty c hg).imp id fun ⟨b, m, ca, fz, e1, e2, ⟨ty', e3⟩, e4, e5, e6⟩ => ?_
    have e7 := (hH.stays.block _ e2).trans e3
    exact ⟨b, m, ca, fz, e1, (Array.getElem?_eq_some_iff.1 e7).1, ⟨ty', e7⟩, e4, e5, e6⟩
  · split at h
    · rename_i ty' c' nn hg
      simp only [Option.some.injEq, Prod.mk.injEq] at h
      obtain ⟨rfl, rfl⟩ := h
      rcases hH.hp0 i _ hg with e | ⟨b, m, e1, _, ca, ⟨fz, e2, _⟩, e3, e4, e5⟩
      · exact .inl e.2
      · exact .inr ⟨b, m, ca, fz, e1, (Array.getElem?_eq_some_iff.1 e2).1, ⟨_, e2⟩, Nat.le_of_eq e3.symm, e4, e5⟩
    · cases h
theorem Src.to {i j : Nat} {ty : TypeId} {c : SyC} (h : Src γ w i ty c) (e : γ' j = γ i) : c.enc = [] ∨ ∃ (b : Pl) (m : Nat) (ca : Array Value) (fz : Nat × Nat), γ' j = some (b, m) ∧ (Bs.of w).F b.k ∧ (∃ ty' : TypeId, (Bs.of w).w.heap[b.k]? = some (.cells ca ty' fz)) ∧ b.s + m ≤ ca.size ∧ c.enc.length ≤ m ∧ ECL γ' c.enc ((ca.toList.drop b.s).take c.enc.length) :=
  h.imp id fun ⟨b, m, ca, fz, e1, e2, e3, e4, e5, e6⟩ => ⟨b, m, ca, fz, e.trans e1, e2, e3, e4, e5, SyC.enc_go e6⟩
/-- the new blocks of a call, behind those that were -/
def G.behind (γ : G) (n : Nat) (γ' : G) : G := fun j => if j < n then γ j else γ' (j - n)
theorem G.behind_new (γ : G) (n : Nat) (γ' : G) (m : Nat) : γ.behind n γ' (n + m) = γ' m := by unfold G.behind; rw [if_neg (by omega)]; congr 1; omega
theorem G.behind_le (hf : ∀ i, n ≤ i → γ i = none) (γ' : G) : GLe γ (γ.behind n γ') := fun i p h => by
  unfold G.behind
  split
  · exact h
  · rw [hf i (by omega)] at h; cases h
abbrev SQ := Nat × TypeId × SyC × Bool
def seqsK (K : List SQ) : List (Nat × EK) := K.map fun p => (p.1, .seq p.2.1 p.2.2.1 p.2.2.2)
noncomputable def putS (n : Nat) (K : List SQ) (H : Tr EK) : Tr EK := List.rec H (fun p _ ih => Tr.put ih (n + p.1) (some (.seq p.2.1 p.2.2.1 p.2.2.2))) K
theorem putS_get {n : Nat} {H : Tr EK} : ∀ {K : List SQ}, (∀ p, p ∈ K → n + p.1 ≤ 65535) → ∀ {j : Nat} {k : EK}, (putS n K H).get j = some k → (∃ p, p ∈ K ∧ j = n + p.1 ∧ k = .seq p.2.1 p.2.2.1 p.2.2.2) ∨ H.get j = some k
  | [], _, j, k, h => .inr h
  | p :: K, hb, j, k, h => by
    have h' : (Tr.put (putS n K H) (n + p.1) (some (.seq p.2.1 p.2.2.1 p.2.2.2))).get j = some k := h
    rw [Tr.get_put (Nat.ble_eq_true_of_le (hb p (by simp)))] at h'
    split at h'
    · injection h' with h'
      exact .inl ⟨p, by simp, by assumption, h'.symm⟩
    · rcases putS_get (fun q hq => hb q (by simp [hq])) h' with ⟨q, h1, h2⟩ | h1
      · exact .inl ⟨q, by simp [h1], h2⟩
      · exact .inr h1
theorem HR.merge (hH : HR γ w0 H n w) {K : List SQ} {w' : World} (h : HR γ' (Bs.of w) (mkT (seqsK K)) n' w') (hK : ∀ p, p ∈ K → (mkT (seqsK K)).get p.1 = some (.seq p.2.1 p.2.2.1 p.2.2.2)) (hb : ∀ p, p ∈ K → n + p.1 ≤ 65535) : HR (γ.behind n γ') w0 (putS n K H) (n + n') w' := by
  have hle := G.behind_le (n := n) (fun i hi => hH.fresh i hi) γ'
  have old : ∀ b : Nat, b < w.heap.size → w'.heap[b]? = w.heap[b]? := fun b hb => h.stays.block b hb
  have hsz : w.heap.size ≤ w'.heap.size := h.stays.size
  have lo : ∀ j p, γ j = some p → (γ.behind n γ') j = some p := fun j p e => hle j p e
  -- each entry: of before, or new
  have cls : ∀ j k, (putS n K H).get j = some k → k.Nil ∨ (∃ b m, γ j = some (b, m) ∧ H.get j = some k ∧ ¬ k.Nil ∧ (γ.behind n γ') j = some (b, m) ∧ b.k < w.heap.size ∧ ¬ w0.F b.k ∧ k.ok (γ.behind n γ') b m w') ∨ (∃ q b m, j = n + q ∧ (mkT (seqsK K)).get q = some k ∧ ¬ k.Nil ∧ γ' q = some (b, m) ∧ (γ.behind n γ') j = some (b, m) ∧ w.heap.size ≤ b.k ∧ k.ok (γ.behind n γ') b m w') := fun j k hk => by
    by_cases hn : k.Nil
    · exact .inl hn
    right
    rcases putS_get hb hk with ⟨p, hp, rfl, rfl⟩ | hk
    · right
      have hg := hK p hp
      obtain ⟨b, m, e1, e2, e3⟩ := h.hp p.1 _ hg hn
      obtain ⟨ca, q1, q2, q3, q4⟩ := e3
      exact ⟨p.1, b, m, rfl, hg, hn, e1, (G.behind_new γ n γ' p.1).trans e1, Nat.le_of_not_lt e2, ca, q1, q2, q3, SyC.enc_go q4⟩
    · left
      obtain ⟨b, m, e1, e2, e3⟩ := hH.hp j k hk hn
      exact ⟨b, m, e1, hk, hn, lo _ _ e1, hH.lt j _ e1, e2, EK.ok_mono hle (old _ (hH.lt j _ e1)) e3⟩
  refine ⟨fun j k hk => ?_, fun j l kj kl hj hl nj nl hne bj bl ej el => ?_, fun j hj => ?_, fun j hj => ?_, fun j p e => ?_, ?_⟩
  · rcases cls j k hk with h1 | ⟨b, m, h1, h2, h3, h4, h5, h6, h7⟩ | ⟨q, b, m, h1, h2, h3, h4, h5, h6, h7⟩
    · exact .inl h1
    · exact .inr ⟨b, m, h4, h6, h7⟩
    · exact .inr ⟨b, m, h5, hH.notF h6, h7⟩
  · rcases cls j kj hj with h1 | ⟨b, m, h1, h2, h3, h4, h5, h6, h7⟩ | ⟨q, b, m, h1, h2, h3, h4, h5, h6, h7⟩
    · exact absurd h1 nj
    · rw [h4] at ej; injection ej with ej; subst ej
      rcases cls l kl hl with g1 | ⟨b', m', g1, g2, g3, g4, g5, g6, g7⟩ | ⟨q', b', m', g1, g2, g3, g4, g5, g6, g7⟩
      · exact absurd g1 nl
      · rw [g4] at el; injection el with el; subst el
        exact hH.inj0 j l kj kl h2 g2 h3 g3 hne _ _ h1 g1
      · rw [g5] at el; injection el with el; subst el
        show b.k ≠ b'.k
        omega
    · rw [h5] at ej; injection ej with ej; subst ej
      rcases cls l kl hl with g1 | ⟨b', m', g1, g2, g3, g4, g5, g6, g7⟩ | ⟨q', b', m', g1, g2, g3, g4, g5, g6, g7⟩
      · exact absurd g1 nl
      · rw [g4] at el; injection el with el; subst el
        show b.k ≠ b'.k
        omega
      · rw [g5] at el; injection el with el; subst el
        exact h.inj0 q q' kj kl h2 g2 h3 g3 (fun e => hne (by omega)) _ _ h4 g4
  · unfold G.behind
    rw [if_neg (by omega)]
    exact h.fresh _ (by omega)
  · obtain ⟨r1, r2⟩ := hH.rsv j hj
    exact ⟨by unfold G.behind; rw [if_pos r2]; exact r1, by omega⟩
  · unfold G.behind at e
    split at e
    · have := hH.lt j p e; omega
    · exact h.lt _ p e
  · refine ⟨h.stays.os.trans hH.stays.os, h.stays.tape.trans hH.stays.tape, h.stays.output.trans hH.stays.output, by have := hH.stays.size; omega, fun k hk => ?_⟩
    have := hH.stays.size
    have := w0.lt k hk
    rw [old k (by omega)]; exact hH.stays.block k hk
end Go.Proofs.Ytfmofpdbhkoopaa.Ev
namespace Go.Proofs.Ytfmofpdbhkoopaa.Ev
open Go.RowKit
variable {P : Program} {γ γ' : G} {w0 : Bs} {w : World} {H H' : Tr EK} {n n' : Nat} {T : Tr EV} {cs : List Frame} {fid : FuncId} {FT : Tr FI} {tmps : Array Value} {o : Oper} {α : Type}

noncomputable def fixC (d : Nat) (b : Bool) (s : ES) : ES := bc (Nat.ble d 65535) { s with top := { s.top with T := s.top.T.put d (some (.v (.bool b))) } } s
/-- both cases of a slot's bool -/
noncomputable def forkC (d : Nat) (s : ES) (κ : ES → α) : α := match s.top.T.get d with
  | some (.v (.bool t)) => Bool.rec (κ (fixC d false s)) (κ (fixC d true s)) t
  | _ => κ s
theorem fixC_ok {d : Nat} {t : Bool} {s : ES} {m : Machine} (hm : MR γ w0 cs s m) (ht : s.top.T.get d = some (.v (.bool t))) : MR γ w0 cs (fixC d t s) m := by
  unfold fixC
  rw [bc_eq]
  split
  · rename_i hd
    obtain ⟨fr, frs, w, rfl, ⟨tmps, todo, ds, ro, rfl, h1, h2, h3, h4, h5⟩, hfs, hH⟩ := hm
    refine ⟨_, frs, w, rfl, ⟨tmps, todo, ds, ro, rfl, h1, fun sl a hs => ?_, h3, h4, h5⟩, hfs, hH⟩
    have hs2 : (s.top.T.put d (some (.v (.bool t)))).get sl = some a := hs
    clear hs
    rw [Tr.get_put hd] at hs2
    split at hs2
    · rename_i e
      subst e
      exact h2 _ a (ht.trans hs2)
    · exact h2 sl a hs2
  · exact hm
theorem forkC_ok {d : Nat} {s : ES} {m : Machine} (hm : MR γ w0 cs s m) (κ : ES → α) : ∃ s', MR γ w0 cs s' m ∧ forkC d s κ = κ s' := by
  unfold forkC
  split
  · rename_i t ht
    cases t with
    | false => exact ⟨_, fixC_ok hm ht, rfl⟩
    | true => exact ⟨_, fixC_ok hm ht, rfl⟩
  · exact ⟨s, hm, rfl⟩
noncomputable def preCodeC (c : Code) (s : ES) (κ : ES → α) : α := match c with
  | .cond (.tmp d) _ _ => forkC d s κ
  | _ => κ s
noncomputable def preOpC (ops : Array Oper) (o : Oper) (s : ES) (κ : ES → α) : α := match o.guard with
  | some (j, _) => match lget ops.toList j with
    | some oj => match oj.dst with
      | some d => forkC d s κ
      | none => κ s
    | none => κ s
  | none => κ s
noncomputable def preC (s : ES) (κ : ES → α) : α := match s.top.todo with
  | .it (.code c) :: _ => preCodeC c s κ
  | .ops ops (o :: _) :: _ => preOpC ops o s κ
  | _ => κ s
theorem preC_ok {s : ES} {m : Machine} (hm : MR γ w0 cs s m) (κ : ES → α) : ∃ s', MR γ w0 cs s' m ∧ preC s κ = κ s' := by
  unfold preC
  split
  · unfold preCodeC
    split
    · exact forkC_ok hm κ
    · exact ⟨s, hm, rfl⟩
  · unfold preOpC
    split
    · split
      · split
        · exact forkC_ok hm κ
        · exact ⟨s, hm, rfl⟩
      · exact ⟨s, hm, rfl⟩
    · exact ⟨s, hm, rfl⟩
  · exact ⟨s, hm, rfl⟩
noncomputable def mainC (r : Bool × EO) (κ : EO → α) : α := Prod.rec (fun c e => bc c (κ e) (κ .fail)) r
/-! ### guards of regions that draw: both cases, ahead of the region -/
noncomputable def memG (j : Nat) (l : List Nat) : Bool := List.rec false (fun k _ ih => bc (Nat.beq k j) true ih) l
noncomputable def guardsOf (ops : List Oper) : List Nat := List.rec [] (fun o _ ih => match o.guard with
  | some (j, _) => bc (memG j ih) ih (j :: ih)
  | none => ih) ops
noncomputable def boolAt (P : Program) (sub : Sub) (RO : Tr (TypeId × SyC)) (s : ES) (ops : Array Oper) (A : List Nat) (m : Nat) (ov : List (Nat × Bool)) (j : Nat) : Option (Nat × Bool) := match lget ops.toList j with
  | some oj => match oj.dst with
    | some d => match canonF P sub (qY P (frRO RO s.H) ov) ops A s.n s.top.N (ops.toList.take (Nat.succ j)) 0 [] [] ⟨frH s.H, Nat.add s.n m, 0⟩ s.top.T [] with
      | some c => match c.T.get d with
        | some (.v (.bool t)) => some (d, t)
        | _ => none
      | none => match canonF P sub (qY P RO ov) ops A s.n s.top.N (ops.toList.take (Nat.succ j)) 0 [] [] ⟨s.H, Nat.add s.n m, 0⟩ s.top.T [] with
        | some c => match c.T.get d with
          | some (.v (.bool t)) => some (d, t)
          | _ => none
        | none => none
    | none => none
  | none => none
noncomputable def forkG (P : Program) (sub : Sub) (RO : Tr (TypeId × SyC)) (s : ES) (ops : Array Oper) (A : List Nat) (m : Nat) (κ : List (Nat × Bool) → α) (G : List Nat) : List (Nat × Bool) → α := List.rec (fun ov => κ ov) (fun j _ ih ov => match boolAt P sub RO s ops A m ov j with
  | some (d, t) => Bool.rec (ih (ov ++ [(d, false)])) (ih (ov ++ [(d, true)])) t
  | none => ih ov) G
theorem forkG_ok {sub : Sub} {RO : Tr (TypeId × SyC)} {s : ES} {ops : Array Oper} {A : List Nat} {m : Nat} (κ : List (Nat × Bool) → α) : ∀ (G : List Nat) (ov : List (Nat × Bool)), ∃ ov', forkG P sub RO s ops A m κ G ov = κ ov'
  | [], ov => ⟨ov, rfl⟩
  | j :: G, ov => by
    have e : forkG P sub RO s ops A m κ (j :: G) ov = (match boolAt P sub RO s ops A m ov j with
      | some (d, t) => Bool.rec (forkG P sub RO s ops A m κ G (ov ++ [(d, false)])) (forkG P sub RO s ops A m κ G (ov ++ [(d, true)])) t
      | none => forkG P sub RO s ops A m κ G ov) := rfl
    rw [e]
    split
    · rename_i d t ht
      cases t with
      | false => exact forkG_ok κ G _
      | true => exact forkG_ok κ G _
    · exact forkG_ok κ G _
noncomputable def forkR (P : Program) (sub : Sub) (RO : Tr (TypeId × SyC)) (s : ES) (κ : List (Nat × Bool) → α) : α := match s.top.todo with
  | .it (.code (.region _ ops true)) :: _ => forkG P sub RO s ops (ancs ops.toList []) (llen ops.toList) κ (guardsOf ops.toList) []
  | _ => κ []
theorem forkR_ok {sub : Sub} {RO : Tr (TypeId × SyC)} {s : ES} (κ : List (Nat × Bool) → α) : ∃ ov, forkR P sub RO s κ = κ ov := by
  unfold forkR
  split
  · exact forkG_ok κ _ _
  · exact ⟨[], rfl⟩
noncomputable def callK (x : Option (Bool × EO)) (κ : EO → α) (y : α) : α := match x with
  | some (c, e) => bc c (κ e) (κ .fail)
  | none => y
noncomputable def stepC (P : Program) (FT : Tr FI) (fid : FuncId) (dr : ES → Nat → Array Oper → List IM → EO) (sub : Sub) (ct : Tr YCT) (RO : Tr (TypeId × SyC)) (s : ES) (κ : EO → α) : α := preC s (fun s' => callK (callY FT ct RO s') κ (forkR P sub RO s' (fun ov => mainC (yMain P FT fid dr sub RO ov s') κ)))
theorem stepC_ok (hm0 : P.follows .mixedOrders = true) (hF : FTok P FT) {dr : ES → Nat → Array Oper → List IM → EO} (hdr : DrOk P dr) {sub : Sub} (hsub : LoudOk P sub) {ct : Tr YCT} (hct : CtsOk P ct) {RO : Tr (TypeId × SyC)} (hR : ROk γ w0 RO) {s : ES} {m : Machine} (hm : MR γ w0 cs s m) (κ : EO → α) : ∃ e, stepC P FT fid dr sub ct RO s κ = κ e ∧ SOk P γ w0 cs fid m e := by
  unfold stepC
  obtain ⟨s', hm', e1⟩ := preC_ok hm (fun s' => callK (callY FT ct RO s') κ (forkR P sub RO s' (fun ov => mainC (yMain P FT fid dr sub RO ov s') κ)))
  rw [e1]
  unfold callK
  split
  · rename_i c e hce
    cases c with
    | false => exact ⟨.fail, rfl, trivial⟩
    | true => exact ⟨e, rfl, callY_ok hF hct hR hm' hce rfl⟩
  obtain ⟨ov, e2⟩ := forkR_ok (P := P) (sub := sub) (RO := RO) (s := s') (fun ov => mainC (yMain P FT fid dr sub RO ov s') κ)
  rw [e2]
  cases hy : yMain P FT fid dr sub RO ov s' with
  | mk c e =>
    show ∃ e', bc c (κ e) (κ .fail) = κ e' ∧ _
    cases c with
    | false => exact ⟨.fail, rfl, trivial⟩
    | true =>
      refine ⟨e, rfl, ?_⟩
      have := yMain_ok (fid := fid) hm0 hF hdr hsub hR hm' (by rw [hy])
      rw [hy] at this
      exact this
/-- a run, until a place or its end -/
noncomputable def runC (st : ES → (EO → α) → α) (p : ES → Bool) (κ : EO → α) (k : Nat) : ES → α := Nat.rec (fun _ => κ .fail) (fun _ ih s => st s (fun e => EO.rec (fun s' => Bool.rec (ih s') (κ (.go s')) (p s')) (fun a H n => κ (.done a H n)) (fun b H n => κ (.doneR b H n)) (κ .fail) e)) k
theorem runC_ok {st : ES → (EO → α) → α} {p : ES → Bool} {κ : EO → α} {RO : Tr (TypeId × SyC)} (hst : ∀ (γ : G) (s : ES) (m : Machine) (κ' : EO → α), ROk γ w0 RO → MR γ w0 cs s m → ∃ e, st s κ' = κ' e ∧ SOk P γ w0 cs fid m e) :
    ∀ (k : Nat) (γ : G) (s : ES) (m : Machine), ROk γ w0 RO → MR γ w0 cs s m → ∃ e, runC st p κ k s = κ e ∧ SOk P γ w0 cs fid m e
  | 0, γ, s, m, _, _ => ⟨.fail, rfl, trivial⟩
  | k + 1, γ, s, m, hR, hm => by
    obtain ⟨e, h1, h2⟩ := hst γ s m (fun e => EO.rec (fun s' => Bool.rec (runC st p κ k s') (κ (.go s')) (p s')) (fun a H n => κ (.done a H n)) (fun b H n => κ (.doneR b H n)) (κ .fail) e) hR hm
    have fin : ∃ e', (EO.rec (fun s' => Bool.rec (runC st p κ k s') (κ (.go s')) (p s')) (fun a H n => κ (.done a H n)) (fun b H n => κ (.doneR b H n)) (κ .fail) e : α) = κ e' ∧ SOk P γ w0 cs fid m e' := by
      cases e with
      | go s' =>
        show ∃ e', (Bool.rec (runC st p κ k s') (κ (.go s')) (p s') : α) = κ e' ∧ _
        cases hp : p s' with
        | true => exact ⟨.go s', rfl, h2⟩
        | false =>
          obtain ⟨γ', m', hle, hs, hm'⟩ := h2
          obtain ⟨e2, q1, q2⟩ := runC_ok hst k γ' s' m' (hR.mono hle) hm'
          exact ⟨e2, q1, SOk.trans hle hs q2⟩
      | done a H n => exact ⟨_, rfl, h2⟩
      | doneR b H n => exact ⟨_, rfl, h2⟩
      | fail => exact ⟨_, rfl, h2⟩
    obtain ⟨e', q1, q2⟩ := fin
    exact ⟨e', h1.trans q1, q2⟩
end Go.Proofs.Ytfmofpdbhkoopaa.Ev
namespace Go.Proofs.Ytfmofpdbhkoopaa.Ev
open Go.RowKit
variable {P : Program} {γ γ' : G} {w0 : Bs} {w : World} {H H' : Tr EK} {n n' : Nat} {T : Tr EV} {cs : List Frame} {fid : FuncId} {FT : Tr FI} {tmps : Array Value} {o : Oper} {α : Type}

/-! ### numbers: old to new -/
noncomputable def lookN (ρ : List (Nat × Nat)) (i : Nat) : Option Nat := List.rec none (fun p _ ih => bc (Nat.beq p.1 i) (some p.2) ih) ρ
noncomputable def invN (ρ : List (Nat × Nat)) (j : Nat) : Option Nat := List.rec none (fun p _ ih => bc (Nat.beq p.2 j) (some p.1) ih) ρ
theorem lookN_mem {i j : Nat} : ∀ {ρ : List (Nat × Nat)}, lookN ρ i = some j → (i, j) ∈ ρ
  | [], h => by cases h
  | p :: ρ, h => by
    have h' : bc (Nat.beq p.1 i) (some p.2) (lookN ρ i) = some j := h
    rw [bc_eq] at h'
    split at h'
    · rename_i e
      have e := Nat.eq_of_beq_eq_true e
      injection h' with h'; subst e; subst h'; simp
    · simp [lookN_mem h']
theorem invN_mem {i j : Nat} : ∀ {ρ : List (Nat × Nat)}, invN ρ j = some i → (i, j) ∈ ρ
  | [], h => by cases h
  | p :: ρ, h => by
    have h' : bc (Nat.beq p.2 j) (some p.1) (invN ρ j) = some i := h
    rw [bc_eq] at h'
    split at h'
    · rename_i e
      have e := Nat.eq_of_beq_eq_true e
      injection h' with h'; subst e; subst h'; simp
    · simp [invN_mem h']
noncomputable def isSomeN (x : Option Nat) (i : Nat) : Bool := match x with
  | some j => Nat.beq i j
  | none => false
theorem isSomeN_ok {x : Option Nat} {i : Nat} (h : isSomeN x i = true) : x = some i := by
  unfold isSomeN at h
  split at h
  · rw [Nat.eq_of_beq_eq_true h]
  · cases h
/-- one to one, and below N -/
noncomputable def okN (ρ : List (Nat × Nat)) (N : Nat) : Bool := allL (fun p => bc (isSomeN (invN ρ p.2) p.1) (bc (isSomeN (lookN ρ p.1) p.2) (Nat.blt p.2 N) false) false) ρ
theorem okN_ok {ρ : List (Nat × Nat)} {N : Nat} (h : okN ρ N = true) {i j : Nat} (hm : (i, j) ∈ ρ) : invN ρ j = some i ∧ lookN ρ i = some j ∧ j < N := by
  have := allL_ok h (i, j) hm
  rw [bc_eq, bc_eq] at this
  split at this
  case isFalse => cases this
  rename_i h1
  split at this
  case isFalse => cases this
  rename_i h2
  exact ⟨isSomeN_ok h1, isSomeN_ok h2, blt_lt this⟩
noncomputable def G.ren (γ : G) (ρ : List (Nat × Nat)) : G := fun j => (invN ρ j).bind γ
theorem G.ren_look {ρ : List (Nat × Nat)} {N : Nat} (hρ : okN ρ N = true) {i j : Nat} (h : lookN ρ i = some j) : γ.ren ρ j = γ i := by
  unfold G.ren
  rw [(okN_ok hρ (lookN_mem h)).1]; rfl
theorem G.ren_some {ρ : List (Nat × Nat)} {j : Nat} {p : Pl × Nat} (h : γ.ren ρ j = some p) : ∃ i, (i, j) ∈ ρ ∧ γ i = some p := by
  unfold G.ren at h
  cases hi : invN ρ j with
  | none => rw [hi] at h; cases h
  | some i => rw [hi] at h; exact ⟨i, invN_mem hi, h⟩
/-! ### values with new numbers -/
noncomputable def mapO {β : Type} (f : EV → Option β) (l : List EV) : Option (List β) := List.rec (some []) (fun a _ ih => match f a with
  | some x => match ih with
    | some r => some (x :: r)
    | none => none
  | none => none) l
theorem mapO_ok {β : Type} {f : EV → Option β} : ∀ {l : List EV} {r : List β}, mapO f l = some r → r.length = l.length ∧ ∀ (j : Nat) (b : β), r[j]? = some b → ∃ a, l[j]? = some a ∧ f a = some b
  | [], r, h => by
    have h' : some [] = some r := h
    injection h' with h'; subst h'
    exact ⟨rfl, fun j b hb => by simp at hb⟩
  | a :: l, r, h => by
    have h' : (match f a with
      | some x => match mapO f l with
        | some r => some (x :: r)
        | none => none
      | none => none) = some r := h
    split at h'
    case h_2 => cases h'
    rename_i x hx
    split at h'
    case h_2 => cases h'
    rename_i r' hr
    injection h' with h'; subst h'
    obtain ⟨h1, h2⟩ := mapO_ok hr
    refine ⟨by simp [h1], fun j b hb => ?_⟩
    cases j with
    | zero => simp at hb; subst hb; exact ⟨a, rfl, hx⟩
    | succ j => obtain ⟨c, h3, h4⟩ := h2 j b (by simpa using hb); exact ⟨c, by simpa using h3, h4⟩
noncomputable def withN (x : Option Nat) (f : Nat → EV) : Option EV := match x with
  | some j => some (f j)
  | none => none
noncomputable def withL (x : Option (List EV)) (f : List EV → EV) : Option EV := match x with
  | some l => some (f l)
  | none => none
noncomputable def renE (ρ : List (Nat × Nat)) (k : Nat) : EV → Option EV := Nat.rec (fun _ => none) (fun _ ih a => match a with
  | .v x => some (.v x)
  | .ptr i off => withN (lookN ρ i) fun j => .ptr j off
  | .sl i z off len cap => withN (lookN ρ i) fun j => .sl j z off len cap
  | .slE i z off => withN (lookN ρ i) fun j => .slE j z off
  | .slO i z len nn => withN (lookN ρ i) fun j => .slO j z len nn
  | .agg l => withL (mapO ih l) .agg
  | .tup l => withL (mapO ih l) .tup
  | .fn f l => withL (mapO ih l) (.fn f)
  | .mt f l => withL (mapO ih l) (.mt f)
  | .yl i => withN (lookN ρ i) .yl
  | .mp i => withN (lookN ρ i) .mp) k
theorem withN_ok {x : Option Nat} {f : Nat → EV} {a : EV} (h : withN x f = some a) : ∃ j, x = some j ∧ a = f j := by
  unfold withN at h
  split at h
  · injection h with h; exact ⟨_, rfl, h.symm⟩
  · cases h
theorem withL_ok {x : Option (List EV)} {f : List EV → EV} {a : EV} (h : withL x f = some a) : ∃ l, x = some l ∧ a = f l := by
  unfold withL at h
  split at h
  · injection h with h; exact ⟨_, rfl, h.symm⟩
  · cases h
theorem EC.ren {ρ : List (Nat × Nat)} {N : Nat} (hρ : okN ρ N = true) : ∀ {k : Nat} {a a' : EV} {x : Value}, renE ρ k a = some a' → EC γ a x → EC (γ.ren ρ) a' x
  | 0, a, a', x, h, _ => by cases h
  | k + 1, a, a', x, h, hc => by
    have key : ∀ (l r : List EV) (vs : List Value), mapO (renE ρ k) l = some r → l.length = vs.length → (∀ (j : Nat) (a : EV) (x : Value), l[j]? = some a → vs[j]? = some x → EC γ a x) → r.length = vs.length ∧ ∀ (j : Nat) (a : EV) (x : Value), r[j]? = some a → vs[j]? = some x → EC (γ.ren ρ) a x := fun l r vs hm hl hh => by
      obtain ⟨h1, h2⟩ := mapO_ok hm
      refine ⟨by omega, fun j a x ha hx => ?_⟩
      obtain ⟨b, h3, h4⟩ := h2 j a ha
      exact EC.ren hρ h4 (hh j b x h3 hx)
    cases hc with
    | v x => injection (show some (EV.v x) = some a' from h) with h; subst h; exact .v x
    | ptr i off b n hi =>
      obtain ⟨j, h1, rfl⟩ := withN_ok (show withN (lookN ρ i) (fun j => .ptr j off) = some a' from h)
      exact .ptr j off b n (by rw [G.ren_look hρ h1]; exact hi)
    | sl i z off len cap b n c hi hl hm hn hcc hu =>
      obtain ⟨j, h1, rfl⟩ := withN_ok (show withN (lookN ρ i) (fun j => .sl j z off len cap) = some a' from h)
      exact .sl j z off len cap b n c (by rw [G.ren_look hρ h1]; exact hi) hl hm hn hcc hu
    | slE i z off b n c off' hi hm hn =>
      obtain ⟨j, h1, rfl⟩ := withN_ok (show withN (lookN ρ i) (fun j => .slE j z off) = some a' from h)
      exact .slE j z off b n c off' (by rw [G.ren_look hρ h1]; exact hi) hm hn
    | slO i z len nn x hs =>
      obtain ⟨j, h1, rfl⟩ := withN_ok (show withN (lookN ρ i) (fun j => .slO j z len nn) = some a' from h)
      exact .slO j z len nn x ⟨hs.1, fun e => let ⟨b, m, c, q1, q2⟩ := hs.2 e; ⟨b, m, c, by rw [G.ren_look hρ h1]; exact q1, q2⟩⟩
    | agg l vs hl hh =>
      obtain ⟨r, h1, rfl⟩ := withL_ok (show withL (mapO (renE ρ k) l) .agg = some a' from h)
      obtain ⟨q1, q2⟩ := key l r vs h1 hl hh
      exact .agg r vs q1 q2
    | tup l vs hl hh =>
      obtain ⟨r, h1, rfl⟩ := withL_ok (show withL (mapO (renE ρ k) l) .tup = some a' from h)
      obtain ⟨q1, q2⟩ := key l r vs h1 hl hh
      exact .tup r vs q1 q2
    | fn f l vs hl hh =>
      obtain ⟨r, h1, rfl⟩ := withL_ok (show withL (mapO (renE ρ k) l) (.fn f) = some a' from h)
      obtain ⟨q1, q2⟩ := key l r vs h1 hl hh
      exact .fn f r vs q1 q2
    | mt f l vs hl hh =>
      obtain ⟨r, h1, rfl⟩ := withL_ok (show withL (mapO (renE ρ k) l) (.mt f) = some a' from h)
      obtain ⟨q1, q2⟩ := key l r vs h1 hl hh
      exact .mt f r vs q1 q2
    | yl i b n hi =>
      obtain ⟨j, h1, rfl⟩ := withN_ok (show withN (lookN ρ i) .yl = some a' from h)
      exact .yl j b n (by rw [G.ren_look hρ h1]; exact hi)
    | mp i b n hi =>
      obtain ⟨j, h1, rfl⟩ := withN_ok (show withN (lookN ρ i) .mp = some a' from h)
      exact .mp j b n (by rw [G.ren_look hρ h1]; exact hi)
/-- a slot's value; nil may become a sequence (a number, the size of an element) -/
noncomputable def renS (ρ : List (Nat × Nat)) (c : Option (Nat × Nat)) (a : EV) : Option EV := match c with
  | none => renE ρ 8 a
  | some (j, z) => match a with
    | .v (.slice none 0 0) => some (.slO j z 0 false)
    | a => renE ρ 8 a
theorem renS_ok {ρ : List (Nat × Nat)} {N : Nat} (hρ : okN ρ N = true) {c : Option (Nat × Nat)} {a a' : EV} {x : Value} (h : renS ρ c a = some a') (hc : EC γ a x) : EC (γ.ren ρ) a' x := by
  unfold renS at h
  split at h
  · exact EC.ren hρ h hc
  · split at h
    · injection h with h; subst h
      rw [ec_v hc]
      exact .slO _ _ 0 false _ ⟨fun _ => ⟨rfl, rfl⟩, fun e => by cases e⟩
    · exact EC.ren hρ h hc
abbrev SL := List (Nat × Option (Nat × Nat))
noncomputable def pickS (ρ : List (Nat × Nat)) (T : Tr EV) (l : SL) : Option (List (Nat × EV)) := List.rec (some []) (fun q _ ih => match T.get q.1 with
  | some a => match renS ρ q.2 a with
    | some a' => match ih with
      | some r => some ((q.1, a') :: r)
      | none => none
    | none => none
  | none => none) l
theorem pickS_ok {ρ : List (Nat × Nat)} {T : Tr EV} : ∀ {l : SL} {r : List (Nat × EV)}, pickS ρ T l = some r → ∀ s a', (s, a') ∈ r → ∃ c a, T.get s = some a ∧ renS ρ c a = some a'
  | [], r, h, s, a', hm => by
    have h' : some [] = some r := h
    injection h' with h'; subst h'; simp at hm
  | q :: l, r, h, s, a', hm => by
    have h' : (match T.get q.1 with
      | some a => match renS ρ q.2 a with
        | some a' => match pickS ρ T l with
          | some r => some ((q.1, a') :: r)
          | none => none
        | none => none
      | none => none) = some r := h
    split at h'
    case h_2 => cases h'
    rename_i a ha
    split at h'
    case h_2 => cases h'
    rename_i a2 ha2
    split at h'
    case h_2 => cases h'
    rename_i r' hr
    injection h' with h'; subst h'
    rcases List.mem_cons.1 hm with e | hm
    · injection e with e1 e2; subst e1; subst e2; exact ⟨q.2, a, ha, ha2⟩
    · exact pickS_ok hr s a' hm
noncomputable def renK (ρ : List (Nat × Nat)) (lk : List Nat) (k : EK) : Option EK := match k with
  | .seq ty c nn => some (.seq ty c nn)
  | .cells ty l full => match mapO (renE ρ 8) l with
    | some r => some (.cells ty r full)
    | none => none
  | .loop st pend fn N T ps ax bd dd => match pickS ρ T (lk.map fun s => (s, none)) with
    | some r => match lookN ρ dd with
      | some d => some (.loop st pend fn N (mkT r) ps ax bd d)
      | none => none
    | none => none
  | .dfr op => some (.dfr op)
  | _ => none
theorem SyC.enc_any {c : SyC} {γ γ' : G} {vs : List Value} (h : ECL γ c.enc vs) : ECL γ' c.enc vs := by
  refine ⟨h.1, fun j a x ha hx => ?_⟩
  have := h.2 j a x ha hx
  cases c with
  | ints k l =>
    have ha : (l.map fun x => EV.v (.int k x))[j]? = some a := ha
    rw [List.getElem?_map] at ha
    cases hl2 : l[j]? with
    | none => rw [hl2] at ha; cases ha
    | some y =>
      rw [hl2] at ha
      injection ha with ha; subst ha
      rw [ec_v this]
      exact .v _
theorem renK_ok {ρ : List (Nat × Nat)} {N : Nat} (hρ : okN ρ N = true) {lk : List Nat} {k k' : EK} {b : Pl} {m : Nat} (h : renK ρ lk k = some k') (hk : k.ok γ b m w) : k'.ok (γ.ren ρ) b m w := by
  unfold renK at h
  split at h
  · injection h with h; subst h
    obtain ⟨c, h1, h2, h3, h4⟩ := hk
    exact ⟨c, h1, h2, h3, SyC.enc_any h4⟩
  · rename_i ty l full
    split at h
    case h_2 => cases h
    rename_i r hr
    injection h with h; subst h
    obtain ⟨c, h1, h2, h3, h4, h5⟩ := hk
    obtain ⟨q1, q2⟩ := mapO_ok hr
    refine ⟨c, h1, h2, by omega, fun e => by rw [q1]; exact h4 e, ?_⟩
    rw [q1]
    refine ⟨by rw [q1]; exact h5.1, fun j a x ha hx => ?_⟩
    obtain ⟨a0, h6, h7⟩ := q2 j a ha
    exact EC.ren hρ h7 (h5.2 j a0 x h6 hx)
  · split at h
    case h_2 => cases h
    rename_i r hr
    split at h
    case h_2 => cases h
    rename_i d hd
    injection h with h; subst h
    obtain ⟨tmps, dd, m2, h1, h2, h3, h4⟩ := hk
    refine ⟨tmps, dd, m2, h1, h2, fun sl a hs => ?_, by rw [G.ren_look hρ hd]; exact h4⟩
    obtain ⟨c, a0, q1, q2⟩ := pickS_ok hr sl a (mkT_get hs)
    obtain ⟨x, hx, hc⟩ := h3 sl a0 q1
    exact ⟨x, hx, renS_ok hρ q2 hc⟩
  · injection h with h; subst h; exact hk
  · cases h
theorem renK_nil {ρ : List (Nat × Nat)} {lk : List Nat} {k k' : EK} (h : renK ρ lk k = some k') : k'.Nil ↔ k.Nil := by
  unfold renK at h
  split at h
  · injection h with h; subst h; exact Iff.rfl
  · split at h
    · injection h with h; subst h; exact Iff.rfl
    · cases h
  · split at h
    · split at h
      · injection h with h; subst h; exact Iff.rfl
      · cases h
    · cases h
  · injection h with h; subst h; exact Iff.rfl
  · cases h
/-! ### what is to be done -/
noncomputable def renI (ρ : List (Nat × Nat)) (x : IM) : Option IM := match x with
  | .it x => some (.it x)
  | .ops a l => some (.ops a l)
  | .inRF i => match lookN ρ i with
    | some j => some (.inRF j)
    | none => none
  | .endRF i => match lookN ρ i with
    | some j => some (.endRF j)
    | none => none
theorem renI_ok {ρ : List (Nat × Nat)} {N : Nat} (hρ : okN ρ N = true) {x y : IM} {i : Item} (h : renI ρ x = some y) (hi : IR γ x i) : IR (γ.ren ρ) y i := by
  cases hi with
  | it i => injection (show some (IM.it i) = some y from h) with h; subst h; exact .it _
  | ops a l idx hh => injection (show some (IM.ops a l) = some y from h) with h; subst h; exact .ops _ _ idx hh
  | inRF i b m hh =>
    unfold renI at h
    simp only at h
    split at h
    case h_2 => cases h
    rename_i j hj
    injection h with h; subst h
    exact .inRF j b m (by rw [G.ren_look hρ hj]; exact hh)
  | endRF i b m hh =>
    unfold renI at h
    simp only at h
    split at h
    case h_2 => cases h
    rename_i j hj
    injection h with h; subst h
    exact .endRF j b m (by rw [G.ren_look hρ hj]; exact hh)
noncomputable def renD (ρ : List (Nat × Nat)) (x : DE) : Option DE := match x with
  | .mk i => match lookN ρ i with
    | some j => some (.mk j)
    | none => none
  | .cl g k => some (.cl g k)
theorem renD_ok {ρ : List (Nat × Nat)} {N : Nat} (hρ : okN ρ N = true) {x y : DE} {i : Deferred} (h : renD ρ x = some y) (hi : DR γ x i) : DR (γ.ren ρ) y i := by
  cases hi with
  | mk i b m hh =>
    unfold renD at h
    simp only at h
    split at h
    case h_2 => cases h
    rename_i j hj
    injection h with h; subst h
    exact .mk j b m (by rw [G.ren_look hρ hj]; exact hh)
  | cl g k cap args hh => injection (show some (DE.cl g k) = some y from h) with h; subst h; exact .cl g k cap args hh
noncomputable def mapL {α β : Type} (f : α → Option β) (l : List α) : Option (List β) := List.rec (some []) (fun a _ ih => match f a with
  | some x => match ih with
    | some r => some (x :: r)
    | none => none
  | none => none) l
theorem mapL_ok {α β δ : Type} {f : α → Option β} {R : α → δ → Prop} {S : β → δ → Prop} (hf : ∀ a b d, f a = some b → R a d → S b d) : ∀ {l : List α} {r : List β} {m : List δ}, mapL f l = some r → All2 R l m → All2 S r m
  | [], r, m, h, hr => by
    have h' : some [] = some r := h
    injection h' with h'; subst h'
    cases hr; exact .nil
  | a :: l, r, m, h, hr => by
    have h' : (match f a with
      | some x => match mapL f l with
        | some r => some (x :: r)
        | none => none
      | none => none) = some r := h
    split at h'
    case h_2 => cases h'
    rename_i x hx
    split at h'
    case h_2 => cases h'
    rename_i r' hr'
    injection h' with h'; subst h'
    cases hr with
    | cons h1 h2 => exact .cons (hf _ _ _ hx h1) (mapL_ok hf hr' h2)
noncomputable def renR (ρ : List (Nat × Nat)) (x : Option Nat) : Option (Option Nat) := match x with
  | none => some none
  | some i => match lookN ρ i with
    | some j => some (some j)
    | none => none
theorem renR_ok {ρ : List (Nat × Nat)} {N : Nat} (hρ : okN ρ N = true) {x y ro : Option Nat} (h : renR ρ x = some y) (hr : RR γ x ro) : RR (γ.ren ρ) y ro := by
  unfold renR at h
  split at h
  · injection h with h; subst h; exact hr
  · split at h
    case h_2 => cases h
    rename_i j hj
    injection h with h; subst h
    obtain ⟨b, m, h1, h2⟩ := hr
    exact ⟨b, m, by rw [G.ren_look hρ hj]; exact h1, h2⟩
noncomputable def normFR (ρ : List (Nat × Nat)) (l : SL) (f : EF) : Option FS := match f.ret with
  | false => match mapL (renD ρ) f.dfs with
    | some ds => match renR ρ f.round with
      | some ro => match mapL (renI ρ) f.todo with
        | some td => match pickS ρ f.T l with
          | some T => some ⟨f.fn, f.N, T, td, ds, ro⟩
          | none => none
        | none => none
      | none => none
    | none => none
  | _ => none
noncomputable def normFsR (ρ : List (Nat × Nat)) (ls : List SL) : List EF → Option (List FS) := List.rec (fun fs => match fs with
  | [] => some []
  | _ => none) (fun l _ ih fs => match fs with
  | f :: fs => match normFR ρ l f with
    | some a => match ih fs with
      | some r => some (a :: r)
      | none => none
    | none => none
  | [] => none) ls
/-- the blocks that are kept, with their new numbers -/
noncomputable def pickK (ρ : List (Nat × Nat)) (H : Tr EK) (lk : List Nat) (l : List (Nat × Nat)) : Option (List (Nat × EK)) := List.rec (some []) (fun p _ ih => match H.get p.1 with
  | some k => match renK ρ lk k with
    | some k' => match ih with
      | some r => some ((p.2, k') :: r)
      | none => none
    | none => none
  | none => none) l
theorem pickK_ok {ρ : List (Nat × Nat)} {H : Tr EK} {lk : List Nat} : ∀ {l : List (Nat × Nat)} {r : List (Nat × EK)}, pickK ρ H lk l = some r → ∀ j k', (j, k') ∈ r → ∃ i k, (i, j) ∈ l ∧ H.get i = some k ∧ renK ρ lk k = some k'
  | [], r, h, j, k', hm => by
    have h' : some [] = some r := h
    injection h' with h'; subst h'; simp at hm
  | q :: l, r, h, j, k', hm => by
    have h' : (match H.get q.1 with
      | some k => match renK ρ lk k with
        | some k' => match pickK ρ H lk l with
          | some r => some ((q.2, k') :: r)
          | none => none
        | none => none
      | none => none) = some r := h
    split at h'
    case h_2 => cases h'
    rename_i k hk
    split at h'
    case h_2 => cases h'
    rename_i k2 hk2
    split at h'
    case h_2 => cases h'
    rename_i r' hr
    injection h' with h'; subst h'
    rcases List.mem_cons.1 hm with e | hm
    · injection e with e1 e2; subst e1; subst e2; exact ⟨q.1, k, by simp, hk, hk2⟩
    · obtain ⟨i, k3, h1, h2, h3⟩ := pickK_ok hr j k' hm
      exact ⟨i, k3, by simp [h1], h2, h3⟩
noncomputable def isNilS (c : SyC) : Bool := match c with
  | .ints _ l => match l with
    | [] => true
    | _ => false
theorem isNilS_ok {c : SyC} (h : isNilS c = true) : c.enc = [] := by
  cases c with
  | ints k l =>
    cases l with
    | nil => rfl
    | cons a l => cases h
noncomputable def nilsK (nils : List (Nat × TypeId × SyC)) : List (Nat × EK) := nils.map fun p => (p.1, .seq p.2.1 p.2.2 false)
/-- what is kept: of frames some slots, of blocks those that ρ names (the first r pairs of it speak of what is only read); sequences that are nil are laid -/
noncomputable def normR (lk : List Nat) (ls : List SL) (ρ : List (Nat × Nat)) (keep : List (Nat × Nat)) (nils : List (Nat × TypeId × SyC)) (N : Nat) (e : EO) : Option NS := match e with
  | .go s => match normFsR ρ ls (s.top :: s.rest) with
    | some l => match pickK ρ s.H lk keep with
      | some K => bc (okN ρ N) (bc (allL (fun p => isSomeN (lookN ρ p.1) p.2) keep) (bc (allL (fun p => isNilS p.2.2) nils) (some ⟨l, nilsK nils ++ K, N⟩) none) none) none
      | none => none
    | none => none
  | _ => none
end Go.Proofs.Ytfmofpdbhkoopaa.Ev
namespace Go.Proofs.Ytfmofpdbhkoopaa.Ev
open Go.RowKit
variable {P : Program} {γ γ' : G} {w0 : Bs} {w : World} {H H' : Tr EK} {n n' : Nat} {T : Tr EV} {cs : List Frame} {fid : FuncId} {FT : Tr FI} {tmps : Array Value} {o : Oper} {α : Type}

theorem normFR_ok {ρ : List (Nat × Nat)} {N : Nat} (hρ : okN ρ N = true) {l : SL} {f : EF} {a : FS} {fr : Frame} (h : normFR ρ l f = some a) (hf : FR γ f fr) : FR (γ.ren ρ) (frOf a) fr := by
  unfold normFR at h
  split at h
  case h_2 => cases h
  rename_i hret
  split at h
  case h_2 => cases h
  rename_i ds' hds
  split at h
  case h_2 => cases h
  rename_i ro' hro
  split at h
  case h_2 => cases h
  rename_i td htd
  split at h
  case h_2 => cases h
  rename_i T hT
  injection h with h; subst h
  obtain ⟨tmps, todo, ds, ro, rfl, h1, h2, h3, h4, h5⟩ := hf
  refine ⟨tmps, todo, ds, ro, by rw [hret]; rfl, h1, fun sl a hs => ?_, mapL_ok (R := IR γ) (S := IR (γ.ren ρ)) (fun _ _ _ h1 h2 => renI_ok hρ h1 h2) htd h3, mapL_ok (R := DR γ) (S := DR (γ.ren ρ)) (fun _ _ _ h1 h2 => renD_ok hρ h1 h2) hds h4, renR_ok hρ hro h5⟩
  obtain ⟨c, a0, q1, q2⟩ := pickS_ok hT sl a (mkT_get hs)
  obtain ⟨x, hx, hc⟩ := h2 sl a0 q1
  exact ⟨x, hx, renS_ok hρ q2 hc⟩
theorem normFsR_ok {ρ : List (Nat × Nat)} {N : Nat} (hρ : okN ρ N = true) : ∀ {ls : List SL} {l : List EF} {r : List FS} {frs : List Frame}, normFsR ρ ls l = some r → All2 (FR γ) l frs → All2 (FR (γ.ren ρ)) (frsOf r) frs
  | [], [], r, frs, h, hf => by
    have h' : some [] = some r := h
    injection h' with h'; subst h'
    cases hf; exact .nil
  | [], f :: l, r, frs, h, _ => by exact absurd (show (none : Option (List FS)) = some r from h) (by simp)
  | q :: ls, [], r, frs, h, _ => by exact absurd (show (none : Option (List FS)) = some r from h) (by simp)
  | q :: ls, f :: l, r, frs, h, hf => by
    have h' : (match normFR ρ q f with
      | some a => match normFsR ρ ls l with
        | some r => some (a :: r)
        | none => none
      | none => none) = some r := h
    split at h'
    case h_2 => cases h'
    rename_i a ha
    split at h'
    case h_2 => cases h'
    rename_i r' hr'
    injection h' with h'; subst h'
    cases hf with
    | cons h1 h2 => exact .cons (normFR_ok hρ ha h1) (normFsR_ok hρ hr' h2)
theorem leads_ofR {RO : Tr (TypeId × SyC)} {s : ES} {lk : List Nat} {ls : List SL} {ρ keep : List (Nat × Nat)} {nils : List (Nat × TypeId × SyC)} {N : Nat} {r : NS} {f : FuncId} (hRN : ∀ i c, RO.get i = some c → lookN ρ i = some i)
    (h : ∀ (γ : G) (w0 : Bs) (cs : List Frame) (m : Machine), ROk γ w0 RO → MR γ w0 cs s m → ∃ e, normR lk ls ρ keep nils N e = some r ∧ SOk P γ w0 cs f m e) : LeadsY P RO s (stOf r) := fun γ w0 cs m hres hR hm => by
  obtain ⟨e, h, this⟩ := h γ w0 cs m hR hm
  unfold normR at h
  split at h
  case h_2 => cases h
  rename_i s'
  obtain ⟨γ', m', h1, h2, h3⟩ := this
  split at h
  case h_2 => cases h
  rename_i l hl
  split at h
  case h_2 => cases h
  rename_i K hK
  rw [bc_eq] at h
  split at h
  case isFalse => cases h
  rename_i hρ
  rw [bc_eq] at h
  split at h
  case isFalse => cases h
  rename_i hkeep
  rw [bc_eq] at h
  split at h
  case isFalse => cases h
  rename_i hnil
  injection h with h; subst h
  obtain ⟨fr, frs, w, rfl, g1, hfs, hH⟩ := h3
  have g3 := normFsR_ok hρ hl (.cons g1 hfs)
  have get : ∀ j k, (mkT (nilsK nils ++ K)).get j = some k → k.Nil ∨ ∃ i k0, lookN ρ i = some j ∧ s'.H.get i = some k0 ∧ renK ρ lk k0 = some k := fun j k hk => by
    rcases List.mem_append.1 (mkT_get hk) with hm | hm
    · left
      unfold nilsK at hm
      obtain ⟨p, hp, e⟩ := List.mem_map.1 hm
      injection e with e1 e2; subst e2
      exact ⟨rfl, isNilS_ok (allL_ok hnil p hp)⟩
    · right
      obtain ⟨i, k0, q1, q2, q3⟩ := pickK_ok hK j k hm
      exact ⟨i, k0, isSomeN_ok (allL_ok hkeep (i, j) q1), q2, q3⟩
  have hHn : HR (γ'.ren ρ) w0 (mkT (nilsK nils ++ K)) N w := by
    refine ⟨fun j k hk => ?_, fun j1 j2 k1 k2 hj1 hj2 n1 n2 hne b1 b2 e1 e2 => ?_, fun j hj => ?_, fun i hi => absurd hi (hres i), fun j p e => ?_, hH.stays⟩
    · rcases get j k hk with h5 | ⟨i, k0, q1, q2, q3⟩
      · exact .inl h5
      · rcases hH.hp0 i k0 q2 with h6 | ⟨b, m2, e1, e2, e3⟩
        · exact .inl ((renK_nil q3).2 h6)
        · exact .inr ⟨b, m2, by rw [G.ren_look hρ q1]; exact e1, e2, renK_ok hρ q3 e3⟩
    · rcases get j1 k1 hj1 with h5 | ⟨i1, k01, q1, q2, q3⟩
      · exact absurd h5 n1
      rcases get j2 k2 hj2 with h6 | ⟨i2, k02, q4, q5, q6⟩
      · exact absurd h6 n2
      rw [G.ren_look hρ q1] at e1
      rw [G.ren_look hρ q4] at e2
      have hne2 : i1 ≠ i2 := fun e => by
        subst e
        rw [q1] at q4; injection q4 with q4; exact hne q4
      exact hH.inj0 i1 i2 k01 k02 q2 q5 (fun e => n1 ((renK_nil q3).2 e)) (fun e => n2 ((renK_nil q6).2 e)) hne2 b1 b2 e1 e2
    · unfold G.ren
      cases hi : invN ρ j with
      | none => rfl
      | some i =>
        have := (okN_ok hρ (invN_mem hi)).2.2
        omega
    · obtain ⟨i, _, q2⟩ := G.ren_some e
      exact hH.lt i p q2
  have hRO' : ROk (γ'.ren ρ) w0 RO := fun i ty c hi => by
    refine (hR.mono h1 i ty c hi).imp id fun ⟨b, m2, ca, fz, e1, e2, e3, e4, e5, e6⟩ => ?_
    exact ⟨b, m2, ca, fz, by rw [G.ren_look hρ (hRN i _ hi)]; exact e1, e2, e3, e4, e5, SyC.enc_any e6⟩
  cases l with
  | nil => have g3 : All2 (FR (γ'.ren ρ)) [] (fr :: frs) := g3; cases g3
  | cons f l =>
    have g3 : All2 (FR (γ'.ren ρ)) (frOf f :: frsOf l) (fr :: frs) := g3
    cases g3 with
    | cons e1 e2 => exact ⟨γ'.ren ρ, _, h2, hRO', fr, frs, w, rfl, e1, e2, hHn⟩
/-- what a run over open leaves ends in: a place, a value and what blocks it leaves -/
inductive YF where
  | at (r : NS)
  | done (a : EV) (H : List (Nat × EK)) (n : Nat)
  | bad
noncomputable def endF (lk : List Nat) (ls : List SL) (ρ keep : List (Nat × Nat)) (nils : List (Nat × TypeId × SyC)) (N : Nat) (out : List Nat) (e : EO) : YF := match e with
  | .done a H n => .done a (pick H out) n
  | .go s => match normR lk ls ρ keep nils N (.go s) with
    | some r => .at r
    | none => .bad
  | _ => .bad
theorem leadsF (hm0 : P.follows .mixedOrders = true) (hF : FTok P FT) {dr : ES → Nat → Array Oper → List IM → EO} (hdr : DrOk P dr) {sub : Sub} (hsub : LoudOk P sub) {ct : Tr YCT} (hct : CtsOk P ct) {RO : Tr (TypeId × SyC)} {f k : Nat} {p : ES → Bool} {s : ES} {lk : List Nat} {ls : List SL} {ρ keep : List (Nat × Nat)} {nils : List (Nat × TypeId × SyC)} {N : Nat} {out : List Nat} {r : NS} (hRN : ∀ i c, RO.get i = some c → lookN ρ i = some i)
    (h : runC (stepC P FT f dr sub ct RO) p (endF lk ls ρ keep nils N out) k s = .at r) : LeadsY P RO s (stOf r) :=
  leads_ofR (f := f) (lk := lk) (ls := ls) (ρ := ρ) (keep := keep) (nils := nils) (N := N) hRN fun γ w0 cs m hR hm => by
    obtain ⟨e, h1, h2⟩ := runC_ok (p := p) (κ := endF lk ls ρ keep nils N out) (fun γ s m κ' hR hm => stepC_ok (fid := f) hm0 hF hdr hsub hct hR hm κ') k γ s m hR hm
    refine ⟨e, ?_, h2⟩
    have h3 : endF lk ls ρ keep nils N out e = .at r := h1.symm.trans h
    unfold endF at h3
    split at h3
    · cases h3
    · split at h3
      · rename_i r' hr
        injection h3 with h3; subst h3; exact hr
      · cases h3
    · cases h3
/-- a call, from its entry to its end -/
theorem callsF (hm0 : P.follows .mixedOrders = true) (hF : FTok P FT) {dr : ES → Nat → Array Oper → List IM → EO} (hdr : DrOk P dr) {sub : Sub} (hsub : LoudOk P sub) {ct : Tr YCT} (hct : CtsOk P ct) {RO : Tr (TypeId × SyC)} {f k N : Nat} {p : ES → Bool} {s : ES} {lk : List Nat} {ls : List SL} {ρ keep : List (Nat × Nat)} {nils : List (Nat × TypeId × SyC)} {N' : Nat} {out : List Nat} {args : List EV} {us : Array Value} {e : EF} {a : EV} {K : List (Nat × EK)} {n' : Nat}
    (he : exEnter FT f args = some e) (hargs : ECL γ args us.toList) (hRO : ROk γ (Bs.of w) RO) (hN : ∀ i, N ≤ i → γ i = none) (hlt : ∀ i p, γ i = some p → p.1.k < w.heap.size)
    (hl : LeadsY P RO ⟨e, [], .nil, N⟩ s) (hd : runC (stepC P FT f dr sub ct RO) p (endF lk ls ρ keep nils N' out) k s = .done a K n') :
    Calls P f us w fun e w' => ∃ γ' x, e = .returned x ∧ EC γ' a x ∧ HR γ' (Bs.of w) (mkT K) n' w' := by
  intro cs
  obtain ⟨q1, _⟩ := exEnter_ok hF hargs he
  have hM : MR γ (Bs.of w) cs ⟨e, [], .nil, N⟩ (lone (Frame.enter P f us .normal) cs w) :=
    ⟨_, [], w, rfl, q1, .nil, ⟨(fun i k hk => by cases hk), (fun i j ki kj hi => by cases hi), hN, (fun i hi => hi.elim), hlt, ⟨rfl, rfl, rfl, Nat.le_refl _, fun _ _ => rfl⟩⟩⟩
  obtain ⟨γ1, m1, g1, g2, g3⟩ := hl γ (Bs.of w) cs _ (fun i hi => hi) hRO hM
  obtain ⟨eo, h1, this⟩ := runC_ok (p := p) (κ := endF lk ls ρ keep nils N' out) (fun γ s m κ' hR hm => stepC_ok (fid := f) hm0 hF hdr hsub hct hR hm κ') k γ1 s m1 g2 g3
  have h3 : endF lk ls ρ keep nils N' out eo = .done a K n' := h1.symm.trans hd
  unfold endF at h3
  split at h3
  · rename_i a0 H0 n0
    injection h3 with e1 e2 e3; subst e1; subst e2; subst e3
    obtain ⟨γ', fr', w', v, _, h2, h3, h4, h5, h6⟩ := this
    refine ⟨.returned v, w', fr', ⟨γ', v, rfl, h5, h6.congr fun i k hk => pick_mem (mkT_get hk)⟩, g1.trans h2, h3, h4⟩
  · split at h3 <;> cases h3
  · cases h3
end Go.Proofs.Ytfmofpdbhkoopaa.Ev
