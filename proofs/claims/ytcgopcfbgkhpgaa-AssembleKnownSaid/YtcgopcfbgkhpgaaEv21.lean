/- The reckoner: a region's operations in whatever order. No program is named. -/
import Derived.Test.YtcgopcfbgkhpgaaEv20
namespace Go.Proofs.Ytcgopcfbgkhpgaa.Ev
open Go.RowKit Go.MapKept
variable {P : Program} {γ γ' : G} {w0 : Bs} {w : World} {H H' : Tr EK} {n n' : Nat} {T T0 : Tr EV} {cs : List Frame} {fid : FuncId} {FT : Tr FI} {o : Oper}

theorem ancOf_mem2 {A : List Nat} : ∀ {l : List Nat} {d j : Nat}, d ∈ l → tb (atA A d) j = true → tb (ancOf A l) j = true
  | e :: l, d, j, h, hj => by
    have e1 : ancOf A (e :: l) = (2 ^ e ||| atA A e) ||| ancOf A l := rfl
    rw [tb_eq, e1, Nat.testBit_or, Nat.testBit_or]
    rcases List.mem_cons.1 h with rfl | h
    · rw [tb_eq] at hj; rw [hj]; simp
    · have := ancOf_mem2 (A := A) h hj
      rw [tb_eq] at this; rw [this]; simp
theorem Stat.trans {ops : Array Oper} {A : List Nat} (h : Stat ops A) : ∀ (i : Nat) (o : Oper), ops[i]? = some o → ∀ q j, tb (atA A i) q = true → tb (atA A q) j = true → tb (atA A i) j = true := by
  intro i
  induction i using Nat.strongRecOn with
  | _ i ih =>
    intro o ho q j hq hj
    have hq2 := hq
    rw [h.anc i o ho] at hq ⊢
    rcases ancOf_bit hq with h1 | ⟨d, hd, h1⟩
    · exact ancOf_mem2 h1 hj
    · have hlt := h.lt i o ho d hd
      have hi : i < ops.size := (Array.getElem?_eq_some_iff.1 ho).1
      exact ancOf_mem2 hd (ih d hlt ops[d] (by simp [show d < ops.size by omega]) q j h1 hj)
theorem dropE_id {d : TypeDesc} {k : Value} : ∀ {es : List (Value × EV)}, (∀ p ∈ es, kEq d k p.1 = false) → dropE d k es = es
  | [], _ => rfl
  | p :: es, h => by
    have e : dropE d k (p :: es) = bc (kEq d k p.1) (dropE d k es) (p :: dropE d k es) := rfl
    rw [e, h p (by simp), dropE_id fun q hq => h q (by simp [hq])]; rfl
theorem ML.perm {es es' : List (Value × EV)} {l : List (Value × Value)} (h : ML γ es l) (hp : es.Perm es') : ∃ l', l.Perm l' ∧ ML γ es' l' := by
  induction hp generalizing l with
  | nil => exact ⟨l, .refl _, h⟩
  | cons x _ ih =>
    cases h with
    | cons k hc hr =>
      obtain ⟨l', h1, h2⟩ := ih hr
      exact ⟨_, h1.cons _, .cons k hc h2⟩
  | swap x y l0 =>
    cases h with
    | cons k hc hr =>
      cases hr with
      | cons k2 hc2 hr2 => exact ⟨_, .swap .., .cons k2 hc2 (.cons k hc hr2)⟩
  | trans _ _ ih1 ih2 =>
    obtain ⟨l1, h1, h2⟩ := ih1 h
    obtain ⟨l2, h3, h4⟩ := ih2 h2
    exact ⟨l2, h1.trans h3, h4⟩
theorem insL_ins {D : Nat → Bool} {R : List Rec} {i j : Nat} {r : Rec} {d : TypeDesc} {k : Value} {a : EV} (hr : R[i]? = some r) (hi : r.In = some (j, d, k, a)) (hn : D i = false) : (insL (ins D i) j R 0).Perm ((k, a) :: insL D j R 0) := by
  obtain ⟨e1, e2⟩ := split_at hr
  have h1 : insL (ins D i) j (R.take i) 0 = insL D j (R.take i) 0 := insL_congr fun z p d kv a hz _ => by
    rw [Nat.zero_add]
    unfold ins
    have : z < (R.take i).length := (List.getElem?_eq_some_iff.1 hz).1
    rw [if_neg (by omega)]
  have h2 : insL (ins D i) j (R.drop (i + 1)) (i + 1) = insL D j (R.drop (i + 1)) (i + 1) := insL_congr fun z p d kv a hz _ => by
    unfold ins
    rw [if_neg (by omega)]
  have h3 : insL (ins D i) j R 0 = insL D j (R.take i) 0 ++ (k, a) :: insL D j (R.drop (i + 1)) (i + 1) := by
    conv => lhs; rw [e1]
    rw [insL_append, e2, insL_cons, hi, Nat.zero_add]
    simp only
    rw [if_pos ⟨trivial, by simp [ins]⟩, h1, h2]
  have h4 : insL D j R 0 = insL D j (R.take i) 0 ++ insL D j (R.drop (i + 1)) (i + 1) := by
    conv => lhs; rw [e1]
    rw [insL_append, e2, insL_cons, hi, Nat.zero_add]
    simp only
    rw [if_neg (fun e => by rw [hn] at e; cases e.2)]
  rw [h3, h4]
  exact List.perm_middle
section
variable {sub : Sub} {q : QF} {RO : Tr (TypeId × SyC)} {ops : Array Oper} {A : List Nat} {n0 : Nat} {M0 : Mm} {R : List Rec} (hR : Run P sub q RO ops A T0 n0 M0 R)
include hR
/-- the slots behind D and one more -/
theorem Run.lw_ins {D : Nat → Bool} (hg : Good A ops.size D) {i : Nat} {r : Rec} (ho : ops[i]? = some o) (hr : R[i]? = some r) (hn : D i = false) (s : Nat) :
    lw (ins D i) s (ops.toList.zip R) 0 (T0.get s) = if o.dst = some s then some r.V else lw D s (ops.toList.zip R) 0 (T0.get s) := by
  by_cases hd : o.dst = some s
  · rw [if_pos hd]
    have hz : (ops.toList.zip R)[i]? = some (o, r) := zip_get.2 ⟨ho, hr⟩
    obtain ⟨e1, e2⟩ := split_at hz
    rw [e1, lw_append, lw_cons, e2, Nat.zero_add, if_pos ⟨by simp [ins], hd⟩]
    refine lw_none fun j p hj hp => ?_
    rw [List.getElem?_drop] at hj
    obtain ⟨h1, h2⟩ := zip_get.1 hj
    have hlt : i + 1 + j < ops.size := (Array.getElem?_eq_some_iff.1 h1).1
    have h3 := hR.st.wr (i + 1 + j) i p.1 o s h1 ho (by omega) hp hd
    show ins D i (i + 1 + j) = false
    unfold ins
    rw [if_neg (by omega)]
    cases hD : D (i + 1 + j) with
    | false => rfl
    | true => have := hg _ hlt hD i h3; rw [hn] at this; cases this
  · rw [if_neg hd]
    refine lw_congr fun j p hj hp => ?_
    rw [Nat.zero_add]
    unfold ins
    by_cases e : j = i
    · subst e
      obtain ⟨h1, _⟩ := zip_get.1 hj
      rw [ho] at h1; injection h1 with h1; subst h1
      exact absurd hp hd
    · rw [if_neg e]
/-- behind D: what the last loud operation has before it has run -/
theorem Run.mask {D : Nat → Bool} (hg : Good A ops.size D) {j : Nat} (h : tb (md D R 0 M0).a j = true) : D j = true := by
  rcases md_cases D R 0 M0 with ⟨e, _⟩ | ⟨q, rq, h1, h2, h3, _, h5⟩
  · rw [e, hR.a0, tb_eq] at h; simp at h
  · rw [h5] at h
    have hq : q < ops.size := by rw [← hR.len]; exact (List.getElem?_eq_some_iff.1 h1).1
    obtain ⟨r, hr, hx⟩ := hR.step q ops[q] (by simp [hq])
    rw [h1] at hr; injection hr with hr; subst hr
    rw [(exRec_loud hx h2).1] at h
    exact hg q hq (by simpa using h3) j h
theorem Run.freeD {D : Nat → Bool} {j : Nat} {r : Rec} {c : EK} (hr : R[j]? = some r) (hc : r.Fr = some c) (h : tb (md D R 0 M0).a j = false) : (md D R 0 M0).H.get (n0 + j) = none := by
  obtain ⟨h1, h2⟩ := hR.free j r c hr hc
  rcases md_cases D R 0 M0 with ⟨e, _⟩ | ⟨q, rq, g1, g2, g3, _, g5⟩
  · rw [e]; exact h1
  · rw [g5] at h ⊢
    exact h2 q rq g1 g2 h
theorem Run.kd {D : Nat → Bool} {b : Nat} : (KD D n0 R M0).get b = (fV (mpF D R) n0 0 R b).or ((frV (fun j => bc (tb (md D R 0 M0).a j) false (D j)) n0 0 R b).or ((md D R 0 M0).H.get b)) := by
  unfold KD
  rw [fT_get (by rw [hR.len]; exact hR.room), frT_get (by rw [hR.len]; exact hR.room)]
theorem Run.mpRec {j : Nat} {r : Rec} (hr : R[j]? = some r) (hm : r.Mp = true) : r.Fr = none ∧ r.In = none := by
  have hj : j < ops.size := by rw [← hR.len]; exact (List.getElem?_eq_some_iff.1 hr).1
  obtain ⟨r2, h1, h2⟩ := hR.step j ops[j] (by simp [hj])
  rw [hr] at h1; injection h1 with h1; subst h1
  exact exRec_mp h2 hm
theorem Run.mpNone {D : Nat → Bool} {j : Nat} {r : Rec} (hr : R[j]? = some r) (hm : r.Mp = true) : (md D R 0 M0).H.get (n0 + j) = none := by
  obtain ⟨h1, h2⟩ := hR.freeM j r hr hm
  rcases md_cases D R 0 M0 with ⟨e, _⟩ | ⟨q, rq, g1, g2, g3, _, g5⟩
  · rw [e]; exact h1
  · rw [g5]; exact h2 q rq g1 g2
omit hR in
/-- the maps behind D and an operation that is none of theirs -/
theorem Run.mpSame {D : Nat → Bool} {i : Nat} {r : Rec} (hr : R[i]? = some r) (hm : r.Mp = false) (hi : r.In = none) {b : Nat} : fV (mpF (ins D i) R) n0 0 R b = fV (mpF D R) n0 0 R b := by
  refine fV_congr fun j p _ hp => ?_
  have e : insL (ins D i) j R 0 = insL D j R 0 := insL_congr fun z q d kv a hq hin => by
    rw [Nat.zero_add]
    unfold ins
    have hne : z ≠ i := fun e => by subst e; rw [hr] at hq; injection hq with hq; subst hq; rw [hi] at hin; cases hin
    rw [if_neg hne]
  unfold mpF
  rw [e]
  by_cases hj : j = i
  · subst hj; rw [hr] at hp; injection hp with hp; subst hp; rw [hm]; rfl
  · simp [ins, hj]
theorem Run.vis {i : Nat} {M : Mm} {b : Nat} : (vis A n0 (R.take i) i M).get b = (frV (fun j => bc (tb M.a j) false (tb (atA A i) j)) n0 0 (R.take i) b).or (M.H.get b) := frT_get (by have := hR.len; have := hR.room; simp; omega)
/-- what an operation sees is there -/
theorem Run.visMp {D : Nat → Bool} {i j : Nat} {r : Rec} (hr : R[j]? = some r) (hm : r.Mp = true) : (Ev.vis A n0 (R.take i) i (md D R 0 M0)).get (n0 + j) = none := by
  rw [hR.vis]
  have hz : frV (fun j => bc (tb (md D R 0 M0).a j) false (tb (atA A i) j)) n0 0 (R.take i) (n0 + j) = none := by
    cases e : frV (fun j => bc (tb (md D R 0 M0).a j) false (tb (atA A i) j)) n0 0 (R.take i) (n0 + j) with
    | none => rfl
    | some c =>
      obtain ⟨j2, r2, e1, e2, _, e3⟩ := frV_some.1 e
      have : j2 = j := by omega
      subst this
      rw [List.getElem?_take] at e2
      split at e2
      · rw [hr] at e2; injection e2 with e2; subst e2
        rw [(hR.mpRec hr hm).1] at e3; cases e3
      · cases e2
  rw [hz, Option.none_or]; exact hR.mpNone hr hm
theorem Run.sees {D : Nat → Bool} {i : Nat} (hA : ∀ j, tb (atA A i) j = true → D j = true) {b : Nat} {k : EK} (h : (Ev.vis A n0 (R.take i) i (md D R 0 M0)).get b = some k) : (KD D n0 R M0).get b = some k := by
  rw [hR.kd]
  have hmp : fV (mpF D R) n0 0 R b = none := by
    cases e : fV (mpF D R) n0 0 R b with
    | none => rfl
    | some c =>
      obtain ⟨j, r, rfl, e1, e2⟩ := fV_some.1 e
      rw [hR.visMp e1 (mpF_some.1 e2).1] at h; cases h
  rw [hmp, Option.none_or]
  rw [hR.vis] at h
  cases hv : frV (fun j => bc (tb (md D R 0 M0).a j) false (tb (atA A i) j)) n0 0 (R.take i) b with
  | some c =>
    rw [hv] at h
    simp at h; subst h
    obtain ⟨j, r, rfl, hr, hD, hc⟩ := frV_some.1 hv
    have : frV (fun j => bc (tb (md D R 0 M0).a j) false (D j)) n0 0 R (n0 + j) = some c := by
      refine frV_some.2 ⟨j, r, rfl, ?_, ?_, hc⟩
      · rw [List.getElem?_take] at hr
        split at hr
        · exact hr
        · cases hr
      · simp only [bc_eq] at hD ⊢
        by_cases e : tb (md D R 0 M0).a j = true
        · rw [if_pos e] at hD; cases hD
        · rw [if_neg e] at hD ⊢; exact hA j hD
    rw [this]; rfl
  | none =>
    rw [hv, Option.none_or] at h
    cases hv2 : frV (fun j => bc (tb (md D R 0 M0).a j) false (D j)) n0 0 R b with
    | none => rw [Option.none_or]; exact h
    | some c =>
      obtain ⟨j, r, rfl, hr, hD, hc⟩ := frV_some.1 hv2
      simp only [bc_eq] at hD
      by_cases e : tb (md D R 0 M0).a j = true
      · rw [if_pos e] at hD; cases hD
      · have := hR.freeD (D := D) hr hc (by simpa using e)
        rw [this] at h; cases h
omit hR in
theorem HR.lessRes {r r' : Nat → Prop} (h : HR γ (w0.withRes r) H n w) (e : ∀ i, r' i → r i) : HR γ (w0.withRes r') H n w :=
  ⟨h.hp, h.inj, h.fresh, fun i hi => h.rsv i (e i hi), h.lt, ⟨h.stays.os, h.stays.tape, h.stays.output, h.stays.size, h.stays.block⟩⟩
theorem Run.any {D : Nat → Bool} (hRO : ROk γ w0 RO) (hsub : LoudOk P sub) (hres : ∀ q, w0.res q → q < n0) {fn : FuncId} {tmps : Array Value} {i : Nat} {rest : List Nat} {k : List Item} {ds : List Deferred} {ro : Option Nat} {N : Nat}
    (hg : Good A ops.size D) (ho : ops[i]? = some o) (hn : D i = false) (hd : ∀ d ∈ deps o, D d = true) (hT : TD γ ops T0 R D tmps) (hN : tmps.size = N) (hdst : ∀ d, o.dst = some d → d < N) (hH : HD γ w0 ops.size D n0 R M0 w) :
    ∃ γ' tmps' w', GLe γ γ' ∧ Steps P (lone (fram fn tmps (.inRegion ops (i :: rest) :: k) ds ro) cs w) (lone (fram fn tmps' (.inRegion ops rest :: k) ds ro) cs w') ∧ TD γ' ops T0 R (ins D i) tmps' ∧ tmps'.size = N ∧ HD γ' w0 ops.size (ins D i) n0 R M0 w' := by
  obtain ⟨r, hr, hx⟩ := hR.step i o ho
  have hA := hR.st.sub hg ho hd
  have hi : i < ops.size := (Array.getElem?_eq_some_iff.1 ho).1
  have hTi : TOk γ (tabAt ops A T0 (R.take i) i o) tmps := fun s a hs => by
    obtain ⟨h1, h2⟩ := restr_get hs
    rw [hR.slots hg ho hA hn h1] at h2
    exact hT s a h2
  -- what the slots hold behind it
  have fin : ∀ (γ' : G) (x : Value), GLe γ γ' → EC γ' r.V x → TD γ' ops T0 R (ins D i) (putD tmps o.dst x) ∧ (putD tmps o.dst x).size = N := fun γ' x hle hc => by
    refine ⟨fun s a hs => ?_, by unfold putD; split <;> simp [hN]⟩
    rw [hR.lw_ins hg ho hr hn s] at hs
    by_cases e : o.dst = some s
    · rw [if_pos e] at hs; injection hs with hs; subst hs
      refine ⟨x, ?_, hc⟩
      have := hdst s e
      simp [putD, e, hN, this]
    · rw [if_neg e] at hs
      obtain ⟨y, hy, hcy⟩ := hT s a hs
      refine ⟨y, ?_, hcy.mono hle⟩
      cases hdd : o.dst with
      | none => exact hy
      | some d =>
        have : d ≠ s := fun e2 => e (by rw [hdd, e2])
        show (tmps.setIfInBounds d x)[s]? = some y
        rw [Array.getElem?_setIfInBounds_ne this]; exact hy
  have same : r.L = false → md (ins D i) R 0 M0 = md D R 0 M0 := fun hl => md_congr fun j p hj hp => by
    rw [Nat.zero_add]
    unfold ins
    by_cases e : j = i
    · subst e; rw [hr] at hj; injection hj with hj; subst hj; rw [hl] at hp; cases hp
    · rw [if_neg e]
  have less : ∀ q, (w0.res q ∨ ∃ j, j < ops.size ∧ ins D i j = false ∧ q = n0 + j) → (w0.res q ∨ ∃ j, j < ops.size ∧ D j = false ∧ q = n0 + j) := fun q hq => by
    rcases hq with hq | ⟨j, h1, h2, h3⟩
    · exact .inl hq
    · refine .inr ⟨j, h1, ?_, h3⟩
      unfold ins at h2
      split at h2
      · cases h2
      · exact h2
  -- nothing is made: the same table
  have sameK : r.L = false → r.Fr = none → r.Mp = false → r.In = none → ∀ b k, (KD (ins D i) n0 R M0).get b = some k → (KD D n0 R M0).get b = some k := fun hl hf hmp hin b k hk => by
    rw [hR.kd, same hl, Run.mpSame hr hmp hin] at hk
    rw [hR.kd]
    have : frV (fun j => bc (tb (md D R 0 M0).a j) false (ins D i j)) n0 0 R b = frV (fun j => bc (tb (md D R 0 M0).a j) false (D j)) n0 0 R b := by
      apply Option.ext
      intro c
      rw [frV_some, frV_some]
      constructor
      · rintro ⟨j, rj, rfl, h1, h2, h3⟩
        refine ⟨j, rj, rfl, h1, ?_, h3⟩
        have hne : j ≠ i := fun e => by subst e; rw [hr] at h1; injection h1 with h1; subst h1; rw [hf] at h3; cases h3
        simpa [ins, hne] using h2
      · rintro ⟨j, rj, rfl, h1, h2, h3⟩
        refine ⟨j, rj, rfl, h1, ?_, h3⟩
        have hne : j ≠ i := fun e => by subst e; rw [hr] at h1; injection h1 with h1; subst h1; rw [hf] at h3; cases h3
        simpa [ins, hne] using h2
    rw [this] at hk
    exact hk
  unfold exRec at hx
  split at hx
  · rename_i hgd
    injection hx with hx
    have hw := exGuard_ok hTi hgd
    have hV : r.V = .v undef := by rw [← hx]
    have hL : r.L = false := by rw [← hx]
    have hF : r.Fr = none := by rw [← hx]
    have hMp : r.Mp = false := by rw [← hx]
    have hIn : r.In = none := by rw [← hx]
    obtain ⟨f1, f2⟩ := fin γ undef (GLe.refl γ) (by rw [hV]; exact .v _)
    refine ⟨γ, _, w, GLe.refl γ, .one (st_opSkip ho hw), f1, f2, ?_⟩
    unfold HD at hH ⊢
    rw [same hL]
    exact (hH.congr (sameK hL hF hMp hIn)).lessRes less
  · rename_i hgd
    have hw := exGuard_ok hTi hgd
    split at hx
    · rename_i a c hfr
      injection hx with hx
      have hL : r.L = false := by rw [← hx]; exact recFr_L.1
      have hV : r.V = a := by rw [← hx]; exact recFr_L.2.1
      have hIn : r.In = none := by rw [← hx]; exact recFr_L.2.2.2
      have hroom := hR.room
      obtain ⟨ob, cm, x, hrun, hall⟩ := exFr_ok hTi hfr w
      obtain ⟨q1, q2⟩ := hH.rsv (n0 + i) (.inr ⟨i, hi, hn, rfl⟩)
      have hle : GLe γ (γ.upd (n0 + i) (⟨w.heap.size, 0⟩, cm)) := G.upd_le q1
      obtain ⟨g1, g2⟩ := hall _ hle G.upd_same
      have hd2 : notDefer o.op = true := by
        unfold exFr at hfr
        split at hfr
        all_goals first | (rename_i hop; simp [hop, notDefer]; done) | cases hfr
      obtain ⟨f1, f2⟩ := fin _ x hle (by rw [hV]; exact g1)
      refine ⟨_, _, w.alloc ob, hle, .one (st_opValue ho hw hd2 hrun), f1, f2, ?_⟩
      unfold HD at hH ⊢
      rw [same hL]
      have hnew := hH.newAt q1 q2 (Nat.ble_eq_true_of_le (by omega)) (res := fun q => w0.res q ∨ ∃ j, j < ops.size ∧ ins D i j = false ∧ q = n0 + j) (fun q hq => ⟨less q hq, fun e => by
        rcases hq with hq | ⟨j, h1, h2, h3⟩
        · have := hres q hq
          omega
        · have : j = i := by omega
          subst this
          simp [ins] at h2⟩) g2
      refine hnew.congr fun b k hk => ?_
      rw [hR.kd, same hL] at hk
      rw [Tr.get_put (Nat.ble_eq_true_of_le (by omega)), hR.kd]
      have others : b ≠ n0 + i → frV (fun j => bc (tb (md D R 0 M0).a j) false (ins D i j)) n0 0 R b = frV (fun j => bc (tb (md D R 0 M0).a j) false (D j)) n0 0 R b := fun hb => by
        apply Option.ext
        intro c
        rw [frV_some, frV_some]
        constructor
        · rintro ⟨j, rj, rfl, h1, h2, h3⟩
          have hne : j ≠ i := fun e => hb (by rw [e])
          exact ⟨j, rj, rfl, h1, by simpa [ins, hne] using h2, h3⟩
        · rintro ⟨j, rj, rfl, h1, h2, h3⟩
          have hne : j ≠ i := fun e => hb (by rw [e])
          exact ⟨j, rj, rfl, h1, by simpa [ins, hne] using h2, h3⟩
      have othersM : b ≠ n0 + i → fV (mpF (ins D i) R) n0 0 R b = fV (mpF D R) n0 0 R b := fun hb => by
        refine fV_congr fun j p e hp => ?_
        have hne : j ≠ i := fun e2 => hb (by rw [e, e2])
        have e : insL (ins D i) j R 0 = insL D j R 0 := insL_congr fun z q d kv a hq hin => by
          rw [Nat.zero_add]
          unfold ins
          have hne : z ≠ i := fun e => by subst e; rw [hr] at hq; injection hq with hq; subst hq; rw [hIn] at hin; cases hin
          rw [if_neg hne]
        unfold mpF
        rw [e]
        simp [ins, hne]
      by_cases hb : b = n0 + i
      · rw [if_pos hb]
        by_cases hMp : r.Mp = true
        · have hc : c = .mp [] := by
            rw [← hx] at hMp
            unfold recFr at hMp
            split at hMp
            · rename_i es; rw [exFr_mp hfr]
            · cases hMp
          have he : insL (ins D i) i R 0 = [] := by
            apply List.eq_nil_iff_forall_not_mem.2
            intro p hp
            obtain ⟨z, rz, d, h1, h2, h3⟩ := insL_mem hp
            rw [Nat.zero_add] at h3
            have hzi : z ≠ i := fun e => by subst e; rw [hr] at h1; injection h1 with h1; subst h1; rw [hIn] at h2; cases h2
            have hz : z < ops.size := by rw [← hR.len]; exact (List.getElem?_eq_some_iff.1 h1).1
            have := hg z hz (by simpa [ins, hzi] using h3) i (hR.insok z rz i d p.1 p.2 h1 h2).2.1
            rw [hn] at this; cases this
          have : fV (mpF (ins D i) R) n0 0 R b = some c := fV_some.2 ⟨i, r, hb, hr, mpF_some.2 ⟨hMp, by simp [ins], by rw [he, hc]⟩⟩
          rw [this] at hk
          simpa using hk
        · have hMp : r.Mp = false := by simpa using hMp
          have hF : r.Fr = some c := by
            rw [← hx] at hMp ⊢
            unfold recFr at hMp ⊢
            split
            · simp only at hMp; cases hMp
            · rfl
          have hz : fV (mpF (ins D i) R) n0 0 R b = none := by
            cases e : fV (mpF (ins D i) R) n0 0 R b with
            | none => rfl
            | some c2 =>
              obtain ⟨j, r2, e1, e2, e3⟩ := fV_some.1 e
              have : j = i := by omega
              subst this
              rw [hr] at e2; injection e2 with e2; subst e2
              rw [(mpF_some.1 e3).1] at hMp; cases hMp
          have : frV (fun j => bc (tb (md D R 0 M0).a j) false (ins D i j)) n0 0 R b = some c := by
            refine frV_some.2 ⟨i, r, hb, hr, ?_, hF⟩
            have : tb (md D R 0 M0).a i = false := by
              cases e : tb (md D R 0 M0).a i with
              | false => rfl
              | true => have := hR.mask hg e; rw [hn] at this; cases this
            simp [this, bc_eq, ins]
          rw [hz, Option.none_or, this] at hk
          simpa using hk
      · rw [if_neg hb]
        rw [others hb, othersM hb] at hk
        exact hk
    · rename_i hnf
      split at hx
      · rename_i u hu
        obtain ⟨jm, d, kv, a⟩ := u
        injection hx with hx
        have hL : r.L = false := by rw [← hx]
        have hV : r.V = .v undef := by rw [← hx]
        have hF : r.Fr = none := by rw [← hx]
        have hMp : r.Mp = false := by rw [← hx]
        have hIn : r.In = some (jm, d, kv, a) := by rw [← hx]
        have hroom := hR.room
        obtain ⟨⟨rj, hrj, hrm⟩, hanc, hkeys⟩ := hR.insok i r jm d kv a hr hIn
        have hDj := hA jm hanc
        have hjl : jm < ops.size := by rw [← hR.len]; exact (List.getElem?_eq_some_iff.1 hrj).1
        obtain ⟨t, kt, et, b, q, x, ⟨t2, m2, k2, x2, hop⟩, he, hγ, hcx, hK, hu1, hu2⟩ := exIns_ok hTi hu
        have hget : (KD D n0 R M0).get (n0 + jm) = some (.mp (insL D jm R 0)) := by
          rw [hR.kd, fV_some.2 ⟨jm, rj, rfl, hrj, mpF_some.2 ⟨hrm, hDj, rfl⟩⟩]; rfl
        unfold HD at hH
        obtain ⟨b2, m3, h1, _, ents, clock, l, h2, h3, h4, h5⟩ := hH.hp _ _ hget
        rw [hγ] at h1
        simp only [Option.some.injEq, Prod.mk.injEq] at h1
        obtain ⟨rfl, rfl⟩ := h1
        have hall : ∀ p ∈ insL D jm R 0, IsKey d p.1 ∧ kEq d kv p.1 = false := fun p hp => by
          obtain ⟨z, rz, d', g1, g2, g3⟩ := insL_mem hp
          rw [Nat.zero_add] at g3
          obtain ⟨g4, g5⟩ := hkeys z rz d' p.1 p.2 g1 g2
          exact ⟨isKeyB_ok g4, g5 fun e => by subst e; rw [hn] at g3; cases g3⟩
        obtain ⟨ents', clock', r1, r2, l', r3, r4⟩ := mp_set (w := w) hu1 hu2 hK (fun p hp => (hall p hp).1) h2 h3 h4 h5 hcx
        have hperm : (insL (ins D i) jm R 0).Perm (setEnt d kv a (insL D jm R 0)) := by
          unfold setEnt
          rw [dropE_id fun p hp => (hall p hp).2]
          exact insL_ins hr hIn hn
        obtain ⟨l2, hl2, hm2⟩ := ML.perm r4 hperm.symm
        have hlt := (Array.getElem?_eq_some_iff.1 h2).1
        obtain ⟨f1, f2⟩ := fin γ undef (GLe.refl γ) (by rw [hV]; exact .v _)
        have hrun : (execOp (opEval tmps) o).run P w = .ok .skip (w.putObj b.k (.map ents' clock')) := by
          rw [he]; simp [r1, Result.andThen]
        refine ⟨γ, _, w.putObj b.k (.map ents' clock'), GLe.refl γ, .one (st_opDone ho hw (by rw [hop]; rfl) hrun), f1, f2, ?_⟩
        unfold HD
        rw [same hL]
        have hble : Nat.ble (n0 + jm) 65535 = true := Nat.ble_eq_true_of_le (by omega)
        have hturn := hH.turn (w' := w.putObj b.k (.map ents' clock')) hble hget hγ (.mp (insL (ins D i) jm R 0)) (fun c hc => World.putObj_heap_other hc) (by simp) rfl rfl rfl ⟨ents', clock', l2, World.putObj_heap_same hlt, r2, r3.trans hl2, hm2⟩
        refine (hturn.congr fun b3 c hc => ?_).lessRes less
        rw [Tr.get_put hble]
        by_cases hb : b3 = n0 + jm
        · rw [if_pos hb]
          subst hb
          rw [hR.kd, fV_some.2 ⟨jm, rj, rfl, hrj, mpF_some.2 ⟨hrm, by simp [ins, hDj], rfl⟩⟩] at hc
          simpa using hc
        · rw [if_neg hb]
          rw [hR.kd, same hL] at hc
          rw [hR.kd]
          have e1 : fV (mpF (ins D i) R) n0 0 R b3 = fV (mpF D R) n0 0 R b3 := fV_congr fun j p e hp => by
            have hne : j ≠ jm := fun e2 => hb (by rw [e, e2])
            have e : insL (ins D i) j R 0 = insL D j R 0 := insL_congr fun z q2 d2 kv2 a2 hq hin => by
              rw [Nat.zero_add]
              unfold ins
              have hnz : z ≠ i := fun e => by
                subst e; rw [hr] at hq; injection hq with hq; subst hq; rw [hIn] at hin
                injection hin with hin
                exact hne (congrArg (·.1) hin).symm
              rw [if_neg hnz]
            unfold mpF
            rw [e]
            by_cases hj : j = i
            · subst hj; rw [hr] at hp; injection hp with hp; subst hp; rw [hMp]; rfl
            · simp [ins, hj]
          have e2 : frV (fun j => bc (tb (md D R 0 M0).a j) false (ins D i j)) n0 0 R b3 = frV (fun j => bc (tb (md D R 0 M0).a j) false (D j)) n0 0 R b3 := by
            apply Option.ext
            intro c
            rw [frV_some, frV_some]
            constructor
            · rintro ⟨j, rj, rfl, h1, h2, h3⟩
              refine ⟨j, rj, rfl, h1, ?_, h3⟩
              have hne : j ≠ i := fun e => by subst e; rw [hr] at h1; injection h1 with h1; subst h1; rw [hF] at h3; cases h3
              simpa [ins, hne] using h2
            · rintro ⟨j, rj, rfl, h1, h2, h3⟩
              refine ⟨j, rj, rfl, h1, ?_, h3⟩
              have hne : j ≠ i := fun e => by subst e; rw [hr] at h1; injection h1 with h1; subst h1; rw [hF] at h3; cases h3
              simpa [ins, hne] using h2
          rw [e1, e2] at hc
          exact hc
      rename_i hni
      rw [bc_eq] at hx
      split at hx
      · rename_i hq
        split at hx
        case h_2 => cases hx
        rename_i a ha
        injection hx with hx
        have hL : r.L = false := by rw [← hx]
        have hF : r.Fr = none := by rw [← hx]
        have hMp : r.Mp = false := by rw [← hx]
        have hIn : r.In = none := by rw [← hx]
        have hQ := hR.quiet i o r ho hr hq hgd hnf hni D hg hA hn
        have hsee : ∀ b k, (Ev.vis A n0 (R.take i) i (md D R 0 M0)).get b = some k → (KD D n0 R M0).get b = some k := fun b k => hR.sees hA
        unfold HD at hH
        obtain ⟨γ', w', x, hle, hH2, hrun, hc⟩ := hR.qok i o ho hq hgd _ _ _ _ _ _ _ (ROk.part hH (hRO.res _) _) hTi (hH.partOk hsee) hQ
        obtain ⟨f1, f2⟩ := fin γ' x hle hc
        refine ⟨γ', _, w', hle, .one (st_opValue ho hw (quiet_notDefer hq) hrun), f1, f2, ?_⟩
        unfold HD
        rw [same hL]
        refine (hH.whole (H' := KD (ins D i) n0 R M0) hle hH2 fun b k hk => ?_).lessRes less
        have hk := sameK hL hF hMp hIn b k hk
        cases hv : (Ev.vis A n0 (R.take i) i (md D R 0 M0)).get b with
        | none => exact .inr ⟨rfl, hk⟩
        | some k2 =>
          have := hsee b k2 hv
          rw [hk] at this; injection this with this; subst this
          exact .inl rfl
      · split at hx
        case h_2 => cases hx
        rename_i a H2 n2 hlo
        injection hx with hx
        have hL : r.L = true := by rw [← hx]
        have hV : r.V = a := by rw [← hx]
        have hF : r.Fr = none := by rw [← hx]
        have hMp : r.Mp = false := by rw [← hx]
        have hIn : r.In = none := by rw [← hx]
        have hm : r.M = ⟨H2, n2, atA A i⟩ := by rw [← hx]
        have hbef : ∀ j p, R[j]? = some p → p.L = true → (D j = true ↔ j < i) := fun j p hj hp => by
          constructor
          · intro hDj
            rcases Nat.lt_or_ge j i with h1 | h1
            · exact h1
            · by_cases e : j = i
              · subst e; rw [hn] at hDj; cases hDj
              · have hjl : j < ops.size := by rw [← hR.len]; exact (List.getElem?_eq_some_iff.1 hj).1
                have := hg j hjl hDj i (hR.loud j i p r (by omega) hj hr hp hL)
                rw [hn] at this; cases this
          · intro h1
            exact hA j (hR.loud i j r p h1 hr hj hL hp)
        have hmem : md D R 0 M0 = memAt M0 R i := by
          rw [hR.mem i (by omega)]
          refine md_congr fun j p hj hp => ?_
          rw [Nat.zero_add]
          have := hbef j p hj hp
          by_cases h1 : j < i
          · rw [this.2 h1]; simp [h1]
          · have : D j = false := by
              cases hD : D j with
              | false => rfl
              | true => exact absurd (this.1 hD) h1
            rw [this]; simp [h1]
        rw [← hmem] at hlo
        have hsee : ∀ b k, (Ev.vis A n0 (R.take i) i (md D R 0 M0)).get b = some k → (KD D n0 R M0).get b = some k := fun b k => hR.sees hA
        unfold HD at hH
        obtain ⟨γ', w', x, hle, hH2, hc, hst⟩ := hsub γ _ w _ o _ _ a H2 n2 fn tmps ops i rest k ds ro cs hTi (hH.partOk hsee) ho hw hlo
        obtain ⟨f1, f2⟩ := fin γ' x hle (by rw [hV]; exact hc)
        refine ⟨γ', _, w', hle, hst, f1, f2, ?_⟩
        have hmi : md (ins D i) R 0 M0 = ⟨H2, n2, atA A i⟩ := by
          rw [md_ins hr hL (fun j rj hj hrj hlj => ?_) (by simp [ins]), hm]
          unfold ins
          rw [if_neg (by omega)]
          cases hD : D j with
          | false => rfl
          | true => have := (hbef j rj hrj hlj).1 hD; omega
        unfold HD
        refine HR.lessRes ?_ less
        rw [hmi]
        refine hH.whole hle hH2 fun b k hk => ?_
        rw [hR.kd, hmi, Run.mpSame hr hMp hIn] at hk
        cases hvm : fV (mpF D R) n0 0 R b with
        | some c =>
          rw [hvm] at hk
          simp at hk; subst hk
          obtain ⟨j, rj, rfl, h1, h2⟩ := fV_some.1 hvm
          exact .inr ⟨hR.visMp h1 (mpF_some.1 h2).1, by rw [hR.kd, hvm]; rfl⟩
        | none =>
        rw [hvm, Option.none_or] at hk
        cases hv : frV (fun j => bc (tb (atA A i) j) false (ins D i j)) n0 0 R b with
        | none => rw [hv, Option.none_or] at hk; exact .inl hk
        | some c =>
          rw [hv] at hk
          simp at hk; subst hk
          obtain ⟨j, rj, rfl, h1, h2, h3⟩ := frV_some.1 hv
          simp only [bc_eq] at h2
          by_cases e1 : tb (atA A i) j = true
          · rw [if_pos e1] at h2; cases h2
          rw [if_neg e1] at h2
          have hne : j ≠ i := fun e => by subst e; rw [hr] at h1; injection h1 with h1; subst h1; rw [hF] at h3; cases h3
          have hDj : D j = true := by simpa [ins, hne] using h2
          have hma : tb (md D R 0 M0).a j = false := by
            cases e : tb (md D R 0 M0).a j with
            | false => rfl
            | true =>
              exfalso
              rcases md_cases D R 0 M0 with ⟨e5, _⟩ | ⟨q, rq, g1, g2, g3, _, g5⟩
              · rw [e5, hR.a0, tb_eq] at e; simp at e
              · rw [g5] at e
                have hq : q < ops.size := by rw [← hR.len]; exact (List.getElem?_eq_some_iff.1 g1).1
                obtain ⟨r5, hr5, hx5⟩ := hR.step q ops[q] (by simp [hq])
                rw [g1] at hr5; injection hr5 with hr5; subst hr5
                rw [(exRec_loud hx5 g2).1] at e
                have hqi : q < i := (hbef q rq g1 g2).1 (by simpa using g3)
                exact e1 (hR.st.trans i o ho q j (hR.loud i q r rq hqi hr g1 hL g2) e)
          refine .inr ⟨?_, ?_⟩
          · rw [hR.vis]
            have hz : frV (fun j => bc (tb (md D R 0 M0).a j) false (tb (atA A i) j)) n0 0 (R.take i) (n0 + j) = none := by
              cases e : frV (fun j => bc (tb (md D R 0 M0).a j) false (tb (atA A i) j)) n0 0 (R.take i) (n0 + j) with
              | none => rfl
              | some c2 =>
                obtain ⟨j2, r2, e6, _, h6, _⟩ := frV_some.1 e
                have : j2 = j := by omega
                subst this
                simp only [bc_eq] at h6
                rw [hma] at h6
                simp at h6
                exact absurd h6 e1
            rw [hz, Option.none_or]
            exact hR.freeD h1 h3 hma
          · rw [hR.kd, hvm, Option.none_or]
            have : frV (fun j => bc (tb (md D R 0 M0).a j) false (D j)) n0 0 R (n0 + j) = some c := frV_some.2 ⟨j, rj, rfl, h1, by simp [bc_eq, hma, hDj], h3⟩
            rw [this]; rfl
  · cases hx
end
end Go.Proofs.Ytcgopcfbgkhpgaa.Ev
