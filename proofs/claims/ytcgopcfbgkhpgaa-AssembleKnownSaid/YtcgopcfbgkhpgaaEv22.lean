/- The reckoner: regions that draw their order. No program is named. -/
import Derived.Test.YtcgopcfbgkhpgaaEv21
namespace Go.Proofs.Ytcgopcfbgkhpgaa.Ev
open Go.RowKit
variable {P : Program} {γ γ' : G} {w0 : Bs} {w : World} {H H' : Tr EK} {n n' : Nat} {T T0 : Tr EV} {cs : List Frame} {fid : FuncId} {FT : Tr FI} {o : Oper}

theorem filter_lt {p p' : Nat → Bool} (h : ∀ x, p' x = true → p x = true) {i : Nat} (hp : p i = true) (hp' : p' i = false) : ∀ {l : List Nat}, i ∈ l → (l.filter p').length < (l.filter p).length := by
  have le : ∀ l : List Nat, (l.filter p').length ≤ (l.filter p).length := fun l => by
    induction l with
    | nil => simp
    | cons a l ih =>
      rw [List.filter_cons, List.filter_cons]
      by_cases h1 : p' a = true
      · rw [if_pos h1, if_pos (h a h1)]; simpa using ih
      · rw [if_neg h1]
        by_cases h2 : p a = true
        · rw [if_pos h2]; simp; omega
        · rw [if_neg h2]; exact ih
  intro l
  induction l with
  | nil => intro hi; simp at hi
  | cons a l ih =>
    intro hi
    rw [List.filter_cons, List.filter_cons]
    rcases List.mem_cons.1 hi with rfl | hi
    · rw [if_neg (by rw [hp']; simp), if_pos hp]
      have := le l
      simp; omega
    · have := ih hi
      by_cases h1 : p' a = true
      · rw [if_pos h1, if_pos (h a h1)]; simpa using this
      · rw [if_neg h1]
        by_cases h2 : p a = true
        · rw [if_pos h2]; simp; omega
        · rw [if_neg h2]; exact this
theorem getD_set {l : Array Bool} {i j : Nat} {d : Bool} (h : j ≠ i) : (l.setIfInBounds i true).getD j d = l.getD j d := by
  rw [Array.getD_eq_getD_getElem?, Array.getD_eq_getD_getElem?, Array.getElem?_setIfInBounds_ne (Ne.symm h)]
theorem exists_min {D : Nat → Bool} : ∀ i, D i = false → ∃ j, j ≤ i ∧ D j = false ∧ ∀ k, k < j → D k = true := by
  intro i
  induction i using Nat.strongRecOn with
  | _ i ih =>
    intro hi
    by_cases h : ∃ k, k < i ∧ D k = false
    · obtain ⟨k, hk, hd⟩ := h
      obtain ⟨j, h1, h2, h3⟩ := ih k hk hd
      exact ⟨j, by omega, h2, h3⟩
    · refine ⟨i, Nat.le_refl _, hi, fun k hk => ?_⟩
      cases hD : D k with
      | true => rfl
      | false => exact absurd ⟨k, hk, hD⟩ h
theorem st_draw {fn : FuncId} {tmps : Array Value} {id : Nat} {ops : Array Oper} {k : List Item} {ds : List Deferred} {ro : Option Nat} (hm : P.follows .mixedOrders = true) :
    ∃ t, step P (lone (fram fn tmps (.code (.region id ops true) :: k) ds ro) cs w) = .next (lone (fram fn tmps (.inRegion ops (Region.linearise .any ops t) :: k) ds ro) cs { w with drawn := w.drawn + 1 }) :=
  ⟨w.tape w.drawn (.order fn id), step_lone_go (by simp [stepG, stepG.exec, choose, Sem.run, Question.forced, Question.cut, Region.schedule, hm])⟩
section
variable {sub : Sub} {q : QF} {RO : Tr (TypeId × SyC)} {ops : Array Oper} {A : List Nat} {n0 : Nat} {M0 : Mm} {R : List Rec} (hR : Run P sub q RO ops A T0 n0 M0 R)
include hR
theorem Run.all (hsub : LoudOk P sub) (hres : ∀ q, w0.res q → q < n0) {fn : FuncId} {k : List Item} {ds : List Deferred} {ro : Option Nat} {N : Nat} (hdst : ∀ (i : Nat) (o : Oper), ops[i]? = some o → ∀ d, o.dst = some d → d < N) :
    ∀ (fuel t : Nat) (listed : Array Bool) (γ : G) (tmps : Array Value) (w : World), ROk γ w0 RO → listed.size = ops.size → Good A ops.size (fun j => listed.getD j false) → ((List.range ops.size).filter fun i => !listed.getD i true).length ≤ fuel →
      TD γ ops T0 R (fun j => listed.getD j false) tmps → tmps.size = N → HD γ w0 ops.size (fun j => listed.getD j false) n0 R M0 w →
      ∃ γ' tmps' w', GLe γ γ' ∧ Steps P (lone (fram fn tmps (.inRegion ops (Region.linearise.go .any ops fuel t listed []) :: k) ds ro) cs w) (lone (fram fn tmps' (.inRegion ops [] :: k) ds ro) cs w') ∧ TD γ' ops T0 R (fun _ => true) tmps' ∧ tmps'.size = N ∧ HD γ' w0 ops.size (fun _ => true) n0 R M0 w' := by
  have done : ∀ (listed : Array Bool) (γ : G) (tmps : Array Value) (w : World), (∀ i, i < ops.size → listed.getD i false = true) → TD γ ops T0 R (fun j => listed.getD j false) tmps → HD γ w0 ops.size (fun j => listed.getD j false) n0 R M0 w →
      TD γ ops T0 R (fun _ => true) tmps ∧ HD γ w0 ops.size (fun _ => true) n0 R M0 w := fun listed γ tmps w hall hT hH => by
    refine ⟨fun s a hs => hT s a ?_, ?_⟩
    · rw [← hs]
      refine lw_congr fun j p hj _ => ?_
      obtain ⟨h1, _⟩ := zip_get.1 hj
      rw [Nat.zero_add, hall j (Array.getElem?_eq_some_iff.1 h1).1]
    · have e1 : md (fun j => listed.getD j false) R 0 M0 = md (fun _ => true) R 0 M0 := md_congr fun j p hj _ => by
        rw [Nat.zero_add, hall j (by rw [← hR.len]; exact (List.getElem?_eq_some_iff.1 hj).1)]
      unfold HD at hH ⊢
      rw [← e1]
      refine HR.lessRes (hH.congr fun b k hk => ?_) fun q hq => ?_
      · rw [hR.kd, ← e1] at hk
        rw [hR.kd]
        have hmp : fV (mpF (fun _ => true) R) n0 0 R b = fV (mpF (fun j => listed.getD j false) R) n0 0 R b := by
          refine fV_congr fun j p _ hp => ?_
          have e : insL (fun _ => true) j R 0 = insL (fun j => listed.getD j false) j R 0 := insL_congr fun z q d kv a hq _ => by
            rw [Nat.zero_add, hall z (by rw [← hR.len]; exact (List.getElem?_eq_some_iff.1 hq).1)]
          unfold mpF
          rw [e]
          simp only []
          rw [hall j (by rw [← hR.len]; exact (List.getElem?_eq_some_iff.1 hp).1)]
        rw [hmp] at hk
        have : frV (fun j => bc (tb (md (fun j => listed.getD j false) R 0 M0).a j) false true) n0 0 R b = frV (fun j => bc (tb (md (fun j => listed.getD j false) R 0 M0).a j) false (listed.getD j false)) n0 0 R b := by
          apply Option.ext
          intro c
          rw [frV_some, frV_some]
          constructor
          · rintro ⟨j, rj, rfl, h1, h2, h3⟩
            exact ⟨j, rj, rfl, h1, by rw [hall j (by rw [← hR.len]; exact (List.getElem?_eq_some_iff.1 h1).1)]; exact h2, h3⟩
          · rintro ⟨j, rj, rfl, h1, h2, h3⟩
            exact ⟨j, rj, rfl, h1, by rw [hall j (by rw [← hR.len]; exact (List.getElem?_eq_some_iff.1 h1).1)] at h2; exact h2, h3⟩
        rw [this] at hk
        exact hk
      · rcases hq with hq | ⟨j, _, h2, _⟩
        · exact .inl hq
        · cases h2
  intro fuel
  induction fuel with
  | zero =>
    intro t listed γ tmps w hRO hsz hg hc hT hN hH
    have hall : ∀ i, i < ops.size → listed.getD i false = true := fun i hi => by
      cases hD : listed.getD i false with
      | true => rfl
      | false =>
        have hmem : i ∈ (List.range ops.size).filter fun i => !listed.getD i true := by
          rw [List.mem_filter]
          refine ⟨List.mem_range.2 hi, ?_⟩
          have h1 : i < listed.size := by omega
          simp [Array.getD, h1] at hD ⊢
          exact hD
        have : 0 < ((List.range ops.size).filter fun i => !listed.getD i true).length := List.length_pos_of_mem hmem
        omega
    obtain ⟨f1, f2⟩ := done listed γ tmps w hall hT hH
    exact ⟨γ, tmps, w, GLe.refl γ, by simp [Region.linearise.go]; exact Steps.refl P _, f1, hN, f2⟩
  | succ fuel ih =>
    intro t listed γ tmps w hRO hsz hg hc hT hN hH
    simp only [Region.linearise.go]
    change ∃ γ' tmps' w', GLe γ γ' ∧ Steps P (lone (fram fn tmps (.inRegion ops (match (Region.ready .any ops listed)[t % (Region.ready .any ops listed).length]? with
      | some i => Region.linearise.go .any ops fuel (t / (Region.ready .any ops listed).length) (listed.setIfInBounds i true) [i]
      | none => [].reverse) :: k) ds ro) cs w) _ ∧ _
    cases hi : (Region.ready .any ops listed)[t % (Region.ready .any ops listed).length]? with
    | none =>
      have hnil : Region.ready .any ops listed = [] := by
        cases hr : Region.ready .any ops listed with
        | nil => rfl
        | cons x xs =>
          rw [hr] at hi
          have hlt : t % (x :: xs).length < (x :: xs).length := Nat.mod_lt _ (by simp)
          simp at hi
          simp at hlt
          omega
      have hall : ∀ i, i < ops.size → listed.getD i false = true := fun i hi => by
        cases hD : listed.getD i false with
        | true => rfl
        | false =>
          obtain ⟨j, h1, h2, h3⟩ := exists_min (D := fun j => listed.getD j false) i hD
          have hj : j < ops.size := by omega
          have hjl : j < listed.size := by omega
          have : j ∈ Region.ready .any ops listed := by
            unfold Region.ready
            rw [List.mem_filter]
            refine ⟨List.mem_range.2 hj, ?_⟩
            have h2' : listed.getD j true = false := by
              simp [Array.getD, hjl] at h2 ⊢; exact h2
            rw [h2']
            have ho : ops[j]? = some ops[j] := by simp [hj]
            rw [ho]
            simp only [Bool.not_false, Option.map_some, Option.getD_some, Bool.true_and]
            rw [Array.all_eq_true']
            intro e he
            by_cases hb : Region.binds .any e = true
            · have := h3 e.on (hR.st.lt j ops[j] ho e.on (by unfold deps; exact List.mem_map.2 ⟨e, List.mem_filter.2 ⟨by simpa using he, hb⟩, rfl⟩))
              have this : listed.getD e.on false = true := this
              rw [this]; simp
            · simp at hb; simp [hb]
          rw [hnil] at this; simp at this
      obtain ⟨f1, f2⟩ := done listed γ tmps w hall hT hH
      exact ⟨γ, tmps, w, GLe.refl γ, Steps.refl P _, f1, hN, f2⟩
    | some i =>
      simp only []
      rw [linearise_go_acc, List.reverse_singleton, List.singleton_append]
      have hmem : i ∈ Region.ready .any ops listed := List.mem_of_getElem? hi
      unfold Region.ready at hmem
      rw [List.mem_filter] at hmem
      obtain ⟨hm1, hm2⟩ := hmem
      have hil : i < ops.size := List.mem_range.1 hm1
      have hil2 : i < listed.size := by omega
      have ho : ops[i]? = some ops[i] := by simp [hil]
      rw [ho] at hm2
      simp only [Option.map_some, Option.getD_some, Bool.and_eq_true] at hm2
      obtain ⟨hm3, hm4⟩ := hm2
      have hnD : listed.getD i false = false := by
        simp [Array.getD, hil2] at hm3 ⊢; exact hm3
      have hdeps : ∀ d ∈ deps ops[i], listed.getD d false = true := fun d hd => by
        unfold deps at hd
        obtain ⟨e, he, rfl⟩ := List.mem_map.1 hd
        obtain ⟨he1, he2⟩ := List.mem_filter.1 he
        rw [Array.all_eq_true'] at hm4
        have := hm4 e (by simpa using he1)
        rw [he2] at this
        simpa using this
      obtain ⟨γ1, tmps1, w1, hle1, hs1, hT1, hN1, hH1⟩ := hR.any (w := w) (cs := cs) (w0 := w0) hRO hsub hres (fn := fn) (rest := Region.linearise.go .any ops fuel (t / (Region.ready .any ops listed).length) (listed.setIfInBounds i true) []) (k := k) (ds := ds) (ro := ro) hg ho hnD hdeps hT hN (hdst i _ ho) hH
      have hins : (fun j => (listed.setIfInBounds i true).getD j false) = ins (fun j => listed.getD j false) i := funext fun j => by
        unfold ins
        by_cases e : j = i
        · subst e; rw [if_pos rfl]; simp [Array.getD, hil2]
        · rw [if_neg e]
          exact getD_set e
      have hg1 : Good A ops.size (fun j => (listed.setIfInBounds i true).getD j false) := by
        rw [hins]
        intro q hq hDq j hj
        unfold ins at hDq ⊢
        by_cases e2 : j = i
        · rw [if_pos e2]
        · rw [if_neg e2]
          by_cases e : q = i
          · subst e
            exact hR.st.sub hg ho hdeps j hj
          · rw [if_neg e] at hDq
            exact hg q hq hDq j hj
      have hc1 : ((List.range ops.size).filter fun j => !(listed.setIfInBounds i true).getD j true).length ≤ fuel := by
        have := filter_lt (p := fun j => !listed.getD j true) (p' := fun j => !(listed.setIfInBounds i true).getD j true) (i := i) (fun x hx => by
          by_cases e : x = i
          · subst e; exact hm3
          · simp only [getD_set e] at hx
            exact hx) hm3 (by simp [Array.getD, hil2]) hm1
        omega
      obtain ⟨γ2, tmps2, w2, hle2, hs2, hT2, hN2, hH2⟩ := ih (t / (Region.ready .any ops listed).length) (listed.setIfInBounds i true) γ1 tmps1 w1 (hRO.mono hle1) (by simp [hsz]) hg1 hc1 (by rw [hins]; exact hT1) hN1 (by rw [hins]; exact hH1)
      exact ⟨γ2, tmps2, w2, hle1.trans hle2, hs1.trans hs2, hT2, hN2, hH2⟩
end
end Go.Proofs.Ytcgopcfbgkhpgaa.Ev
