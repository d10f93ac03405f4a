/- The reckoner's operations: maps whose keys are strings, ints or bools. No program is named. -/
import Derived.Test.YtcgopcfbgkhpgaaEv7c
namespace Go.Proofs.Ytcgopcfbgkhpgaa.Ev
open Go.RowKit Go.MapKept
variable {P : Program} {γ : G} {w0 : Bs} {w : World} {H H' : Tr EK} {n n' : Nat} {T : Tr EV} {tmps : Array Value} {o : Oper} {r : Option EV}

noncomputable def isKeyB (d : TypeDesc) (k : Value) : Bool := match d with
  | .bool => match k with
    | .bool _ => true
    | _ => false
  | .int q => match k with
    | .int q' _ => decide (q' = q)
    | _ => false
  | .string => match k with
    | .string _ => true
    | _ => false
  | _ => false
theorem isKeyB_ok {d : TypeDesc} {k : Value} (h : isKeyB d k = true) : IsKey d k := by
  unfold isKeyB at h
  split at h
  · split at h
    · trivial
    · cases h
  · split at h
    · have := of_decide_eq_true h
      exact this
    · cases h
  · split at h
    · trivial
    · cases h
  · cases h
/-- the same key -/
noncomputable def kEq (d : TypeDesc) (a b : Value) : Bool := match Instr.sameNow d a b with
  | some r => r
  | none => false
theorem kEq_iff {d : TypeDesc} {a b : Value} (ha : IsKey d a) (hb : IsKey d b) : kEq d a b = true ↔ a = b := by
  obtain ⟨r, h1, h2⟩ := sameNow_of_keys ha hb
  unfold kEq
  rw [h1]; exact h2
noncomputable def keysB (d : TypeDesc) (es : List (Value × EV)) : Bool := List.rec true (fun p _ ih => bc (isKeyB d p.1) ih false) es
theorem keysB_ok {d : TypeDesc} : ∀ {es : List (Value × EV)}, keysB d es = true → ∀ p ∈ es, IsKey d p.1
  | [], _, p, hp => by simp at hp
  | q :: es, h, p, hp => by
    have h' : bc (isKeyB d q.1) (keysB d es) false = true := h
    rw [bc_eq] at h'
    split at h'
    · rename_i hq
      rcases List.mem_cons.1 hp with rfl | hp
      · exact isKeyB_ok hq
      · exact keysB_ok h' p hp
    · cases h'
noncomputable def findE (d : TypeDesc) (k : Value) (es : List (Value × EV)) : Option EV := List.rec none (fun p _ ih => bc (kEq d k p.1) (some p.2) ih) es
noncomputable def dropE (d : TypeDesc) (k : Value) (es : List (Value × EV)) : List (Value × EV) := List.rec [] (fun p _ ih => bc (kEq d k p.1) ih (p :: ih)) es
theorem ML.find {d : TypeDesc} {k : Value} (hk : IsKey d k) : ∀ {es : List (Value × EV)} {l : List (Value × Value)}, ML γ es l → (∀ p ∈ es, IsKey d p.1) →
    (findE d k es = none → ∀ p ∈ l, p.1 ≠ k) ∧ (∀ a, findE d k es = some a → ∃ x, (k, x) ∈ l ∧ EC γ a x)
  | _, _, .nil, _ => ⟨fun _ p hp => by simp at hp, fun a h => by cases h⟩
  | _, _, .cons (es := es) (l := l) q (a := b) (x := y) hc hr, h => by
    have e : findE d k ((q, b) :: es) = bc (kEq d k q) (some b) (findE d k es) := rfl
    have hq := h (q, b) (by simp)
    obtain ⟨i1, i2⟩ := ML.find hk hr (fun p hp => h p (by simp [hp]))
    rw [e, bc_eq]
    by_cases hkq : k = q
    · subst hkq
      rw [if_pos ((kEq_iff hk hk).2 rfl)]
      refine ⟨fun h => (by cases h), fun a h => ?_⟩
      injection h with h; subst h; exact ⟨y, by simp, hc⟩
    · rw [if_neg (fun e => hkq ((kEq_iff hk hq).1 e))]
      refine ⟨fun h p hp => ?_, fun a h => ?_⟩
      · rcases List.mem_cons.1 hp with rfl | hp
        · exact fun e => hkq e.symm
        · exact i1 h p hp
      · obtain ⟨x, h1, h2⟩ := i2 a h
        exact ⟨x, by simp [h1], h2⟩
theorem ML.drop {d : TypeDesc} {k : Value} (hk : IsKey d k) : ∀ {es : List (Value × EV)} {l : List (Value × Value)}, ML γ es l → (∀ p ∈ es, IsKey d p.1) → ∃ l', ML γ (dropE d k es) l' ∧ (∀ p, p ∈ l' ↔ p ∈ l ∧ p.1 ≠ k) ∧ List.Sublist l' l
  | _, _, .nil, _ => ⟨[], .nil, by simp, .slnil⟩
  | _, _, .cons (es := es) (l := l) q (a := b) (x := y) hc hr, h => by
    have e : dropE d k ((q, b) :: es) = bc (kEq d k q) (dropE d k es) ((q, b) :: dropE d k es) := rfl
    have hq := h (q, b) (by simp)
    obtain ⟨l', i1, i2, i3⟩ := ML.drop hk hr (fun p hp => h p (by simp [hp]))
    rw [e, bc_eq]
    by_cases hkq : k = q
    · subst hkq
      rw [if_pos ((kEq_iff hk hk).2 rfl)]
      refine ⟨l', i1, fun p => ?_, i3.cons _⟩
      rw [i2 p]
      constructor
      · rintro ⟨h1, h2⟩; exact ⟨by simp [h1], h2⟩
      · rintro ⟨h1, h2⟩
        rcases List.mem_cons.1 h1 with rfl | h1
        · exact absurd rfl h2
        · exact ⟨h1, h2⟩
    · rw [if_neg (fun e => hkq ((kEq_iff hk hq).1 e))]
      refine ⟨(q, y) :: l', .cons q hc i1, fun p => ?_, i3.cons_cons _⟩
      constructor
      · intro h1
        rcases List.mem_cons.1 h1 with rfl | h1
        · exact ⟨by simp, fun e => hkq e.symm⟩
        · obtain ⟨h2, h3⟩ := (i2 p).1 h1
          exact ⟨by simp [h2], h3⟩
      · rintro ⟨h1, h2⟩
        rcases List.mem_cons.1 h1 with rfl | h1
        · simp
        · simp [(i2 p).2 ⟨h1, h2⟩]
theorem mem_kvs {ents : Array MapEntry} {p : Value × Value} : p ∈ kvs ents ↔ ∃ e ∈ ents.toList, e.key = p.1 ∧ e.val = p.2 := by
  unfold kvs
  rw [List.mem_map]
  constructor
  · rintro ⟨e, h1, rfl⟩; exact ⟨e, h1, rfl, rfl⟩
  · rintro ⟨e, h1, h2, h3⟩; exact ⟨e, h1, by rw [h2, h3]⟩
theorem kvs_keys {ents : Array MapEntry} : (kvs ents).map (·.1) = ents.toList.map (·.key) := by
  unfold kvs
  rw [List.map_map]; rfl
/-- two entries of one key -/
theorem one_of {ents : Array MapEntry} {clock : Nat} (hs : Stamped ents clock) : ∀ {e f : MapEntry}, e ∈ ents.toList → f ∈ ents.toList → e.key = f.key → e = f := by
  have h := (stamped_iff ents clock).1 hs
  have hp := h.2.2
  intro e f he hf hk
  rcases List.mem_iff_getElem.1 he with ⟨i, hi, rfl⟩
  rcases List.mem_iff_getElem.1 hf with ⟨j, hj, rfl⟩
  rw [List.pairwise_iff_getElem] at hp
  rcases Nat.lt_trichotomy i j with h1 | h1 | h1
  · exact absurd hk (hp i j hi hj h1)
  · subst h1; rfl
  · exact absurd hk.symm (hp j i hj hi h1)
theorem ML.keys {es : List (Value × EV)} {l : List (Value × Value)} (h : ML γ es l) : es.map (·.1) = l.map (·.1) := by
  induction h with
  | nil => rfl
  | cons k _ _ ih => simp [ih]
theorem keys_of {d : TypeDesc} {ents : Array MapEntry} {es : List (Value × EV)} {l : List (Value × Value)} (hp : (kvs ents).Perm l) (hm : ML γ es l) (h : ∀ p ∈ es, IsKey d p.1) : ∀ x ∈ ents.toList, IsKey d x.key := fun x hx => by
  have h1 : x.key ∈ (kvs ents).map (·.1) := by rw [kvs_keys]; exact List.mem_map.2 ⟨x, hx, rfl⟩
  have h2 : x.key ∈ l.map (·.1) := (hp.map _).mem_iff.1 h1
  rw [← hm.keys] at h2
  obtain ⟨p, hp1, hp2⟩ := List.mem_map.1 h2
  rw [← hp2]; exact h p hp1
theorem nodup_of_keys {l : List (Value × Value)} (h : (l.map (·.1)).Nodup) : l.Nodup := by
  induction l with
  | nil => simp
  | cons a l ih =>
    simp only [List.map_cons, List.nodup_cons] at h ⊢
    exact ⟨fun e => h.1 (List.mem_map.2 ⟨a, e, rfl⟩), ih h.2⟩
/-- same members, no doubles -/
theorem perm_of_mem {l m : List (Value × Value)} (hl : l.Nodup) (hm : m.Nodup) (h : ∀ p, p ∈ l ↔ p ∈ m) : l.Perm m := (List.perm_ext_iff_of_nodup hl hm).2 h
/-! ### the operations -/
noncomputable def mapOf (P : Program) (t : TypeId) : Option (TypeId × TypeId × TypeDesc) := match P.underlying t with
  | some (.map k e) => match P.underlying k with
    | some d => some (k, e, d)
    | none => none
  | _ => none
theorem mapOf_ok {t k e : TypeId} {d : TypeDesc} (h : mapOf P t = some (k, e, d)) : P.underlying t = some (.map k e) ∧ P.underlying k = some d := by
  unfold mapOf at h
  split at h
  · rename_i k' e' hu
    split at h
    · rename_i d' hd
      simp only [Option.some.injEq, Prod.mk.injEq] at h
      obtain ⟨rfl, rfl, rfl⟩ := h
      exact ⟨hu, hd⟩
    · cases h
  · cases h
noncomputable def mpAt (T : Tr EV) (H : Tr EK) (m : Operand) : Option (Nat × List (Value × EV)) := match exVal T m with
  | some (.mp i) => match H.get i with
    | some (.mp es) => some (i, es)
    | _ => none
  | _ => none
theorem mpAt_ok (hT : TOk γ T tmps) (hH : HR γ w0 H n w) {m : Operand} {i : Nat} {es : List (Value × EV)} (h : mpAt T H m = some (i, es)) :
    ∃ (b : Pl) (q : Nat) (ents : Array MapEntry) (clock : Nat) (l : List (Value × Value)), γ i = some (b, q) ∧ opEval tmps m = .map (some b.k) ∧ H.get i = some (.mp es) ∧ w.heap[b.k]? = some (.map ents clock) ∧ Stamped ents clock ∧ (kvs ents).Perm l ∧ ML γ es l := by
  unfold mpAt at h
  split at h
  case h_2 => cases h
  rename_i j hm
  split at h
  case h_2 => cases h
  rename_i es' hg
  simp only [Option.some.injEq, Prod.mk.injEq] at h
  obtain ⟨rfl, rfl⟩ := h
  have hc := exVal_ok hT hm
  generalize hy : opEval tmps m = y at hc
  cases hc with
  | mp _ b q hγ =>
    obtain ⟨b2, q2, h1, _, ents, clock, l, h2, h3, h4, h5⟩ := hH.hp j _ hg
    rw [hγ] at h1
    simp only [Option.some.injEq, Prod.mk.injEq] at h1
    obtain ⟨rfl, rfl⟩ := h1
    exact ⟨b, q, ents, clock, l, hγ, rfl, hg, h2, h3, h4, h5⟩
noncomputable def exMakeMap (hint : Option Operand) (H : Tr EK) (n : Nat) : Option ER := match hint with
  | none => bc (Nat.ble n 65535) (some ⟨some (.mp n), H.put n (some (.mp [])), Nat.succ n⟩) none
  | some _ => none
theorem run_makeMap {t : TypeId} (ho : o.op = .makeMap t none) (w : World) : (execOp (opEval tmps) o).run P w = .ok (.value (.map (some w.heap.size))) (w.alloc (.map #[] 0)) := by
  have he : execOp (opEval tmps) o = (do pure (Next.value (← Instr.makeMap t none)) : Sem Next) := by unfold execOp; rw [ho]; rfl
  rw [he]
  refine run_v ?_
  simp [Instr.makeMap, newObj, Sem.run]
theorem mp_nil (γ : G) (b : Pl) (q : Nat) {w : World} (h : w.heap[b.k]? = some (.map #[] 0)) : (EK.mp []).ok γ b q w := ⟨#[], 0, [], h, stamped_empty 0, by simp [kvs], .nil⟩
theorem exMakeMap_ok (hH : HR γ w0 H n w) {t : TypeId} {hint : Option Operand} {er : ER} (ho : o.op = .makeMap t hint) (h : exMakeMap hint H n = some er) : Gives P γ w0 w (execOp (opEval tmps) o) er.val er.H er.n := by
  unfold exMakeMap at h
  split at h
  case h_2 => cases h
  rw [bc_eq] at h
  split at h
  case isFalse => cases h
  rename_i hn
  injection h with h; subst h
  have hnew : HR (γ.upd n (⟨w.heap.size, 0⟩, 0)) w0 (H.put n (some (.mp []))) (n + 1) (w.alloc (.map #[] 0)) := hH.new hn (.map #[] 0) 0 (.mp []) rfl rfl rfl rfl (mp_nil _ _ _ (World.alloc_heap_new w (.map #[] 0)))
  exact ⟨_, w.alloc (.map #[] 0), G.upd_le (hH.fresh n (Nat.le_refl _)), hnew, .map (some w.heap.size), run_makeMap ho w, .mp n ⟨w.heap.size, 0⟩ 0 G.upd_same⟩
noncomputable def exLookup (P : Program) (T : Tr EV) (t : TypeId) (m k : Operand) (ok : Bool) (H : Tr EK) : Option EV := match mpAt T H m with
  | some (_, es) => match mapOf P t with
    | some (_, e, d) => match exVal T k with
      | some (.v kv) => bc (isKeyB d kv) (bc (keysB d es) (match findE d kv es with
        | some a => some (bc ok (.tup [a, .v (.bool true)]) a)
        | none => match pureOf P (zeroValue e) with
          | some z => some (bc ok (.v (.tuple #[z, .bool false])) (.v z))
          | none => none) none) none
      | _ => none
    | none => none
  | none => none
theorem exLookup_ok (hT : TOk γ T tmps) (hH : HR γ w0 H n w) {t : TypeId} {m k : Operand} {ok : Bool} {a : EV} (ho : o.op = .lookup t m k ok) (h : exLookup P T t m k ok H = some a) : Gives P γ w0 w (execOp (opEval tmps) o) (some a) H n := by
  unfold exLookup at h
  split at h
  case h_2 => cases h
  rename_i i es hm
  split at h
  case h_2 => cases h
  rename_i kt e d ht
  split at h
  case h_2 => cases h
  rename_i kv hk
  rw [bc_eq] at h
  split at h
  case isFalse => cases h
  rename_i hkey
  rw [bc_eq] at h
  split at h
  case isFalse => cases h
  rename_i hkeys
  obtain ⟨b, q, ents, clock, l, hγ, hv, hg, hb, hs, hp, hl⟩ := mpAt_ok hT hH hm
  obtain ⟨hu, hd⟩ := mapOf_ok ht
  have hkv := ec_v (exVal_ok hT hk)
  have hK := isKeyB_ok hkey
  have hKs := keysB_ok hkeys
  have hE := keys_of hp hl hKs
  obtain ⟨f1, f2⟩ := ML.find hK hl hKs
  have he : execOp (opEval tmps) o = (do pure (Next.value (← Instr.lookup t (opEval tmps m) (opEval tmps k) ok)) : Sem Next) := by unfold execOp; rw [ho]
  rcases findNow_spec hK ents.toList 0 hE with ⟨h1, h2⟩ | ⟨j, e0, h1, h2, h3⟩
  · have hnone : findE d kv es = none := by
      cases hf : findE d kv es with
      | none => rfl
      | some a' =>
        obtain ⟨x, g1, _⟩ := f2 a' hf
        obtain ⟨e1, g2, g3, _⟩ := mem_kvs.1 (hp.mem_iff.2 g1)
        exact absurd g3 (h2 e1 g2)
    rw [hnone] at h
    dsimp only at h
    split at h
    case h_2 => cases h
    rename_i z hz
    injection h with h; subst h
    refine gives_value (x := if ok then .tuple #[z, .bool false] else z) ?_ ?_ hH
    · rw [he]
      refine run_v ?_
      cases ok <;> simp [Instr.lookup, hv, hkv, run_underlying hu, MapKept.run_getObj_map hb, run_checkKey hd hK, run_findKey hd h1, pureOf_run hz, Result.andThen]
    · rw [bc_eq]; cases ok
      · exact .v _
      · exact .v _
  · have hmem : e0 ∈ ents.toList := List.mem_of_getElem? h2
    have hin : (kv, e0.val) ∈ l := hp.mem_iff.1 (mem_kvs.2 ⟨e0, hmem, h3, rfl⟩)
    cases hf : findE d kv es with
    | none => exact absurd rfl (f1 hf _ hin)
    | some a' =>
      rw [hf] at h
      injection h with h; subst h
      obtain ⟨x, g1, g2⟩ := f2 a' hf
      obtain ⟨e1, g3, g4, g5⟩ := mem_kvs.1 (hp.mem_iff.2 g1)
      have := one_of hs g3 hmem (by rw [h3]; exact g4)
      subst this
      have g5 : e1.val = x := g5
      subst g5
      refine gives_value (x := if ok then .tuple #[e1.val, .bool true] else e1.val) ?_ ?_ hH
      · rw [he]
        refine run_v ?_
        cases ok <;> simp [Instr.lookup, hv, hkv, run_underlying hu, MapKept.run_getObj_map hb, run_checkKey hd hK, run_findKey hd h1, Result.andThen]
      · rw [bc_eq]; cases ok
        · exact g2
        · exact .tup _ [e1.val, .bool true] rfl (ECL.cons g2 (ECL.cons (.v _) (ECL.nil γ))).2
/-- an entry is set -/
noncomputable def setEnt (d : TypeDesc) (k : Value) (a : EV) (es : List (Value × EV)) : List (Value × EV) := (k, a) :: dropE d k es
theorem mp_set {d : TypeDesc} {k : Value} {a : EV} {x : Value} {es : List (Value × EV)} {ents : Array MapEntry} {clock : Nat} {l : List (Value × Value)} {kt mt et : TypeId} {r : Nat} (hu : P.underlying mt = some (.map kt et)) (hd : P.underlying kt = some d) (hK : IsKey d k) (hKs : ∀ p ∈ es, IsKey d p.1) (hb : w.heap[r]? = some (.map ents clock)) (hs : Stamped ents clock) (hp : (kvs ents).Perm l) (hl : ML γ es l) (hc : EC γ a x) :
    ∃ ents' clock', (Instr.mapUpdate mt (.map (some r)) k x).run P w = .ok () (w.putObj r (.map ents' clock')) ∧ Stamped ents' clock' ∧ ∃ l', (kvs ents').Perm l' ∧ ML γ (setEnt d k a es) l' := by
  have hE := keys_of hp hl hKs
  obtain ⟨l', g1, g2, g3⟩ := ML.drop hK hl hKs
  have hnl : (l.map (·.1)).Nodup := ((hp.map (·.1)).nodup_iff).1 (by rw [kvs_keys]; exact hs.2.2)
  have hnd : ((((k, x) :: l')).map (·.1)).Nodup := by
    simp only [List.map_cons, List.nodup_cons]
    refine ⟨fun h => ?_, (g3.map _).nodup hnl⟩
    obtain ⟨p, h1, h2⟩ := List.mem_map.1 h
    exact ((g2 p).1 h1).2 h2
  rcases findNow_spec hK ents.toList 0 hE with ⟨h1, h2⟩ | ⟨j, e, h1, h2, h3⟩
  · refine ⟨ents.push { key := k, val := x, born := clock }, clock + 1, ?_, stamped_push hs h2, (k, x) :: l', ?_, .cons k hc g1⟩
    · simp [Instr.mapUpdate, run_underlying hu, MapKept.run_getObj_map hb, run_checkKey hd hK, run_findKey hd h1, MapKept.run_setObj_map _ hb, Result.andThen]
      rfl
    · have hs' := stamped_push (val := x) hs h2
      refine perm_of_mem (nodup_of_keys (by rw [kvs_keys]; exact hs'.2.2)) (nodup_of_keys hnd) fun p => ?_
      rw [mem_kvs]
      constructor
      · rintro ⟨e, q1, q2, q3⟩
        simp only [Array.toList_push, List.mem_append, List.mem_singleton] at q1
        rcases q1 with q1 | rfl
        · exact List.mem_cons.2 (.inr ((g2 p).2 ⟨hp.mem_iff.1 (mem_kvs.2 ⟨e, q1, q2, q3⟩), fun h => h2 e q1 (q2.trans h)⟩))
        · exact List.mem_cons.2 (.inl (Prod.ext q2.symm q3.symm))
      · intro h
        rcases List.mem_cons.1 h with rfl | h
        · exact ⟨{ key := k, val := x, born := clock }, by simp, rfl, rfl⟩
        · obtain ⟨e, q1, q2, q3⟩ := mem_kvs.1 (hp.mem_iff.2 ((g2 p).1 h).1)
          exact ⟨e, by simp [q1], q2, q3⟩
  · have hj : ents[j]? = some e := by simpa using h2
    have hmem : e ∈ ents.toList := List.mem_of_getElem? h2
    have hkey : ∀ e', ents[j]? = some e' → ({ e' with key := k, val := x } : MapEntry).key = e'.key := fun e' he' => by rw [hj] at he'; cases he'; exact h3.symm
    have hs' := stamped_modify hs j (fun e => { e with key := k, val := x }) (fun _ _ => rfl) (fun e' _ he' => hkey e' he')
    refine ⟨ents.modify j fun e => { e with key := k, val := x }, clock, ?_, hs', (k, x) :: l', ?_, .cons k hc g1⟩
    · simp [Instr.mapUpdate, run_underlying hu, MapKept.run_getObj_map hb, run_checkKey hd hK, run_findKey hd h1, hj, h3, run_keyThatStays hK, MapKept.run_setObj_map _ hb, Result.andThen]
      rfl
    · refine perm_of_mem (nodup_of_keys (by rw [kvs_keys]; exact hs'.2.2)) (nodup_of_keys hnd) fun p => ?_
      rw [mem_kvs]
      have hget : ∀ i : Nat, (ents.modify j fun e => { e with key := k, val := x })[i]? = if j = i then (ents[i]?).map (fun e => { e with key := k, val := x }) else ents[i]? := fun i => Array.getElem?_modify ..
      constructor
      · rintro ⟨f, q1, q2, q3⟩
        obtain ⟨i, hi⟩ := List.mem_iff_getElem?.1 q1
        rw [Array.getElem?_toList, hget i] at hi
        by_cases hij : j = i
        · subst hij
          rw [if_pos rfl, hj] at hi
          simp at hi; subst hi
          exact List.mem_cons.2 (.inl (Prod.ext q2.symm q3.symm))
        · rw [if_neg hij] at hi
          have hf : f ∈ ents.toList := List.mem_of_getElem? (by rw [Array.getElem?_toList]; exact hi)
          refine List.mem_cons.2 (.inr ((g2 p).2 ⟨hp.mem_iff.1 (mem_kvs.2 ⟨f, hf, q2, q3⟩), fun h => ?_⟩))
          have : f = e := one_of hs hf hmem (by rw [h3, q2, h])
          subst this
          -- one place alone
          have hpw := ((stamped_iff ents clock).1 hs).2.2
          rw [List.pairwise_iff_getElem] at hpw
          obtain ⟨a1, a2⟩ := List.getElem?_eq_some_iff.1 h2
          have hi' : ents.toList[i]? = some f := by rw [Array.getElem?_toList]; exact hi
          obtain ⟨b1, b2⟩ := List.getElem?_eq_some_iff.1 hi'
          rcases Nat.lt_or_gt_of_ne hij with hlt | hlt
          · exact hpw j i a1 b1 hlt (by rw [a2, b2])
          · exact hpw i j b1 a1 hlt (by rw [a2, b2])
      · intro h
        rcases List.mem_cons.1 h with rfl | h
        · refine ⟨{ e with key := k, val := x }, List.mem_iff_getElem?.2 ⟨j, ?_⟩, rfl, rfl⟩
          rw [Array.getElem?_toList, hget j, if_pos rfl, hj]; rfl
        · obtain ⟨q0, q4⟩ := (g2 p).1 h
          obtain ⟨f, q1, q2, q3⟩ := mem_kvs.1 (hp.mem_iff.2 q0)
          obtain ⟨i, hi⟩ := List.mem_iff_getElem?.1 q1
          rw [Array.getElem?_toList] at hi
          have hij : j ≠ i := fun e => by
            subst e; rw [hj] at hi; injection hi with hi; subst hi
            exact q4 (q2.symm.trans h3)
          refine ⟨f, List.mem_iff_getElem?.2 ⟨i, ?_⟩, q2, q3⟩
          rw [Array.getElem?_toList, hget i, if_neg hij]; exact hi
noncomputable def exMapUpd (P : Program) (T : Tr EV) (t : TypeId) (m k x : Operand) (H : Tr EK) (n : Nat) : Option ER := match mpAt T H m with
  | some (i, es) => match mapOf P t with
    | some (_, _, d) => match exVal T k with
      | some (.v kv) => match exVal T x with
        | some a => bc (isKeyB d kv) (bc (keysB d es) (bc (Nat.ble i 65535) (some ⟨none, H.put i (some (.mp (setEnt d kv a es))), n⟩) none) none) none
        | none => none
      | _ => none
    | none => none
  | none => none
theorem exMapUpd_ok (hT : TOk γ T tmps) (hH : HR γ w0 H n w) {t : TypeId} {m k x : Operand} {er : ER} (ho : execOp (opEval tmps) o = (do Instr.mapUpdate t (opEval tmps m) (opEval tmps k) (opEval tmps x); pure Next.skip : Sem Next)) (h : exMapUpd P T t m k x H n = some er) : Gives P γ w0 w (execOp (opEval tmps) o) er.val er.H er.n := by
  unfold exMapUpd at h
  split at h
  case h_2 => cases h
  rename_i i es hm
  split at h
  case h_2 => cases h
  rename_i kt e d ht
  split at h
  case h_2 => cases h
  rename_i kv hk
  split at h
  case h_2 => cases h
  rename_i a ha
  rw [bc_eq] at h
  split at h
  case isFalse => cases h
  rename_i hkey
  rw [bc_eq] at h
  split at h
  case isFalse => cases h
  rename_i hkeys
  rw [bc_eq] at h
  split at h
  case isFalse => cases h
  rename_i hi
  injection h with h; subst h
  obtain ⟨b, q, ents, clock, l, hγ, hv, hg, hb, hs, hp, hl⟩ := mpAt_ok hT hH hm
  obtain ⟨hu, hd⟩ := mapOf_ok ht
  have hkv := ec_v (exVal_ok hT hk)
  obtain ⟨ents', clock', r1, r2, l', r3, r4⟩ := mp_set (w := w) hu hd (isKeyB_ok hkey) (keysB_ok hkeys) hb hs hp hl (exVal_ok hT ha)
  have hlt := (Array.getElem?_eq_some_iff.1 hb).1
  refine ⟨γ, w.putObj b.k (.map ents' clock'), GLe.refl γ, hH.turn hi hg hγ _ (fun c hc => World.putObj_heap_other hc) (by simp) rfl rfl rfl ⟨ents', clock', l', World.putObj_heap_same hlt, r2, r3, r4⟩, ?_⟩
  show (execOp (opEval tmps) o).run P w = .ok .skip _
  rw [ho, hv, hkv]
  simp [r1, Result.andThen]
noncomputable def exDelete (P : Program) (T : Tr EV) (args : List Operand) (ats : List TypeId) (H : Tr EK) (n : Nat) : Option ER := match args with
  | [m, k] => match ats with
    | t :: _ => match mpAt T H m with
      | some (i, es) => match mapOf P t with
        | some (_, _, d) => match exVal T k with
          | some (.v kv) => bc (isKeyB d kv) (bc (keysB d es) (bc (Nat.ble i 65535) (some ⟨some (.v (.tuple #[])), H.put i (some (.mp (dropE d kv es))), n⟩) none) none) none
          | _ => none
        | none => none
      | none => none
    | _ => none
  | _ => none
theorem mp_del {d : TypeDesc} {k : Value} {es : List (Value × EV)} {ents : Array MapEntry} {clock : Nat} {l : List (Value × Value)} {kt mt et ty : TypeId} {ts : List TypeId} {r : Nat} (hu : P.underlying mt = some (.map kt et)) (hd : P.underlying kt = some d) (hK : IsKey d k) (hKs : ∀ p ∈ es, IsKey d p.1) (hb : w.heap[r]? = some (.map ents clock)) (hs : Stamped ents clock) (hp : (kvs ents).Perm l) (hl : ML γ es l) :
    ∃ ents', (Builtin.delete_ (mt :: ts).toArray ty #[.map (some r), k]).run P w = .ok (.tuple #[]) (w.putObj r (.map ents' clock)) ∧ Stamped ents' clock ∧ ∃ l', (kvs ents').Perm l' ∧ ML γ (dropE d k es) l' := by
  have hE := keys_of hp hl hKs
  obtain ⟨l', g1, g2, g3⟩ := ML.drop hK hl hKs
  have hnl : (l.map (·.1)).Nodup := ((hp.map (·.1)).nodup_iff).1 (by rw [kvs_keys]; exact hs.2.2)
  have hnd : (l'.map (·.1)).Nodup := (g3.map _).nodup hnl
  rcases findNow_spec hK ents.toList 0 hE with ⟨h1, h2⟩ | ⟨j, e, h1, h2, h3⟩
  · refine ⟨ents, ?_, hs, l', ?_, g1⟩
    · simp [Builtin.delete_, run_underlying hu, MapKept.run_getObj_map hb, run_checkKey hd hK, run_findKey hd h1, MapKept.run_setObj_map _ hb, Result.andThen]
      rfl
    · refine perm_of_mem (nodup_of_keys (by rw [kvs_keys]; exact hs.2.2)) (nodup_of_keys hnd) fun p => ?_
      rw [g2 p, hp.mem_iff]
      refine ⟨fun h => ⟨h, fun e => ?_⟩, fun h => h.1⟩
      obtain ⟨f, q1, q2, q3⟩ := mem_kvs.1 (hp.mem_iff.2 h)
      exact h2 f q1 (q2.trans e)
  · have hs' := stamped_erase hs j
    refine ⟨ents.eraseIdxIfInBounds j, ?_, hs', l', ?_, g1⟩
    · simp [Builtin.delete_, run_underlying hu, MapKept.run_getObj_map hb, run_checkKey hd hK, run_findKey hd h1, MapKept.run_setObj_map _ hb, Result.andThen]
      rfl
    · refine perm_of_mem (nodup_of_keys (by rw [kvs_keys]; exact hs'.2.2)) (nodup_of_keys hnd) fun p => ?_
      have hj : j < ents.size := by
        have := (List.getElem?_eq_some_iff.1 h2).1
        simpa using this
      have he : (ents.eraseIdxIfInBounds j).toList = ents.toList.eraseIdx j := by
        unfold Array.eraseIdxIfInBounds
        rw [dif_pos hj, Array.toList_eraseIdx]
      rw [g2 p, mem_kvs, he]
      constructor
      · rintro ⟨f, q1, q2, q3⟩
        obtain ⟨i, hi, hfi⟩ := List.mem_eraseIdx_iff_getElem?.1 q1
        have hf : f ∈ ents.toList := List.mem_of_getElem? hfi
        refine ⟨hp.mem_iff.1 (mem_kvs.2 ⟨f, hf, q2, q3⟩), fun hk => ?_⟩
        have hpw := ((stamped_iff ents clock).1 hs).2.2
        rw [List.pairwise_iff_getElem] at hpw
        obtain ⟨a1, a2⟩ := List.getElem?_eq_some_iff.1 h2
        obtain ⟨b1, b2⟩ := List.getElem?_eq_some_iff.1 hfi
        rcases Nat.lt_or_gt_of_ne hi with hlt | hlt
        · exact hpw i j b1 a1 hlt (by rw [a2, b2, h3, q2, hk])
        · exact hpw j i a1 b1 hlt (by rw [a2, b2, h3, q2, hk])
      · rintro ⟨q0, q4⟩
        obtain ⟨f, q1, q2, q3⟩ := mem_kvs.1 (hp.mem_iff.2 q0)
        obtain ⟨i, hi⟩ := List.mem_iff_getElem?.1 q1
        refine ⟨f, List.mem_eraseIdx_iff_getElem?.2 ⟨i, fun e2 => ?_, hi⟩, q2, q3⟩
        subst e2; rw [h2] at hi; injection hi with hi; subst hi
        exact q4 (q2.symm.trans h3)
theorem exDelete_ok (hT : TOk γ T tmps) (hH : HR γ w0 H n w) {args : Array Operand} {ats : Array TypeId} {er : ER} (ho : o.op = .call { callee := .builtin .delete, args := args, argTypes := ats }) (h : exDelete P T args.toList ats.toList H n = some er) :
    Gives P γ w0 w (execOp (opEval tmps) o) er.val er.H er.n := by
  unfold exDelete at h
  split at h
  case h_2 => cases h
  rename_i m k hargs
  split at h
  case h_2 => cases h
  rename_i t ts hats
  split at h
  case h_2 => cases h
  rename_i i es hm
  split at h
  case h_2 => cases h
  rename_i kt e d ht
  split at h
  case h_2 => cases h
  rename_i kv hk
  rw [bc_eq] at h
  split at h
  case isFalse => cases h
  rename_i hkey
  rw [bc_eq] at h
  split at h
  case isFalse => cases h
  rename_i hkeys
  rw [bc_eq] at h
  split at h
  case isFalse => cases h
  rename_i hi
  injection h with h; subst h
  have ha2 : args = #[m, k] := by apply Array.ext'; simpa using hargs
  have ha3 : ats = (t :: ts).toArray := by apply Array.ext'; simpa using hats
  subst ha2; subst ha3
  obtain ⟨b, q, ents, clock, l, hγ, hv, hg, hb, hs, hp, hl⟩ := mpAt_ok hT hH hm
  obtain ⟨hu, hd⟩ := mapOf_ok ht
  have hkv := ec_v (exVal_ok hT hk)
  obtain ⟨ents', r1, r2, l', r3, r4⟩ := mp_del (w := w) (ty := o.type) (ts := ts) hu hd (isKeyB_ok hkey) (keysB_ok hkeys) hb hs hp hl
  have hlt := (Array.getElem?_eq_some_iff.1 hb).1
  refine ⟨γ, w.putObj b.k (.map ents' clock), GLe.refl γ, hH.turn hi hg hγ _ (fun c hc => World.putObj_heap_other hc) (by simp) rfl rfl rfl ⟨ents', clock, l', World.putObj_heap_same hlt, r2, r3, r4⟩, .tuple #[], ?_, .v _⟩
  simp [execOp, ho, resolve, invoke, builtin, hv, hkv, r1]
end Go.Proofs.Ytcgopcfbgkhpgaa.Ev
