/- The reckoner's operations: append, make. No program is named. -/
import Derived.Test.YtcgopcfbgkhpgaaEv4
import Derived.Laws.MakeOwn
namespace Go.Proofs.Ytcgopcfbgkhpgaa.Ev
open Go.RowKit
variable {P : Program} {γ : G} {w0 : Bs} {w : World} {H H' : Tr EK} {n n' : Nat} {T : Tr EV} {tmps : Array Value} {o : Oper} {r : Option EV}

/-- the block of a number is handed on to a new number (or a new block is laid for it) -/
theorem HR.pass {w' : World} (h : HR γ w0 H n w) (hn : Nat.ble n 65535 = true) {i : Nat} {b : Pl} {m : Nat} {k0 : EK} (hib : Nat.ble i 65535 = true) (hi : H.get i = some k0) (hγ : γ i = some (b, m)) (g : Pl) (m' : Nat) (k : EK)
    (hg : g.k = b.k ∨ g.k = w.heap.size) (hoth : ∀ c, c < w.heap.size → c ≠ b.k → w'.heap[c]? = w.heap[c]?) (hsz : w.heap.size ≤ w'.heap.size) (hgl : g.k < w'.heap.size) (ho : w'.os = w.os) (ht : w'.tape = w.tape) (hout : w'.output = w.output)
    (hk : k.ok (γ.upd n (g, m')) g m' w') : HR (γ.upd n (g, m')) w0 ((H.put i none).put n (some k)) (Nat.succ n) w' := by
  have hle : GLe γ (γ.upd n (g, m')) := G.upd_le (h.fresh n (Nat.le_refl _))
  obtain ⟨b2, m2, hb1, hb2, _⟩ := h.hp i k0 hi
  rw [hγ] at hb1; injection hb1 with hb1; injection hb1 with hb1 hb3; subst hb1
  have look : ∀ j kj, ((H.put i none).put n (some k)).get j = some kj → (j = n ∧ kj = k) ∨ (j ≠ n ∧ j ≠ i ∧ H.get j = some kj) := fun j kj hj => by
    rw [Tr.get_put hn, Tr.get_put hib] at hj
    by_cases e : j = n
    · rw [if_pos e] at hj; injection hj with hj; exact .inl ⟨e, hj.symm⟩
    · rw [if_neg e] at hj
      by_cases e2 : j = i
      · rw [if_pos e2] at hj; cases hj
      · rw [if_neg e2] at hj; exact .inr ⟨e, e2, hj⟩
  have hbl := h.lt i _ hγ
  have apart : ∀ j kj bj, H.get j = some kj → j ≠ i → γ j = some bj → bj.1.k ≠ g.k := fun j kj bj hj hne ej => by
    rcases hg with hg | hg
    · rw [hg]; exact h.inj j i kj k0 hj hi hne bj _ ej hγ
    · have := h.lt j bj ej; omega
  refine ⟨fun j kj hj => ?_, fun j l kj kl hj hl hne bj bl ej el => ?_, fun j hj => ?_, fun j hj => ?_, fun j p e => ?_, ?_⟩
  · rcases look j kj hj with ⟨rfl, rfl⟩ | ⟨e1, e2, hj⟩
    · refine ⟨g, m', G.upd_same, ?_, hk⟩
      rcases hg with hg | hg
      · rw [hg]; exact hb2
      · exact h.notF (Nat.le_of_eq hg.symm)
    · obtain ⟨b3, m3, h1, h2, h3⟩ := h.hp j kj hj
      exact ⟨b3, m3, hle _ _ h1, h2, EK.ok_mono hle (hoth b3.k (h.lt j _ h1) (h.inj j i kj k0 hj hi e2 _ _ h1 hγ)) h3⟩
  · rcases look j kj hj with ⟨rfl, rfl⟩ | ⟨e1, e2, hj2⟩
    · rcases look l kl hl with ⟨rfl, rfl⟩ | ⟨e3, e4, hl2⟩
      · exact absurd rfl hne
      · rw [G.upd_same] at ej; injection ej with ej; subst ej
        rw [G.upd_ne e3] at el
        exact (apart l kl bl hl2 e4 el).symm
    · rw [G.upd_ne e1] at ej
      rcases look l kl hl with ⟨rfl, rfl⟩ | ⟨e3, e4, hl2⟩
      · rw [G.upd_same] at el; injection el with el; subst el
        exact apart j kj bj hj2 e2 ej
      · rw [G.upd_ne e3] at el
        exact h.inj j l kj kl hj2 hl2 hne bj bl ej el
  · rw [G.upd_ne (by omega)]; exact h.fresh j (by omega)
  · obtain ⟨r1, r2⟩ := h.rsv j hj
    exact ⟨by rw [G.upd_ne (by omega)]; exact r1, by omega⟩
  · by_cases e2 : j = n
    · rw [e2, G.upd_same] at e; injection e with e; subst e; exact hgl
    · rw [G.upd_ne e2] at e; have := h.lt j p e; omega
  · refine ⟨ho.trans h.stays.os, ht.trans h.stays.tape, hout.trans h.stays.output, by have := h.stays.size; omega, fun c hc => ?_⟩
    have := h.stays.size
    have := w0.lt c hc
    rw [hoth c (by omega) (fun e => hb2 (e ▸ hc))]; exact h.stays.block c hc
/-- a block is laid for a new number -/
theorem HR.lay {w' : World} (h : HR γ w0 H n w) (hn : Nat.ble n 65535 = true) (m' : Nat) (k : EK)
    (hoth : ∀ c, c < w.heap.size → w'.heap[c]? = w.heap[c]?) (hgl : w.heap.size < w'.heap.size) (ho : w'.os = w.os) (ht : w'.tape = w.tape) (hout : w'.output = w.output)
    (hk : k.ok (γ.upd n (⟨w.heap.size, 0⟩, m')) ⟨w.heap.size, 0⟩ m' w') : HR (γ.upd n (⟨w.heap.size, 0⟩, m')) w0 (H.put n (some k)) (Nat.succ n) w' := by
  have hle : GLe γ (γ.upd n (⟨w.heap.size, 0⟩, m')) := G.upd_le (h.fresh n (Nat.le_refl _))
  have look : ∀ j kj, (H.put n (some k)).get j = some kj → (j = n ∧ kj = k) ∨ (j ≠ n ∧ H.get j = some kj) := fun j kj hj => by
    rw [Tr.get_put hn] at hj
    by_cases e : j = n
    · rw [if_pos e] at hj; injection hj with hj; exact .inl ⟨e, hj.symm⟩
    · rw [if_neg e] at hj; exact .inr ⟨e, hj⟩
  refine ⟨fun j kj hj => ?_, fun j l kj kl hj hl hne bj bl ej el => ?_, fun j hj => ?_, fun j hj => ?_, fun j p e => ?_, ?_⟩
  · rcases look j kj hj with ⟨rfl, rfl⟩ | ⟨e1, hj⟩
    · exact ⟨_, m', G.upd_same, h.notF (Nat.le_refl _), hk⟩
    · obtain ⟨b3, m3, h1, h2, h3⟩ := h.hp j kj hj
      exact ⟨b3, m3, hle _ _ h1, h2, EK.ok_mono hle (hoth b3.k (h.lt j _ h1)) h3⟩
  · rcases look j kj hj with ⟨rfl, rfl⟩ | ⟨e1, hj2⟩
    · rcases look l kl hl with ⟨rfl, rfl⟩ | ⟨e3, hl2⟩
      · exact absurd rfl hne
      · rw [G.upd_same] at ej; injection ej with ej; subst ej
        rw [G.upd_ne e3] at el
        have := h.lt l bl el
        show w.heap.size ≠ bl.1.k
        omega
    · rw [G.upd_ne e1] at ej
      rcases look l kl hl with ⟨rfl, rfl⟩ | ⟨e3, hl2⟩
      · rw [G.upd_same] at el; injection el with el; subst el
        have := h.lt j bj ej
        show bj.1.k ≠ w.heap.size
        omega
      · rw [G.upd_ne e3] at el
        exact h.inj j l kj kl hj2 hl2 hne bj bl ej el
  · rw [G.upd_ne (by omega)]; exact h.fresh j (by omega)
  · obtain ⟨r1, r2⟩ := h.rsv j hj
    exact ⟨by rw [G.upd_ne (by omega)]; exact r1, by omega⟩
  · by_cases e2 : j = n
    · rw [e2, G.upd_same] at e; injection e with e; subst e; exact hgl
    · rw [G.upd_ne e2] at e; have := h.lt j p e; omega
  · refine ⟨ho.trans h.stays.os, ht.trans h.stays.tape, hout.trans h.stays.output, by have := h.stays.size; omega, fun c hc => ?_⟩
    have := h.stays.size
    have := w0.lt c hc
    rw [hoth c (by omega)]; exact h.stays.block c hc

/-! ### append -/
noncomputable def newsOf (H : Tr EK) (z : Nat) (x : EV) : Option (Nat × List EV) := match x with
  | .sl j z' off m _ => bc (Nat.beq z z') (match cellsAt H j with
    | some (_, cs, _) => bc (Nat.ble (Nat.add off (Nat.mul m z)) (llen cs)) (some (m, (cs.drop off).take (Nat.mul m z))) none
    | none => none) none
  | _ => none
theorem newsOf_ok (hH : HR γ w0 H n w) {z m : Nat} {x : EV} {cs : List EV} {y : Value} (hc : EC γ x y) (h : newsOf H z x = some (m, cs)) :
    ∃ a c vs, y = .slice (some a) m c ∧ ECL γ cs vs ∧ vs.length = m * z ∧ ∀ j u, vs[j]? = some u → w.cell? (a.add j) = some u := by
  unfold newsOf at h
  split at h
  case h_2 => cases h
  rename_i j z' off m' cap
  rw [bc_eq] at h
  split at h
  case isFalse => cases h
  rename_i hz
  have hz := Nat.eq_of_beq_eq_true hz
  subst hz
  split at h
  case h_2 => cases h
  rename_i ty cs' full hcs
  rw [bc_eq] at h
  split at h
  case isFalse => cases h
  rename_i hle
  have hle := Nat.le_of_ble_eq_true hle
  rw [llen_eq] at hle
  simp only [Option.some.injEq, Prod.mk.injEq] at h
  obtain ⟨rfl, rfl⟩ := h
  have hle : off + m' * z ≤ cs'.length := hle
  obtain ⟨b, mm, c, hγ, he, _⟩ := ec_sl hc
  obtain ⟨⟨k0, hg⟩, b2, m2, ca, hγ2, hb, hsz, hl2, hfull, hcl⟩ := cellsAt_ok hH hcs
  rw [hγ] at hγ2
  simp only [Option.some.injEq, Prod.mk.injEq] at hγ2
  obtain ⟨rfl, rfl⟩ := hγ2
  refine ⟨b.at off, c, (((ca.toList.drop b.s).take cs'.length).drop off).take (m' * z), he, (hcl.drop off).take _, by simp; omega, fun q u hu => ?_⟩
  rw [Pl.at_add, (cell_of hb).1, ← Array.getElem?_toList]
  rw [List.getElem?_take] at hu
  split at hu
  · rw [List.getElem?_drop, List.getElem?_take] at hu
    split at hu
    · rw [List.getElem?_drop] at hu; exact hu
    · cases hu
  · cases hu
noncomputable def elemOf (P : Program) (t : TypeId) : Option TypeId := match P.underlying t with
  | some (.slice e) => some e
  | _ => none
theorem elemOf_ok {t e : TypeId} (h : elemOf P t = some e) : P.underlying t = some (.slice e) := by
  unfold elemOf at h
  split at h
  · rename_i e' hu; injection h with h; subst h; exact hu
  · cases h
/-- what append wants to know of an element's type -/
structure EI where
  e : TypeId
  z : Nat
noncomputable def elemInfo (P : Program) (t : TypeId) : Option EI := match elemOf P t with
  | some e => match P.info? e with
    | some inf => match inf.zero with
      | some zv => bc (Nat.beq zv.cells.size inf.size) (bc (Nat.blt 0 inf.size) (bc (Nat.ble inf.bytes 65536) (some ⟨e, inf.size⟩) none) none) none
      | none => none
    | none => none
  | none => none
theorem elemInfo_ok {t : TypeId} {i : EI} (h : elemInfo P t = some i) : P.underlying t = some (.slice i.e) ∧ ∃ inf zv, P.info? i.e = some inf ∧ inf.zero = some zv ∧ inf.size = i.z ∧ zv.cells.size = i.z ∧ 0 < i.z ∧ inf.bytes ≤ 65536 := by
  unfold elemInfo at h
  split at h
  case h_2 => cases h
  rename_i e he
  split at h
  case h_2 => cases h
  rename_i inf hi
  split at h
  case h_2 => cases h
  rename_i zv hz
  rw [bc_eq, bc_eq, bc_eq] at h
  split at h
  case isFalse => cases h
  rename_i h1
  split at h
  case isFalse => cases h
  rename_i h2
  split at h
  case isFalse => cases h
  rename_i h3
  injection h with h; subst h
  exact ⟨elemOf_ok he, inf, zv, hi, hz, rfl, Nat.eq_of_beq_eq_true h1, blt_lt h2, Nat.le_of_ble_eq_true h3⟩
/-- the row that a slice owns is lengthened -/
noncomputable def exGrow (i : Option Nat) (e : TypeId) (z len m : Nat) (old news : List EV) (H : Tr EK) (n : Nat) : Option ER :=
  bc (Nat.ble n 65535) (bc (allOne news) (bc (Nat.ble (Nat.add len m) 65536)
    (some ⟨some (.sl n z 0 (Nat.add len m) none), (match i with
      | some i => (H.put i none)
      | none => H).put n (some (.cells e (old ++ news) false)), Nat.succ n⟩) none) none) none
noncomputable def exAppend (P : Program) (t : TypeId) (s x : EV) (H : Tr EK) (n : Nat) : Option ER := match elemInfo P t with
  | some ei => match newsOf H ei.z x with
    | some (m, news) => match s with
      | .v (.slice none len cap) => bc (Nat.beq len 0) (bc (Nat.beq cap 0) (bc (Nat.blt 0 m) (exGrow none ei.e ei.z 0 m [] news H n) (some ⟨some s, H, n⟩)) none) none
      | .sl i z off len none => bc (Nat.beq z ei.z) (match cellsAt H i with
        | some (ty, cs, _) => bc (Nat.beq ty ei.e) (bc (Nat.ble (Nat.add off (Nat.mul len z)) (llen cs)) (bc (Nat.ble i 65535) (exGrow (some i) ei.e ei.z len m ((cs.drop off).take (Nat.mul len z)) news H n) none) none) none
        | none => none) none
      | .slE i z off => bc (Nat.beq z ei.z) (match cellsAt H i with
        | some (ty, cs, _) => bc (Nat.beq ty ei.e) (bc (Nat.ble off (llen cs)) (bc (Nat.ble i 65535) (bc (Nat.blt 0 m) (exGrow (some i) ei.e ei.z 0 m [] news H n) none) none) none) none
        | none => none) none
      | .sl i z off len (some c) => bc (Nat.beq z ei.z) (bc (Nat.ble (Nat.add len m) c)
          (match exPut i (Nat.add off (Nat.mul len z)) news H with
            | some H' => some ⟨some (.sl i z off (Nat.add len m) (some c)), H', n⟩
            | none => none)
          (match cellsAt H i with
            | some (_, cs, _) => bc (Nat.ble (Nat.add off (Nat.mul len z)) (llen cs)) (exGrow none ei.e ei.z len m ((cs.drop off).take (Nat.mul len z)) news H n) none
            | none => none)) none
      | _ => none
    | none => none
  | none => none

theorem exGrow_inv {i : Option Nat} {e : TypeId} {z len m : Nat} {old news : List EV} {er : ER} (h : exGrow i e z len m old news H n = some er) :
    Nat.ble n 65535 = true ∧ news.all EV.one = true ∧ len + m ≤ 65536 ∧ er = ⟨some (.sl n z 0 (len + m) none), (match i with
      | some i => (H.put i none)
      | none => H).put n (some (.cells e (old ++ news) false)), Nat.succ n⟩ := by
  unfold exGrow at h
  rw [bc_eq, bc_eq, bc_eq] at h
  split at h
  case isFalse => cases h
  rename_i h1
  split at h
  case isFalse => cases h
  rename_i h2
  split at h
  case isFalse => cases h
  rename_i h3
  injection h with h
  exact ⟨h1, by rw [← allOne_eq]; exact h2, Nat.le_of_ble_eq_true h3, h.symm⟩
/-- what is known of the new row -/
theorem row_ok {w' : World} {base e z k : Nat} {v : Value} {xs : List Value} {cs : List EV} (hown : w'.ownsRow base e z v k xs) (hk : 0 < k) (hc : ECL γ cs xs) :
    ∃ g cap, v = .slice (some ⟨g, 0, none⟩) k cap ∧ g < w'.heap.size ∧ k ≤ cap ∧ cap ≤ maxLen ∧ (EK.cells e cs false).ok γ ⟨g, 0⟩ (cap * z) w' := by
  rcases hown.2 with ⟨_, h0⟩ | ⟨g, cap, cur, hv, _, hb, h1, h2, h3, h4⟩
  · omega
  · have hl := hc.1
    refine ⟨g, cap, hv, (Array.getElem?_eq_some_iff.1 hb).1, h1, h2, cur, .of hb, h3.trans (Nat.zero_add _).symm, ?_, (fun e => by cases e), ?_⟩
    · rw [hl, hown.1]; exact Nat.mul_le_mul_right _ h1
    · show ECL γ cs ((cur.toList.drop 0).take cs.length)
      rw [List.drop_zero, hl, hown.1, h4]; exact hc
theorem ec_slE {i z off : Nat} {y : Value} (h : EC γ (.slE i z off) y) : ∃ (b : Pl) (m c off' : Nat), γ i = some (b, m) ∧ y = .slice (some (b.at off')) 0 c ∧ c ≤ maxLen ∧ (0 < c → off' = off ∧ off + c * z = m) := by
  cases h with | slE _ _ _ b m c off' h hm hn => exact ⟨b, m, c, off', h, rfl, hm, hn⟩
theorem exAppend_ok (hT : TOk γ T tmps) (hH : HR γ w0 H n w) {t ty : TypeId} {s x : EV} {vs vx : Value} {er : ER} (hs : EC γ s vs) (hx : EC γ x vx) (h : exAppend P t s x H n = some er) :
    ∃ γ' w' v', GLe γ γ' ∧ HR γ' w0 er.H er.n w' ∧ (Builtin.append_ #[t, t] ty #[vs, vx]).run P w = .ok v' w' ∧ ∃ a, er.val = some a ∧ EC γ' a v' := by
  unfold exAppend at h
  split at h
  case h_2 => cases h
  rename_i ei hei
  obtain ⟨hu, inf, zv, hi, hz, hsz, hzs, hpos, hby⟩ := elemInfo_ok hei
  split at h
  case h_2 => cases h
  rename_i m news hn
  obtain ⟨a, c, ns, rfl, hcn, hnl, hnc⟩ := newsOf_ok hH hx hn
  split at h
  · -- a nil slice
    rename_i len cap
    rw [bc_eq, bc_eq, bc_eq] at h
    split at h
    case isFalse => cases h
    rename_i h1
    split at h
    case isFalse => cases h
    rename_i h2
    have h1 := Nat.eq_of_beq_eq_true h1
    have h2 := Nat.eq_of_beq_eq_true h2
    subst h1; subst h2
    have hvs := ec_v hs
    subst hvs
    split at h
    · rename_i hm
      have hm := blt_lt hm
      obtain ⟨hnb, hone, hle, rfl⟩ := exGrow_inv h
      obtain ⟨v', w', hr, hown, hgb, _, hob⟩ := run_append_own_at (P := P) (w := w) 0 t ty ei.e inf zv ei.z inf.bytes hu hi hz hsz rfl hzs hpos (.slice none 0 0) 0 [] ⟨by simp, .inl ⟨rfl, rfl⟩⟩ a m c ns hnl hnc (hcn.ones hone)
        (by unfold maxLen; omega) (by have := Nat.mul_le_mul hle hby; omega) (Nat.zero_le _)
      rw [List.nil_append] at hown
      obtain ⟨g, cap', hv, hgl, hkc, hcm, hok⟩ := row_ok (γ := γ) hown (by omega) hcn
      subst hv
      have hg : g = w.heap.size := by
        rcases hob with h3 | h3
        · simp [Value.ownBlock] at h3
        · simp [Value.ownBlock] at h3; exact h3
      subst hg
      have hle2 := G.upd_le (p := (⟨w.heap.size, 0⟩, cap' * ei.z)) (hH.fresh n (Nat.le_refl _))
      refine ⟨γ.upd n (⟨w.heap.size, 0⟩, cap' * ei.z), w', _, hle2, ?_, hr, _, rfl, .sl n ei.z 0 _ none ⟨w.heap.size, 0⟩ _ cap' G.upd_same hkc hcm (by omega) (fun k e => by cases e) (fun _ => by omega)⟩
      exact hH.lay hnb _ _ (fun k hk => hgb.block k hk (by simp [Value.ownBlock])) hgl hgb.os hgb.tape hgb.output (EK.ok_mono hle2 rfl hok)
    · rename_i hm
      have hm : ¬ 0 < m := fun h3 => hm (by unfold Nat.blt; exact Nat.ble_eq_true_of_le h3)
      injection h with h; subst h
      have hm0 : m = 0 := by omega
      subst hm0
      have hns : ns = [] := by apply List.eq_nil_of_length_eq_zero; omega
      subst hns
      refine ⟨γ, w, .slice none 0 0, GLe.refl γ, hH, ?_, _, rfl, .v _⟩
      have hf := run_firstCells_some (P := P) w inf.size 0 a 0 c [] (by simp) (by simp)
      simp [Builtin.append_, run_underlying hu, sizeOf, typeInfo, hi, Builtin.lenOf, hf]
  · -- a row of the call's own, its room not known
    rename_i i z off len
    rw [bc_eq] at h
    split at h
    case isFalse => cases h
    rename_i h1
    have h1 := Nat.eq_of_beq_eq_true h1
    subst h1
    split at h
    case h_2 => cases h
    rename_i ty2 cs full hcs
    rw [bc_eq, bc_eq, bc_eq] at h
    split at h
    case isFalse => cases h
    rename_i h3
    split at h
    case isFalse => cases h
    rename_i h4
    split at h
    case isFalse => cases h
    rename_i h5
    have h3 := Nat.eq_of_beq_eq_true h3
    subst h3
    have h4 := Nat.le_of_ble_eq_true h4
    rw [llen_eq] at h4
    have h4 : off + len * ei.z ≤ cs.length := h4
    obtain ⟨hnb, hone, hle, rfl⟩ := exGrow_inv h
    obtain ⟨b, k, cp, hγ, rfl, hlc, hcm, hcn2, _, hcu⟩ := ec_sl hs
    obtain ⟨⟨k0, hg⟩, b2, m2, ca, hγ2, hb, hsz2, hl2, hfull, hcl⟩ := cellsAt_ok hH hcs
    rw [hγ] at hγ2
    simp only [Option.some.injEq, Prod.mk.injEq] at hγ2
    obtain ⟨rfl, rfl⟩ := hγ2
    have hcu : off + cp * ei.z = k := hcu rfl
    have hold := (hcl.drop off).take (len * ei.z)
    have hol : ((((ca.toList.drop b.s).take cs.length).drop off).take (len * ei.z)).length = len * ei.z := by simp; omega
    by_cases hfit : len + m ≤ cp
    · -- in place
      have hmz := Nat.mul_le_mul_right ei.z hfit
      rw [Nat.add_mul] at hmz
      have hr := run_append_room_cells (P := P) w t ty ei.e inf hu hi b.k (b.s + off) len cp a m c ns (by rw [hsz]; exact hnl) hnc (hcn.ones hone) hfit (fun j hj => by
          have := (cell_of (off := off + len * ei.z + j) hb).1
          rw [show (⟨b.k, b.s + off + len * inf.size + j, none⟩ : Addr) = b.at (off + len * ei.z + j) by unfold Pl.at; rw [hsz]; congr 1; omega, this, Array.getElem?_eq_getElem (by omega)]
          rfl) (fun j hj => by
          rw [show (⟨b.k, b.s + off + len * inf.size + j, none⟩ : Addr) = b.at (off + len * ei.z + j) by unfold Pl.at; rw [hsz]; congr 1; omega]
          exact (cell_of hb).2 (by omega))
      rw [hsz] at hr
      obtain ⟨r1, r2, r3, r4⟩ := Sx.setCells_rest b.k ns (b.s + off + len * ei.z) w
      have hle2 := G.upd_le (p := ((⟨b.k, b.s + off⟩ : Pl), cp * ei.z)) (hH.fresh n (Nat.le_refl _))
      have hlen : (((cs.drop off).take (Nat.mul len ei.z)) ++ news).length = len * ei.z + m * ei.z := by
        have e1 := hold.1
        have e2 := hcn.1
        rw [List.length_append, show (cs.drop off).take (Nat.mul len ei.z) = (cs.drop off).take (len * ei.z) from rfl, e1, hol, e2, hnl]
      refine ⟨γ.upd n (⟨b.k, b.s + off⟩, cp * ei.z), _, _, hle2, ?_, hr, _, rfl, .sl n ei.z 0 _ none ⟨b.k, b.s + off⟩ _ cp G.upd_same hfit hcm (by omega) (fun k e => by cases e) (fun _ => by omega)⟩
      refine hH.pass hnb h5 hg hγ ⟨b.k, b.s + off⟩ _ _ (.inl rfl) (fun q _ hne => Sx.setCells_heap b.k ns (b.s + off + len * ei.z) w q hne) (by rw [r1]; exact Nat.le_refl _) (by rw [r1]; exact hb.lt) r2 r3 r4
        ⟨putArr ca (b.s + off + len * ei.z) ns, hb.set (b.s + off + len * ei.z) ns, by rw [putArr_size, hsz2]; show b.s + k = b.s + off + cp * ei.z; omega, by rw [hlen]; exact hmz, (fun e => by cases e), ?_⟩
      have e9 : ((putArr ca (b.s + off + len * ei.z) ns).toList.drop (b.s + off)).take (((cs.drop off).take (Nat.mul len ei.z)) ++ news).length = (((ca.toList.drop b.s).take cs.length).drop off).take (len * ei.z) ++ ns := by
        rw [hlen]
        apply List.ext_getElem?
        intro j
        rw [List.getElem?_take, List.getElem?_drop, Array.getElem?_toList, putArr_get _ _ _ _ (by omega)]
        by_cases hj : j < len * ei.z
        · rw [if_pos (by omega), if_neg (by omega), List.getElem?_append_left (by rw [hol]; exact hj), List.getElem?_take, if_pos hj, List.getElem?_drop, List.getElem?_take, if_pos (by omega), List.getElem?_drop, Array.getElem?_toList]
          congr 1; omega
        · rw [List.getElem?_append_right (by rw [hol]; omega), hol]
          by_cases hj2 : j < len * ei.z + m * ei.z
          · rw [if_pos hj2, if_pos (by omega)]
            congr 1; omega
          · rw [if_neg hj2, List.getElem?_eq_none (by omega)]
      show ECL _ _ (((putArr ca (b.s + off + len * ei.z) ns).toList.drop (b.s + off)).take _)
      rw [e9]
      exact (hold.append hcn).mono hle2
    · -- it grows
      have h2 : cp < len + m := by omega
      have hH1 : HR γ w0 (H.put i none) n w := hH.congr fun q kq hq => by
        rw [Tr.get_put h5] at hq
        split at hq
        · cases hq
        · exact hq
      have hr := run_append_grow (P := P) (w := w) t ty ei.e inf zv hu hi hz (b.at off) len cp ((((ca.toList.drop b.s).take cs.length).drop off).take (len * ei.z)) (by rw [hol, hsz]) (fun q u hq => by
        rw [Pl.at_add, (cell_of hb).1, ← Array.getElem?_toList]
        rw [List.getElem?_take] at hq
        split at hq
        · rw [List.getElem?_drop, List.getElem?_take] at hq
          split at hq
          · rw [List.getElem?_drop] at hq; exact hq
          · cases hq
        · cases hq) a m c ns (by rw [hsz]; exact hnl) hnc h2 (by omega) (by
          have := nextslicecap_le h2
          have := Nat.mul_le_mul (Nat.le_trans this (Nat.mul_le_mul_left 2 hle)) hby
          omega)
      have hcap : len + m ≤ grownCap w (len + m) cp ei.e ∧ grownCap w (len + m) cp ei.e ≤ maxLen := by
        unfold grownCap Question.cut maxLen
        have := Nat.mod_lt (w.tape w.drawn (.appendCap (len + m) cp ei.e)) (show 0 < 2 ^ 63 - (len + m) by omega)
        simp only
        omega
      have hle2 := G.upd_le (p := (⟨w.heap.size, 0⟩, grownCap w (len + m) cp ei.e * ei.z)) (hH.fresh n (Nat.le_refl _))
      refine ⟨γ.upd n (⟨w.heap.size, 0⟩, grownCap w (len + m) cp ei.e * ei.z), _, _, hle2, ?_, hr, _, rfl, .sl n ei.z 0 _ none ⟨w.heap.size, 0⟩ _ _ G.upd_same hcap.1 hcap.2 (by omega) (fun k e => by cases e) (fun _ => by omega)⟩
      have hal := hold.append hcn
      refine hH1.lay hnb _ _ (fun q hq => ?_) (by show _ < (w.heap.push _).size; simp) rfl rfl rfl ⟨_, .of (by show (w.heap.push _)[_]? = _; simp; rfl), ?_, ?_, (fun e => by cases e), ?_⟩
      · show (w.heap.push _)[q]? = _
        rw [Array.getElem?_push_lt hq]; simp [hq]
      · show _ = 0 + _
        rw [Nat.zero_add]
        simp only [Array.size_append, List.size_toArray, size_zeroCells, hzs, List.length_append, hol, hnl]
        rw [← Nat.add_mul, ← Nat.add_mul]
        congr 1; omega
      · have e1 := hal.1
        rw [List.length_append (as := (((ca.toList.drop b.s).take cs.length).drop off).take (len * ei.z)), hol, hnl, ← Nat.add_mul] at e1
        exact Nat.le_trans (Nat.le_of_eq e1) (Nat.mul_le_mul_right _ hcap.1)
      · refine ECL.mono hle2 ?_
        have e1 := hal.1
        have : ((((((ca.toList.drop b.s).take cs.length).drop off).take (len * ei.z) ++ ns).toArray ++ Builtin.zeroCells zv.cells (grownCap w (len + m) cp ei.e - (len + m))).toList.take ((cs.drop off).take (len * ei.z) ++ news).length) = (((ca.toList.drop b.s).take cs.length).drop off).take (len * ei.z) ++ ns := by
          rw [e1, Array.toList_append]
          exact List.take_left' rfl
        show ECL _ _ (List.take _ (List.drop 0 _))
        rw [List.drop_zero, show (cs.drop off).take (Nat.mul len ei.z) = (cs.drop off).take (len * ei.z) from rfl, this]
        exact hal
  · -- a row of no elements, its room and its place not known
    rename_i i z off
    rw [bc_eq] at h
    split at h
    case isFalse => cases h
    rename_i h1
    have h1 := Nat.eq_of_beq_eq_true h1
    subst h1
    split at h
    case h_2 => cases h
    rename_i ty2 cs full hcs
    rw [bc_eq, bc_eq, bc_eq, bc_eq] at h
    split at h
    case isFalse => cases h
    rename_i h3
    split at h
    case isFalse => cases h
    rename_i h4
    split at h
    case isFalse => cases h
    rename_i h5
    split at h
    case isFalse => cases h
    rename_i hmp
    have hmp := blt_lt hmp
    have h3 := Nat.eq_of_beq_eq_true h3
    subst h3
    have h4 := Nat.le_of_ble_eq_true h4
    rw [llen_eq] at h4
    obtain ⟨hnb, hone, hle, rfl⟩ := exGrow_inv h
    obtain ⟨b, k, cp, off', hγ, rfl, hcm, hcu⟩ := ec_slE hs
    obtain ⟨⟨k0, hg⟩, b2, m2, ca, hγ2, hb, hsz2, hl2, hfull, hcl⟩ := cellsAt_ok hH hcs
    rw [hγ] at hγ2
    simp only [Option.some.injEq, Prod.mk.injEq] at hγ2
    obtain ⟨rfl, rfl⟩ := hγ2
    by_cases hfit : 0 + m ≤ cp
    · -- in place
      obtain ⟨rfl, hcu⟩ := hcu (by omega)
      have hold : ECL γ ([] : List EV) ((((ca.toList.drop b.s).take cs.length).drop off').take (0 * ei.z)) := by rw [Nat.zero_mul]; exact ECL.nil γ
      have hol : ((((ca.toList.drop b.s).take cs.length).drop off').take (0 * ei.z)).length = 0 * ei.z := by simp
      have h4 : off' + 0 * ei.z ≤ cs.length := by omega
      have hmz := Nat.mul_le_mul_right ei.z hfit
      rw [Nat.add_mul] at hmz
      have hr := run_append_room_cells (P := P) w t ty ei.e inf hu hi b.k (b.s + off') 0 cp a m c ns (by rw [hsz]; exact hnl) hnc (hcn.ones hone) hfit (fun j hj => by
          have := (cell_of (off := off' + 0 * ei.z + j) hb).1
          rw [show (⟨b.k, b.s + off' + 0 * inf.size + j, none⟩ : Addr) = b.at (off' + 0 * ei.z + j) by unfold Pl.at; rw [hsz]; congr 1; omega, this, Array.getElem?_eq_getElem (by omega)]
          rfl) (fun j hj => by
          rw [show (⟨b.k, b.s + off' + 0 * inf.size + j, none⟩ : Addr) = b.at (off' + 0 * ei.z + j) by unfold Pl.at; rw [hsz]; congr 1; omega]
          exact (cell_of hb).2 (by omega))
      rw [hsz] at hr
      obtain ⟨r1, r2, r3, r4⟩ := Sx.setCells_rest b.k ns (b.s + off' + 0 * ei.z) w
      have hle2 := G.upd_le (p := ((⟨b.k, b.s + off'⟩ : Pl), cp * ei.z)) (hH.fresh n (Nat.le_refl _))
      have hlen : (([] : List EV) ++ news).length = 0 * ei.z + m * ei.z := by
        have e2 := hcn.1
        rw [List.length_append, List.length_nil, e2, hnl]; omega
      refine ⟨γ.upd n (⟨b.k, b.s + off'⟩, cp * ei.z), _, _, hle2, ?_, hr, _, rfl, .sl n ei.z 0 _ none ⟨b.k, b.s + off'⟩ _ cp G.upd_same hfit hcm (by omega) (fun k e => by cases e) (fun _ => by omega)⟩
      refine hH.pass hnb h5 hg hγ ⟨b.k, b.s + off'⟩ _ _ (.inl rfl) (fun q _ hne => Sx.setCells_heap b.k ns (b.s + off' + 0 * ei.z) w q hne) (by rw [r1]; exact Nat.le_refl _) (by rw [r1]; exact hb.lt) r2 r3 r4
        ⟨putArr ca (b.s + off' + 0 * ei.z) ns, hb.set (b.s + off' + 0 * ei.z) ns, by rw [putArr_size, hsz2]; show b.s + k = b.s + off' + cp * ei.z; omega, by rw [hlen]; exact hmz, (fun e => by cases e), ?_⟩
      have e9 : ((putArr ca (b.s + off' + 0 * ei.z) ns).toList.drop (b.s + off')).take (([] : List EV) ++ news).length = (((ca.toList.drop b.s).take cs.length).drop off').take (0 * ei.z) ++ ns := by
        rw [hlen]
        apply List.ext_getElem?
        intro j
        rw [List.getElem?_take, List.getElem?_drop, Array.getElem?_toList, putArr_get _ _ _ _ (by omega)]
        by_cases hj : j < 0 * ei.z
        · rw [if_pos (by omega), if_neg (by omega), List.getElem?_append_left (by rw [hol]; exact hj), List.getElem?_take, if_pos hj, List.getElem?_drop, List.getElem?_take, if_pos (by omega), List.getElem?_drop, Array.getElem?_toList]
          congr 1; omega
        · rw [List.getElem?_append_right (by rw [hol]; omega), hol]
          by_cases hj2 : j < 0 * ei.z + m * ei.z
          · rw [if_pos hj2, if_pos (by omega)]
            congr 1; omega
          · rw [if_neg hj2, List.getElem?_eq_none (by omega)]
      show ECL _ _ (((putArr ca (b.s + off' + 0 * ei.z) ns).toList.drop (b.s + off')).take _)
      rw [e9]
      exact (hold.append hcn).mono hle2
    · -- it grows
      have h2 : cp < 0 + m := by omega
      have hH1 : HR γ w0 (H.put i none) n w := hH.congr fun q kq hq => by
        rw [Tr.get_put h5] at hq
        split at hq
        · cases hq
        · exact hq
      have hr := run_append_grow (P := P) (w := w) t ty ei.e inf zv hu hi hz (b.at off') 0 cp [] (by simp) (fun q u hq => by simp at hq) a m c ns (by rw [hsz]; exact hnl) hnc h2 (by omega) (by
          have := nextslicecap_le h2
          have := Nat.mul_le_mul (Nat.le_trans this (Nat.mul_le_mul_left 2 hle)) hby
          omega)
      have hcap : 0 + m ≤ grownCap w (0 + m) cp ei.e ∧ grownCap w (0 + m) cp ei.e ≤ maxLen := by
        unfold grownCap Question.cut maxLen
        have := Nat.mod_lt (w.tape w.drawn (.appendCap (0 + m) cp ei.e)) (show 0 < 2 ^ 63 - (0 + m) by omega)
        simp only
        omega
      generalize grownCap w (0 + m) cp ei.e = gc at hr hcap
      have hle2 := G.upd_le (p := (⟨w.heap.size, 0⟩, gc * ei.z)) (hH.fresh n (Nat.le_refl _))
      refine ⟨γ.upd n (⟨w.heap.size, 0⟩, gc * ei.z), _, _, hle2, ?_, hr, _, rfl, .sl n ei.z 0 _ none ⟨w.heap.size, 0⟩ _ _ G.upd_same hcap.1 hcap.2 (by omega) (fun k e => by cases e) (fun _ => by omega)⟩
      have hnn := hcn.1
      refine hH1.lay hnb _ _ (fun q hq => ?_) (by show _ < (w.heap.push _).size; simp) rfl rfl rfl ⟨(([] : List Value).toArray ++ ns.toArray ++ Builtin.zeroCells zv.cells (gc - (0 + m))), .of (by show (w.heap.push _)[_]? = _; simp), ?_, ?_, (fun e => by cases e), ?_⟩
      · show (w.heap.push _)[q]? = _
        rw [Array.getElem?_push_lt hq]; simp [hq]
      · show _ = 0 + _
        rw [Nat.zero_add]
        simp only [Array.size_append, List.size_toArray, size_zeroCells, hzs, List.length_nil, hnl]
        have h7 := hcap.1
        have e : m * ei.z + (gc - (0 + m)) * ei.z = gc * ei.z := by
          rw [← Nat.add_mul, show m + (gc - (0 + m)) = gc by omega]
        rw [Nat.zero_add m] at e
        simp only [Nat.zero_add] at *
        omega
      · rw [List.nil_append, hnn, hnl]
        exact Nat.mul_le_mul_right _ (by omega)
      · refine ECL.mono hle2 ?_
        show ECL _ _ (List.take _ (List.drop 0 _))
        have : (([] : List Value).toArray ++ ns.toArray ++ Builtin.zeroCells zv.cells (gc - (0 + m))).toList.take (([] : List EV) ++ news).length = ns := by
          rw [List.nil_append, hnn, Array.toList_append, Array.toList_append, List.toList_toArray, List.toList_toArray, List.nil_append]
          exact List.take_left' rfl
        rw [List.drop_zero, this]
        exact hcn
  · -- a slice whose room is known
    rename_i i z off len cp
    rw [bc_eq, bc_eq] at h
    split at h
    case isFalse => cases h
    rename_i h1
    have h1 := Nat.eq_of_beq_eq_true h1
    subst h1
    obtain ⟨b, k, c', hγ, rfl, hlc, hcm, hcn2, hck, _⟩ := ec_sl hs
    have hck := hck _ rfl
    subst hck
    split at h
    · rename_i h2
      have h2 : len + m ≤ c' := Nat.le_of_ble_eq_true h2
      split at h
      case h_2 => cases h
      rename_i H2 hp
      injection h with h; subst h
      obtain ⟨g1, g2⟩ := exPut_ok (P := P) hH hcn hp hγ
      have hf := run_firstCells_some (P := P) w ei.z m a m c ns hnl hnc
      refine ⟨γ, _, .slice (some (b.at off)) (len + m) c', GLe.refl γ, g1, ?_, _, rfl, .sl i ei.z off _ _ b k c' hγ h2 hcm hcn2 (fun k e => by injection e) (fun e => by cases e)⟩
      have g2 : (storeCells (b.at (off + len * ei.z)) ns 0).run P w = .ok () (w.setCells b.k (b.s + (off + len * ei.z)) ns) := g2
      simp [Builtin.append_, run_underlying hu, sizeOf, typeInfo, hi, Builtin.lenOf, h2, hf, Pl.at_add, hsz, g2]
    · rename_i h2
      have h2 : c' < len + m := by
        rcases Nat.lt_or_ge c' (len + m) with h3 | h3
        · exact h3
        · exact absurd (Nat.ble_eq_true_of_le (show Nat.add len m ≤ c' from h3)) h2
      split at h
      case h_2 => cases h
      rename_i ty2 cs full hcs
      rw [bc_eq] at h
      split at h
      case isFalse => cases h
      rename_i h4
      have h4 := Nat.le_of_ble_eq_true h4
      rw [llen_eq] at h4
      have h4 : off + len * ei.z ≤ cs.length := h4
      obtain ⟨hnb, hone, hle, rfl⟩ := exGrow_inv h
      obtain ⟨⟨k0, hg⟩, b2, m2, ca, hγ2, hb, hsz2, hl2, hfull, hcl⟩ := cellsAt_ok hH hcs
      rw [hγ] at hγ2
      simp only [Option.some.injEq, Prod.mk.injEq] at hγ2
      obtain ⟨rfl, rfl⟩ := hγ2
      have hold := (hcl.drop off).take (len * ei.z)
      have hol : ((((ca.toList.drop b.s).take cs.length).drop off).take (len * ei.z)).length = len * ei.z := by simp; omega
      have hr := run_append_grow (P := P) (w := w) t ty ei.e inf zv hu hi hz (b.at off) len c' ((((ca.toList.drop b.s).take cs.length).drop off).take (len * ei.z)) (by rw [hol, hsz]) (fun q u hq => by
        rw [Pl.at_add, (cell_of hb).1, ← Array.getElem?_toList]
        rw [List.getElem?_take] at hq
        split at hq
        · rw [List.getElem?_drop, List.getElem?_take] at hq
          split at hq
          · rw [List.getElem?_drop] at hq; exact hq
          · cases hq
        · cases hq) a m c ns (by rw [hsz]; exact hnl) hnc h2 (by omega) (by
          have := nextslicecap_le h2
          have := Nat.mul_le_mul (Nat.le_trans this (Nat.mul_le_mul_left 2 hle)) hby
          omega)
      have hcap : len + m ≤ grownCap w (len + m) c' ei.e ∧ grownCap w (len + m) c' ei.e ≤ maxLen := by
        unfold grownCap Question.cut maxLen
        have := Nat.mod_lt (w.tape w.drawn (.appendCap (len + m) c' ei.e)) (show 0 < 2 ^ 63 - (len + m) by omega)
        simp only
        omega
      have hle2 := G.upd_le (p := (⟨w.heap.size, 0⟩, grownCap w (len + m) c' ei.e * ei.z)) (hH.fresh n (Nat.le_refl _))
      refine ⟨γ.upd n (⟨w.heap.size, 0⟩, grownCap w (len + m) c' ei.e * ei.z), _, _, hle2, ?_, hr, _, rfl, .sl n ei.z 0 _ none ⟨w.heap.size, 0⟩ _ _ G.upd_same hcap.1 hcap.2 (by omega) (fun k e => by cases e) (fun _ => by omega)⟩
      have hal := hold.append hcn
      refine hH.lay hnb _ _ (fun q hq => ?_) (by show _ < (w.heap.push _).size; simp) rfl rfl rfl ⟨_, .of (by show (w.heap.push _)[_]? = _; simp; rfl), ?_, ?_, (fun e => by cases e), ?_⟩
      · show (w.heap.push _)[q]? = _
        rw [Array.getElem?_push_lt hq]; simp [hq]
      · show _ = 0 + _
        rw [Nat.zero_add]
        simp only [Array.size_append, List.size_toArray, size_zeroCells, hzs, List.length_append, hol, hnl]
        rw [← Nat.add_mul, ← Nat.add_mul]
        congr 1; omega
      · have e1 := hal.1
        rw [List.length_append (as := (((ca.toList.drop b.s).take cs.length).drop off).take (len * ei.z)), hol, hnl, ← Nat.add_mul] at e1
        exact Nat.le_trans (Nat.le_of_eq e1) (Nat.mul_le_mul_right _ hcap.1)
      · refine ECL.mono hle2 ?_
        have e1 := hal.1
        have : ((((((ca.toList.drop b.s).take cs.length).drop off).take (len * ei.z) ++ ns).toArray ++ Builtin.zeroCells zv.cells (grownCap w (len + m) c' ei.e - (len + m))).toList.take ((cs.drop off).take (len * ei.z) ++ news).length) = (((ca.toList.drop b.s).take cs.length).drop off).take (len * ei.z) ++ ns := by
          rw [e1, Array.toList_append]
          exact List.take_left' rfl
        show ECL _ _ (List.take _ (List.drop 0 _))
        rw [List.drop_zero, show (cs.drop off).take (Nat.mul len ei.z) = (cs.drop off).take (len * ei.z) from rfl, this]
        exact hal
  · cases h
end Go.Proofs.Ytcgopcfbgkhpgaa.Ev
