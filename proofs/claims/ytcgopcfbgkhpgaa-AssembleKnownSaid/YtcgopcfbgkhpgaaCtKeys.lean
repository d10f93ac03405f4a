/- The reckoner: what slices.Sorted(maps.Keys(m)) comes to, of a map whose keys are ints. No program is named. -/
import Derived.Test.YtcgopcfbgkhpgaaCtStr
import Derived.Lib.SlKeysI
namespace Go.Proofs.Ytcgopcfbgkhpgaa.Ev
open Go.RowKit Go.MapKept Go.Maps Go.WideElems
variable {P : Program} {γ γ' : G} {w0 : Bs} {w w' : World} {H H' : Tr EK} {n n' : Nat}

/-- a block that has come behind the heap's end is given a number -/
theorem HR.adopt (h : HR γ w0 H n w) (hn : Nat.ble n 65535 = true) (b : Below w.heap.size w w') {g m : Nat} (hg : w.heap.size ≤ g) (hg2 : g < w'.heap.size) {k : EK} (hk : k.ok (γ.upd n (⟨g, 0⟩, m)) ⟨g, 0⟩ m w') : HR (γ.upd n (⟨g, 0⟩, m)) w0 (H.put n (some k)) (n + 1) w' := by
  have hB := h.below b
  have hle : GLe γ (γ.upd n (⟨g, 0⟩, m)) := G.upd_le (h.fresh n (Nat.le_refl _))
  refine ⟨fun i ki hi => ?_, fun i j ki kj hi hj hne bi bj ei ej => ?_, fun i hi => ?_, fun i hi => ?_, fun i p e => ?_, hB.stays⟩
  · rw [Tr.get_put hn] at hi
    by_cases e : i = n
    · rw [if_pos e] at hi; injection hi with hi; subst hi; subst e
      exact ⟨_, _, G.upd_same, h.notF hg, hk⟩
    · rw [if_neg e] at hi
      obtain ⟨c, m', h1, h2, h3⟩ := hB.hp i ki hi
      exact ⟨c, m', hle _ _ h1, h2, EK.ok_mono hle rfl h3⟩
  · rw [Tr.get_put hn] at hi hj
    by_cases e : i = n
    · rw [e, G.upd_same] at ei; injection ei with ei; subst ei
      rw [if_neg (fun e2 => hne (e.trans e2.symm))] at hj
      rw [G.upd_ne (fun e2 => hne (e.trans e2.symm))] at ej
      have := h.lt j _ ej
      show g ≠ bj.1.k
      omega
    · rw [if_neg e] at hi
      rw [G.upd_ne e] at ei
      by_cases e2 : j = n
      · rw [e2, G.upd_same] at ej; injection ej with ej; subst ej
        have := h.lt i _ ei
        show bi.1.k ≠ g
        omega
      · rw [if_neg e2] at hj
        rw [G.upd_ne e2] at ej
        exact h.inj i j ki kj hi hj hne bi bj ei ej
  · rw [G.upd_ne (by omega)]; exact h.fresh i (by omega)
  · obtain ⟨r1, r2⟩ := h.rsv i hi
    exact ⟨by rw [G.upd_ne (by omega)]; exact r1, by omega⟩
  · by_cases e2 : i = n
    · rw [e2, G.upd_same] at e; injection e with e; subst e; exact hg2
    · rw [G.upd_ne e2] at e; exact hB.lt i p e
/-! ### sorting -/
noncomputable def leZ (a b : Int) : Bool := decide (a ≤ b)
noncomputable def insZ (a : Int) (l : List Int) : List Int := List.rec [a] (fun b r ih => bc (leZ a b) (a :: b :: r) (b :: ih)) l
noncomputable def sortZ (l : List Int) : List Int := List.rec [] (fun a _ ih => insZ a ih) l
theorem insZ_perm (a : Int) : ∀ l : List Int, (insZ a l).Perm (a :: l)
  | [] => .refl _
  | b :: l => by
    show (bc (leZ a b) (a :: b :: l) (b :: insZ a l)).Perm _
    rw [bc_eq]
    split
    · exact .refl _
    · exact ((insZ_perm a l).cons b).trans (.swap a b l)
theorem sortZ_perm : ∀ l : List Int, (sortZ l).Perm l
  | [] => .refl _
  | a :: l => (insZ_perm a _).trans ((sortZ_perm l).cons a)
theorem insZ_sorted (a : Int) : ∀ {l : List Int}, l.Pairwise (· ≤ ·) → (insZ a l).Pairwise (· ≤ ·)
  | [], _ => by simp [insZ]
  | b :: l, h => by
    show (bc (leZ a b) (a :: b :: l) (b :: insZ a l)).Pairwise _
    obtain ⟨h1, h2⟩ := List.pairwise_cons.1 h
    rw [bc_eq]
    split
    · rename_i hab
      have hab : a ≤ b := of_decide_eq_true hab
      exact List.pairwise_cons.2 ⟨fun c hc => by
        rcases List.mem_cons.1 hc with rfl | hc
        · exact hab
        · have := h1 c hc; omega, h⟩
    · rename_i hab
      have hab : b ≤ a := by
        have : ¬ a ≤ b := fun e => hab (decide_eq_true e)
        omega
      refine List.pairwise_cons.2 ⟨fun c hc => ?_, insZ_sorted a h2⟩
      rcases List.mem_cons.1 ((insZ_perm a l).mem_iff.1 hc) with rfl | hc
      · exact hab
      · exact h1 c hc
theorem sortZ_sorted : ∀ l : List Int, (sortZ l).Pairwise (· ≤ ·)
  | [] => .nil
  | a :: l => insZ_sorted a (sortZ_sorted l)
theorem sortZ_eq {l m : List Int} (h : m.Perm l) : m.mergeSort (fun x y => decide (x ≤ y)) = sortZ l := by
  have tr : ∀ a b c : Int, leI a b = true → leI b c = true → leI a c = true := fun a b c h1 h2 => by simp only [leI, decide_eq_true_eq] at *; exact Int.le_trans h1 h2
  have tot : ∀ a b : Int, (leI a b || leI b a) = true := fun a b => by simp only [leI, Bool.or_eq_true, decide_eq_true_eq]; exact Int.le_total a b
  refine List.Perm.eq_of_pairwise (le := fun a b => leI a b = true) (fun a b _ _ h1 h2 => ?_) (List.pairwise_mergeSort tr tot m) ((sortZ_sorted l).imp fun h => decide_eq_true h) (((List.mergeSort_perm m leI).trans h).trans (sortZ_perm l).symm)
  simp only [leI, decide_eq_true_eq] at h1 h2
  exact Int.le_antisymm h1 h2
/-! ### the contract -/
noncomputable def inI64 (a : Int) : Bool := decide ((Lit.int .i64 a).wf = true)
noncomputable def keyZ (v : Value) : Option Int := match v with
  | .int .i64 a => bc (inI64 a) (some a) none
  | _ => none
noncomputable def keysZ (es : List (Value × EV)) : Option (List Int) := List.rec (some []) (fun p _ ih => match keyZ p.1 with
  | some a => match ih with
    | some l => some (a :: l)
    | none => none
  | none => none) es
theorem keysZ_ok : ∀ {es : List (Value × EV)} {l : List Int}, keysZ es = some l → es.map (·.1) = l.map (Value.int .i64) ∧ ∀ a ∈ l, (Lit.int .i64 a).wf = true
  | [], l, h => by simp [keysZ] at h; subst h; simp
  | p :: es, l, h => by
    have h' : (match keyZ p.1 with
      | some a => match keysZ es with
        | some l => some (a :: l)
        | none => none
      | none => none) = some l := h
    split at h'
    case h_2 => cases h'
    rename_i a ha
    split at h'
    case h_2 => cases h'
    rename_i l' hl
    injection h' with h'; subst h'
    obtain ⟨i1, i2⟩ := keysZ_ok hl
    unfold keyZ at ha
    split at ha
    case h_2 => cases ha
    rename_i b hb
    rw [bc_eq] at ha
    split at ha
    case isFalse => cases ha
    rename_i hw
    injection ha with ha; subst ha
    refine ⟨by rw [List.map_cons, List.map_cons, i1, hb], fun c hc => ?_⟩
    rcases List.mem_cons.1 hc with rfl | hc
    · exact of_decide_eq_true hw
    · exact i2 c hc
noncomputable def resKeys (tk : TypeId) (l : List Int) (H : Tr EK) (n : Nat) : Option (EV × Tr EK × Nat) := match l with
  | [] => some (.v (.slice none 0 0), H, n)
  | _ => bc (Nat.ble n 65535) (some (.sl n 1 0 (llen l) none, H.put n (some (.cells tk (l.map fun a => .v (.int .i64 a)) false)), Nat.succ n)) none
noncomputable def ctKeys (g : FuncId) (tk : TypeId) : CT := fun as H n => match as with
  | [.fn f [.ptr i 0]] => bc (Nat.beq f g) (match H.get i with
    | some (.mbox j) => match H.get j with
      | some (.mp es) => match keysZ es with
        | some l => bc (Nat.ble (llen l) 65536) (resKeys tk (sortZ l) H n) none
        | none => none
      | _ => none
    | _ => none) none
  | _ => none
noncomputable def ctMK (g : FuncId) : CT := fun as H n => match as with
  | [.mp j] => bc (Nat.ble n 65535) (some (.fn g [.ptr n 0], H.put n (some (.mbox j)), Nat.succ n)) none
  | _ => none
theorem ctMK_ok {fk g : FuncId} {tm : TypeId} (h : ∀ (mb : Option Nat) (w : World), Calls P fk #[.map mb] w fun e w' => e = .returned (.func (.func g) #[] #[.pointer (some ⟨w.heap.size, 0, none⟩)]) ∧ w' = w.alloc (.cells #[.map mb] tm)) : CtOk P fk (ctMK g) := by
  intro γ w0 H n w as us a H' n' hH hc hr
  unfold ctMK at hr
  split at hr
  case h_2 => cases hr
  rename_i j
  rw [bc_eq] at hr
  split at hr
  case isFalse => cases hr
  rename_i hn
  simp only [Option.some.injEq, Prod.mk.injEq] at hr
  obtain ⟨rfl, rfl, rfl⟩ := hr
  obtain ⟨x, r1, e1, hx, hc1⟩ := ECL.inv hc
  have e3 : r1 = [] := by apply List.eq_nil_of_length_eq_zero; have := hc1.1; simpa using this.symm
  subst e3
  cases hx with
  | mp _ mb q hγj =>
  have eu : us = #[.map (some mb.k)] := by apply Array.ext'; simpa using e1
  rw [eu]
  refine (h (some mb.k) w).mono ?_
  rintro e w' ⟨rfl, rfl⟩
  have hle : GLe γ (γ.upd n (⟨w.heap.size, 0⟩, 1)) := G.upd_le (hH.fresh n (Nat.le_refl _))
  have hnew : HR (γ.upd n (⟨w.heap.size, 0⟩, 1)) w0 (H.put n (some (.mbox j))) (n + 1) (w.alloc (.cells #[.map (some mb.k)] tm)) := hH.new hn (.cells #[.map (some mb.k)] tm) 1 (.mbox j) rfl rfl rfl rfl ⟨rfl, tm, mb, q, World.alloc_heap_new w _, hle _ _ hγj⟩
  exact ⟨_, _, hle, hnew, .fn g [.ptr n 0] [.pointer (some ⟨w.heap.size, 0, none⟩)] rfl (ECL.cons (.ptr n 0 ⟨w.heap.size, 0⟩ 1 G.upd_same) (ECL.nil _)).2, rfl⟩
theorem ctKeys_ok {fs g : FuncId} {tk : TypeId} (hi : P.underlying tk = some (.int .i64))
    (h : ∀ (Bm b nn : Nat) (D0 : DataW Unit) (R : Value → Option (DataW Unit × List MemPlace)) (w : World), Bm < w.heap.size → w.cell? ⟨Bm, 0, none⟩ = some (.map (some b)) → w.ownsMap P tk R b nn D0 → Maps.size D0 ≤ maxLen → Maps.size D0 * 8 ≤ 140737488355328 →
      Calls P fs #[.func (.func g) #[] #[.pointer (some ⟨Bm, 0, none⟩)]] w fun e w' => ∃ (v : Value) (ss : List Int), e = .returned v ∧ ss.Perm (intKeys D0) ∧
        w'.ownsRow w.heap.size tk 1 v ss.length ((ss.mergeSort (fun x y => decide (x ≤ y))).map encZ) ∧ (v = .slice none 0 0 ↔ ss = []) ∧ Below w.heap.size w w') : CtOk P fs (ctKeys g tk) := by
  intro γ w0 H n w as us a H' n' hH hc hr
  unfold ctKeys at hr
  split at hr
  case h_2 => cases hr
  rename_i f i
  rw [bc_eq] at hr
  split at hr
  case isFalse => cases hr
  rename_i hfg
  have hfg := Nat.eq_of_beq_eq_true hfg
  subst hfg
  split at hr
  case h_2 => cases hr
  rename_i j hgi
  split at hr
  case h_2 => cases hr
  rename_i es hgj
  split at hr
  case h_2 => cases hr
  rename_i l hl
  rw [bc_eq] at hr
  split at hr
  case isFalse => cases hr
  rename_i hlen
  have hlen := Nat.le_of_ble_eq_true hlen
  rw [llen_eq] at hlen
  obtain ⟨x, r1, e1, hx, hc1⟩ := ECL.inv hc
  have e3 : r1 = [] := by apply List.eq_nil_of_length_eq_zero; have := hc1.1; simpa using this.symm
  subst e3
  cases hx with
  | fn _ _ vs hvl hvc =>
  obtain ⟨y, r2, e2, hy, hc2⟩ := ECL.inv (γ := γ) ⟨hvl, hvc⟩
  have e4 : r2 = [] := by apply List.eq_nil_of_length_eq_zero; have := hc2.1; simpa using this.symm
  subst e4; subst e2
  cases hy with
  | ptr _ _ b m hγ =>
  have eu : us = #[.func (.func f) #[] #[.pointer (some (b.at 0))]] := by apply Array.ext'; simpa using e1
  obtain ⟨b2, m2, g1, _, g2, ty, mb, q, g3, hγj⟩ := hH.hp i _ hgi
  rw [hγ] at g1
  simp only [Option.some.injEq, Prod.mk.injEq] at g1
  obtain ⟨rfl, rfl⟩ := g1
  obtain ⟨mb2, q2, k1, _, ents, clock, lv, k2, k3, k4, k5⟩ := hH.hp j _ hgj
  rw [hγj] at k1
  simp only [Option.some.injEq, Prod.mk.injEq] at k1
  obtain ⟨rfl, rfl⟩ := k1
  obtain ⟨z1, z2⟩ := keysZ_ok hl
  have hkeysE : (ents.toList.map (·.key)).Perm (l.map (Value.int .i64)) := by
    rw [← z1, k5.keys, ← kvs_keys]; exact k4.map _
  have hrd : ∀ e ∈ ents.toList, ∃ c : Int, c ∈ l ∧ e.key = .int .i64 c ∧ rd P tk (fun _ => some ((.lit (.bool true) : DataW Unit), ([] : List MemPlace))) e = some (.int .i64 c, .lit (.bool true)) := fun e he => by
    have h1 : e.key ∈ l.map (Value.int .i64) := hkeysE.mem_iff.1 (List.mem_map.2 ⟨e, he, rfl⟩)
    obtain ⟨c, hc1, hc2⟩ := List.mem_map.1 h1
    refine ⟨c, hc1, hc2.symm, ?_⟩
    unfold rd
    rw [← hc2, Maps.keyOf_int_mk hi (z2 c hc1)]
    rfl
  have hsz : ents.toList.length = l.length := by
    have := hkeysE.length_eq
    simpa using this
  have hown : w.ownsMap P tk (fun _ => some ((.lit (.bool true) : DataW Unit), ([] : List MemPlace))) mb.k ents.size (.map ((ents.toList.map (rg P tk fun _ => some ((.lit (.bool true) : DataW Unit), ([] : List MemPlace)))).foldr DataW.insert [])) :=
    ⟨ents, clock, k2, ⟨by have : ents.size = l.length := by simpa using hsz
                          unfold maxLen; omega, k3, fun e he => by obtain ⟨c, _, _, h3⟩ := hrd e he; exact ⟨_, h3⟩⟩, Nat.le_refl _, rfl⟩
  have hD : Maps.size (DataW.map ((ents.toList.map (rg P tk fun _ => some ((.lit (.bool true) : DataW Unit), ([] : List MemPlace)))).foldr DataW.insert [])) = l.length := by
    show List.length _ = _
    rw [(WideShapes.sorted_perm _).length_eq, List.length_map, hsz]
  have hints : (intKeys (DataW.map ((ents.toList.map (rg P tk fun _ => some ((.lit (.bool true) : DataW Unit), ([] : List MemPlace)))).foldr DataW.insert []))).Perm l := by
    show (List.map _ _).Perm l
    refine ((WideShapes.sorted_perm _).map _).trans ?_
    rw [List.map_map]
    have e5 : ents.toList.map ((fun p : Lit × DataW Unit => _root_.Go.intOf p.1) ∘ rg P tk fun _ => some ((.lit (.bool true) : DataW Unit), ([] : List MemPlace))) = (ents.toList.map (·.key)).map fun v => match v with
        | .int _ a => a
        | _ => 0 := by
      rw [List.map_map]
      refine List.map_congr_left fun e he => ?_
      obtain ⟨c, _, h2, h3⟩ := hrd e he
      show _root_.Go.intOf (rg P tk _ e).1 = _
      unfold rg
      rw [h3]
      show c = _
      simp only [Function.comp, h2]
    rw [e5]
    refine (hkeysE.map _).trans ?_
    rw [List.map_map]
    have : l.map ((fun v => match v with
        | Value.int _ a => a
        | _ => 0) ∘ Value.int .i64) = l := by
      conv => rhs; rw [← List.map_id l]
      rfl
    rw [this]
  have hb := hH.lt i _ hγ
  have hcell : w.cell? ⟨b.k, 0, none⟩ = some (.map (some mb.k)) := by
    unfold World.cell?
    rw [g3]
    rfl
  have hbat : b.at 0 = ⟨b.k, 0, none⟩ := by unfold Pl.at; rw [g2]
  rw [eu, hbat]
  refine (h b.k mb.k _ _ _ w hb hcell hown (by rw [hD]; unfold maxLen; omega) (by rw [hD]; omega)).mono ?_
  rintro e w' ⟨v, ss, rfl, hperm, hrow, hnil, hbel⟩
  have hpl := hperm.trans hints
  rw [sortZ_eq hpl] at hrow
  have hll : ss.length = (sortZ l).length := by rw [hpl.length_eq, (sortZ_perm l).length_eq]
  generalize hs : sortZ l = sl at hr hrow hll
  unfold resKeys at hr
  split at hr
  · simp only [Option.some.injEq, Prod.mk.injEq] at hr
    obtain ⟨rfl, rfl, rfl⟩ := hr
    have : ss = [] := List.eq_nil_of_length_eq_zero hll
    exact ⟨γ, v, GLe.refl γ, hH.below hbel, by rw [hnil.2 this]; exact .v _, rfl⟩
  · rename_i hne
    rw [bc_eq] at hr
    split at hr
    case isFalse => cases hr
    rename_i hn
    simp only [Option.some.injEq, Prod.mk.injEq] at hr
    obtain ⟨rfl, rfl, rfl⟩ := hr
    obtain ⟨_, hv⟩ := hrow
    rcases hv with ⟨hv, h0⟩ | ⟨g, cap, cur, rfl, hg, hblk, hlc, hcm, hsz2, htake⟩
    · exact absurd (List.eq_nil_of_length_eq_zero (hll.symm.trans h0)) hne
    · have hlt : g < w'.heap.size := (Array.getElem?_eq_some_iff.1 hblk).1
      rw [Nat.mul_one] at hsz2 htake
      have hA := hH.adopt (w' := w') hn hbel hg hlt (m := cap) (k := .cells tk (sl.map fun a => .v (.int .i64 a)) false) ⟨cur, .of hblk, by rw [hsz2]; exact (Nat.zero_add _).symm, by rw [List.length_map, ← hll]; exact hlc, (fun e => by cases e), by
        show ECL _ _ ((cur.toList.drop 0).take _)
        rw [List.drop_zero, List.length_map, ← hll, htake]
        have := ECL.vals (γ.upd n (⟨g, 0⟩, cap)) (sl.map encZ)
        rwa [List.map_map] at this⟩
      refine ⟨_, _, G.upd_le (hH.fresh n (Nat.le_refl _)), hA, ?_, rfl⟩
      rw [llen_eq, ← hll]
      exact .sl n 1 0 _ none ⟨g, 0⟩ cap cap G.upd_same hlc hcm (by omega) (fun k e => by cases e) (fun _ => by omega)
end Go.Proofs.Ytcgopcfbgkhpgaa.Ev
