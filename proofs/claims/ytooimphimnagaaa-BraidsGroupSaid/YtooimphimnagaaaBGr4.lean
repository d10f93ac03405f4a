/- Laid together: Nests: a sequence of records, some of whose cells hold sequences of their own. No program is named. A sequence that a call owns is left alone from now on: it becomes data. No program is named. Operations on open leaves that write or make memory: arrays, stores, append, make, literals. No program is named. Operations on open leaves that write or make memory: all of them. No .. -/
import Derived.Test.YtooimphimnagaaaBGr3
set_option linter.unusedSimpArgs false
set_option linter.unusedVariables false
namespace Go.Proofs.Ytooimphimnagaaa.Ev
open Go.RowKit
variable {P : Program} {γ γ' : G} {w0 : Bs} {w : World} {H H' : Tr EK} {n n' : Nat} {T : Tr EV} {tmps : Array Value} {o : Oper}
theorem mkC_sh (sh : List Sh) (l : List (List U)) : (mkC sh l).sh = sh := by
  unfold mkC; split <;> rfl
theorem mkC_cnt (sh : List Sh) (l : List (List U)) : (mkC sh l).cnt = l.length := by
  unfold mkC; split
  · show (l.map _).length = _; simp
  · show (l.map _).length = _; simp
  · show (l.map _).length = _; simp
  · rfl
theorem mkC_enc (sh : List Sh) (l : List (List U)) : (mkC sh l).enc = l.flatMap (recE sh) := by
  unfold mkC; split
  · rename_i k; exact flat_one (s := .int k) (g := fun x => EV.v (.int k x)) (fun r => rfl) l
  · exact flat_one (s := .bool) (g := fun x => EV.v (.bool x)) (fun r => rfl) l
  · exact flat_one (s := .str) (g := fun x => EV.v (.string x)) (fun r => rfl) l
  · rfl
theorem mkC_cz (sh : List Sh) (l : List (List U)) : (mkC sh l).cz = sh.length := by rw [SyC.cz_sh, mkC_sh]
theorem mkC_rows (sh : List Sh) (l : List (List U)) : (mkC sh l).rows.length = l.length := by rw [← SyC.cnt_eq, mkC_cnt]

theorem row_seq {γ : G} {sh' : List Sh} {L : List (List U)} {arr : Array Value} {s0 m : Nat} (hz : arr.size = s0 + m) (hL : L.length * sh'.length ≤ m) (h : ∀ (a g : Nat) (s : Sh), a < L.length → sh'[g]? = some s → ∃ x, arr[s0 + (a * sh'.length + g)]? = some x ∧ EC γ (s.ev ((L.getD a []).getD g (.i 0))) x) :
    (mkC sh' L).enc.length ≤ m ∧ ECL γ (mkC sh' L).enc ((arr.toList.drop s0).take (mkC sh' L).enc.length) := by
  have e : (mkC sh' L).enc = (SyC.recs sh' L).enc := mkC_enc sh' L; have hl : (SyC.recs sh' L).enc.length = L.length * sh'.length := by rw [SyC.enc_len, SyC.len_cz]; rfl
  rw [e]; refine ⟨by rw [hl]; exact hL, ?_, fun q a x ha hx => ?_⟩
  · have hal : arr.toList.length = arr.size := Array.length_toList; rw [List.length_take, List.length_drop, hal, hl]; omega
  · have hq : q < L.length * sh'.length := by
      rw [← hl]; exact (List.getElem?_eq_some_iff.1 ha).1
    have hzp : 0 < sh'.length := by
      rcases Nat.eq_zero_or_pos sh'.length with e0 | e0
      · rw [e0, Nat.mul_zero] at hq; omega
      · exact e0
    have h1 : q / sh'.length < L.length := Nat.div_lt_of_lt_mul (by rw [Nat.mul_comm]; exact hq); have h2 : q % sh'.length < sh'.length := Nat.mod_lt _ hzp; have h3 : q / sh'.length * sh'.length + q % sh'.length = q := by rw [Nat.mul_comm]; exact Nat.div_add_mod q sh'.length
    have h4 := SyC.cellE_enc (c := .recs sh' L) (j := q / sh'.length) (f := q % sh'.length) h1 h2; rw [show (SyC.recs sh' L).cz = sh'.length from rfl, h3] at h4
    rw [ha] at h4; injection h4 with h4
    obtain ⟨y, g1, g2⟩ := h (q / sh'.length) (q % sh'.length) _ h1 (List.getElem?_eq_getElem h2); rw [h3] at g1; rw [List.getElem?_take, if_pos (by rw [hl]; exact hq), List.getElem?_drop, Array.getElem?_toList, g1] at hx; injection hx with hx
    subst hx; rw [h4, ← SyC.ev_cellE (c := .recs sh' L) (s := sh'[q % sh'.length]) h1 (List.getElem?_eq_getElem h2)]; exact g2

theorem HR.toNest (h : HR γ w0 H n w) {i : Nat} (hi : Nat.ble i 65535 = true) {k0 : EK} (hg : H.get i = some k0) (hn : ¬ k0.Nil) (hrw : ∀ v q, γ.rw i v q = none) {ty : TypeId × List TypeId} {sh : List Sh} {rows : List (List U)}
    (hk : ∀ b m, k0.ok γ b m w → (EK.nest i ty sh rows 0 [] true).ok γ b m w) : HR γ w0 (H.put i (some (.nest i ty sh rows 0 [] true))) n w := by
  have look : ∀ j k, (H.put i (some (.nest i ty sh rows 0 [] true))).get j = some k → (j = i ∧ k = .nest i ty sh rows 0 [] true) ∨ (j ≠ i ∧ H.get j = some k) := fun j k hj => by
    rw [Tr.get_put hi] at hj; split at hj
    · rename_i e; injection hj with hj; exact .inl ⟨e, hj.symm⟩
    · rename_i e; exact .inr ⟨e, hj⟩
  have back : ∀ j k, (H.put i (some (.nest i ty sh rows 0 [] true))).get j = some k → ¬ k.Nil → ∃ k1, H.get j = some k1 ∧ ¬ k1.Nil := fun j k hj nj => by
    rcases look j k hj with ⟨rfl, _⟩ | ⟨_, h2⟩
    · exact ⟨k0, hg, hn⟩
    · exact ⟨k, h2, nj⟩
  refine ⟨fun j k hj => ?_, fun j l kj kl hj hl nj nl hne bj bl ej el => ?_, h.fresh, h.rsv, h.lt, h.stays, ⟨fun k a hk => ?_, h.fzk.base, h.fzk.nst.rwg, fun j me ty2 sh2 rows2 v ho nn e => ?_, fun j me ty2 sh2 rows2 v ho nn e j1 f sh' hj1 hf hh k m hkr => ?_⟩⟩
  · rcases look j k hj with ⟨rfl, rfl⟩ | ⟨_, h2⟩
    · obtain ⟨b, m, h1, h2, h3⟩ := h.hp j k0 hg hn; exact .inr ⟨b, m, h1, h2, hk b m h3⟩
    · exact h.hp0 j k h2
  · obtain ⟨k1, q1, q2⟩ := back j kj hj nj; obtain ⟨k2, r1, r2⟩ := back l kl hl nl; exact h.inj0 j l k1 k2 q1 r1 q2 r2 hne bj bl ej el
  · obtain ⟨q1, q2, q3⟩ := h.fzk.at' k a hk; refine ⟨q1, q2, fun j kj b m hj nj ej => ?_⟩; obtain ⟨k1, r1, r2⟩ := back j kj hj nj; exact q3 j k1 b m r1 r2 ej
  · rcases look j _ e with ⟨rfl, h2⟩ | ⟨_, h2⟩
    · injection h2 with h3 h4 h5 h6 h7 h8 h9
      exact ⟨h3, fun v' q _ => hrw v' q⟩
    · exact h.fzk.nst.me j me ty2 sh2 rows2 v ho nn h2
  · rcases look j _ e with ⟨rfl, h2⟩ | ⟨_, h2⟩
    · rw [hrw] at hkr; cases hkr
    · obtain ⟨q1, q2, q3, q4, q5⟩ := h.fzk.nst.at' j me ty2 sh2 rows2 v ho nn h2 j1 f sh' hj1 hf hh k m hkr; refine ⟨q1, q2, fun i' ki b m' hi' ni ei => ?_, fun i2 me2 ty3 sh3 rows3 v2 ho2 nn2 e2 j2 f2 s2 hj2 hf2 hh2 m2 hk2 => ?_, q5⟩
      · obtain ⟨k1, r1, r2⟩ := back i' ki hi' ni; exact q3 i' k1 b m' r1 r2 ei
      · rcases look i2 _ e2 with ⟨rfl, _⟩ | ⟨_, r2⟩
        · rw [hrw] at hk2; cases hk2
        · exact q4 i2 me2 ty3 sh3 rows3 v2 ho2 nn2 r2 j2 f2 s2 hj2 hf2 hh2 m2 hk2

theorem HR.rowOut (h : HR γ w0 H n w) {i : Nat} (hi : Nat.ble i 65535 = true) (hnb : Nat.ble n 65535 = true) {ty : TypeId × List TypeId} {sh : List Sh} {rows : List (List U)} {v : Nat} {ho : List (Nat × Nat)} {nn : Bool} (hg : H.get i = some (.nest i ty sh rows v ho nn)) {j f : Nat} {sh' : List Sh}
    (hj : j < rows.length) (hf : sh[f]? = some (.list sh')) (hh : (j, f) ∉ ho) {k : Nat} {m : Nat × Nat} (hk : γ.rw i v (j * sh.length + f) = some (k, m))
    (hseq : ∀ arr : Array Value, arr.size = m.1 + m.2 → (∀ (a g : Nat) (s : Sh), a < (((rows.getD j []).getD f (.i 0)).list).length → sh'[g]? = some s → ∃ x, arr[m.1 + (a * sh'.length + g)]? = some x ∧ EC γ (s.ev (((((rows.getD j []).getD f (.i 0)).list).getD a []).getD g (.i 0))) x) →
      (mkC sh' ((rows.getD j []).getD f (.i 0)).list).enc.length ≤ m.2 ∧ ECL γ (mkC sh' ((rows.getD j []).getD f (.i 0)).list).enc ((arr.toList.drop m.1).take (mkC sh' ((rows.getD j []).getD f (.i 0)).list).enc.length)) :
    GLe γ (γ.upd n (⟨k, m.1⟩, m.2)) ∧ HR (γ.upd n (⟨k, m.1⟩, m.2)) w0 ((H.put i (some (.nest i ty sh rows v ((j, f) :: ho) nn))).put n (some (.seq (ty.2.getD f 0) (mkC sh' ((rows.getD j []).getD f (.i 0)).list) true))) (Nat.succ n) w := by
  have hγn := h.fresh n (Nat.le_refl _); have hle : GLe γ (γ.upd n (⟨k, m.1⟩, m.2)) := G.upd_le hγn; obtain ⟨w1, w2, w3, w4, arr, ty3, w5, ⟨w6, rfl⟩, w7⟩ := h.fzk.nst.at' i i ty sh rows v ho nn hg j f sh' hj hf hh k m hk; have hin : i ≠ n := fun e => by
    obtain ⟨b, hb⟩ := h.fzk.nst.rwg i v _ _ hk; rw [e, hγn] at hb; cases hb
  have hlt : ∀ q p, γ q = some p → q ≠ n := fun q p e e2 => by rw [e2, hγn] at e; cases e
  have nn' : ∀ q b, γ q = some b → (γ.upd n (⟨k, m.1⟩, m.2)) q = some b := hle.le; have look : ∀ q kq, ((H.put i (some (.nest i ty sh rows v ((j, f) :: ho) nn))).put n (some (.seq (ty.2.getD f 0) (mkC sh' ((rows.getD j []).getD f (.i 0)).list) true))).get q = some kq →
      (q = n ∧ kq = .seq (ty.2.getD f 0) (mkC sh' ((rows.getD j []).getD f (.i 0)).list) true) ∨ (q = i ∧ kq = .nest i ty sh rows v ((j, f) :: ho) nn) ∨ (q ≠ i ∧ q ≠ n ∧ H.get q = some kq) := fun q kq hq => by
    rw [Tr.get_put hnb] at hq; split at hq
    · rename_i e; injection hq with hq; exact .inl ⟨e, hq.symm⟩
    · rename_i e; rw [Tr.get_put hi] at hq; split at hq
      · rename_i e2; injection hq with hq; exact .inr (.inl ⟨e2, hq.symm⟩)
      · rename_i e2; exact .inr (.inr ⟨e2, e, hq⟩)
  have nilN : ∀ ho', (EK.nest i ty sh rows v ho' nn).Nil ↔ (EK.nest i ty sh rows v ho nn).Nil := fun _ => Iff.rfl
  -- an entry, as it was
  have back : ∀ q kq b m', q ≠ n → ((H.put i (some (.nest i ty sh rows v ((j, f) :: ho) nn))).put n (some (.seq (ty.2.getD f 0) (mkC sh' ((rows.getD j []).getD f (.i 0)).list) true))).get q = some kq → ¬ kq.Nil → (γ.upd n (⟨k, m.1⟩, m.2)) q = some (b, m') → ∃ k1, H.get q = some k1 ∧ ¬ k1.Nil ∧ γ q = some (b, m') := fun q kq b m' hqn hq nq eq => by
    rw [G.upd_ne hqn] at eq; rcases look q kq hq with ⟨e, _⟩ | ⟨rfl, rfl⟩ | ⟨_, _, h2⟩
    · exact absurd e hqn
    · exact ⟨_, hg, nq, eq⟩
    · exact ⟨kq, h2, nq, eq⟩
  have nst : ∀ q me2 ty2 sh2 rows2 v2 ho2 nn2, ((H.put i (some (.nest i ty sh rows v ((j, f) :: ho) nn))).put n (some (.seq (ty.2.getD f 0) (mkC sh' ((rows.getD j []).getD f (.i 0)).list) true))).get q = some (.nest me2 ty2 sh2 rows2 v2 ho2 nn2) → ∃ ho3, H.get q = some (.nest me2 ty2 sh2 rows2 v2 ho3 nn2) ∧ (∀ p, p ∉ ho2 → p ∉ ho3) ∧ (q = i → (j, f) ∈ ho2) := fun q me2 ty2 sh2 rows2 v2 ho2 nn2 hq => by
    rcases look q _ hq with ⟨_, e⟩ | ⟨rfl, e⟩ | ⟨e, _, h2⟩
    · cases e
    · injection e with e1 e2 e3 e4 e5 e6 e7
      subst e1; subst e2; subst e3; subst e4; subst e5; subst e6; subst e7; exact ⟨ho, hg, fun p hp hq => hp (List.mem_cons_of_mem _ hq), fun _ => List.mem_cons_self⟩
    · exact ⟨ho2, h2, fun _ hp => hp, fun e2 => absurd e2 e⟩
  refine ⟨hle, fun q kq hq => ?_, fun q l kq kl hq hl nq nl hne bq bl eq el => ?_, fun q hq => ?_, fun q hq => ?_, fun q p e => ?_, h.stays, ⟨fun c a hc => ?_, h.fzk.base, fun q v' q' p e => ?_, fun q me2 ty2 sh2 rows2 v2 ho2 nn2 e => ?_, fun q me2 ty2 sh2 rows2 v2 ho2 nn2 e j1 f1 s1 hj1 hf1 hh1 c m1 hc => ?_⟩⟩
  · rcases look q kq hq with ⟨rfl, rfl⟩ | ⟨rfl, rfl⟩ | ⟨_, e, h2⟩
    · obtain ⟨a1, a2⟩ := hseq arr w6 w7; exact .inr ⟨_, _, G.upd_same, w1, arr, w5, w6, a1, a2.mono hle⟩
    · rcases h.hp0 q _ hg with h3 | ⟨b, m2, h3, h4, c, h5, h6, h7, h8⟩
      · exact .inl h3
      · exact .inr ⟨b, m2, nn' _ _ h3, h4, c, h5, h6, h7, fun j' f' s' hj' hf' hh' => let ⟨x, hx, hc⟩ := h8 j' f' s' hj' hf' (fun q => hh' (List.mem_cons_of_mem _ q)); ⟨x, hx, hc.mono hle fun _ _ _ => rfl⟩⟩
    · exact (h.hp0 q kq h2).imp id fun ⟨b, m2, h3, h4, h5⟩ => ⟨b, m2, nn' _ _ h3, h4, EK.ok_mono hle rfl h5⟩
  · by_cases e1 : q = n
    · subst e1; rw [G.upd_same] at eq; injection eq with eq; subst eq
      obtain ⟨k2, r1, r2, r3⟩ := back l kl bl.1 bl.2 (fun e => hne e.symm) hl nl el; exact fun e => w3 l k2 bl.1 bl.2 r1 r2 r3 e.symm
    · obtain ⟨k1, q1, q2, q3⟩ := back q kq bq.1 bq.2 e1 hq nq eq
      by_cases e2 : l = n
      · subst e2; rw [G.upd_same] at el; injection el with el; subst el
        exact w3 q k1 bq.1 bq.2 q1 q2 q3
      · obtain ⟨k2, r1, r2, r3⟩ := back l kl bl.1 bl.2 e2 hl nl el; exact h.inj0 q l k1 k2 q1 r1 q2 r2 hne bq bl q3 r3
  · rw [G.upd_ne (by omega)]; exact h.fresh q (by omega)
  · obtain ⟨r1, r2⟩ := h.rsv q hq; exact ⟨by rw [G.upd_ne (by omega)]; exact r1, by omega⟩
  · by_cases e1 : q = n
    · subst e1; rw [G.upd_same] at e; injection e with e; subst e; exact w5.lt
    · rw [G.upd_ne e1] at e; exact h.lt q p e
  · obtain ⟨q1, q2, q3⟩ := h.fzk.at' c a hc; refine ⟨q1, q2, fun q kq b m' hq nq eq => ?_⟩
    by_cases e1 : q = n
    · subst e1; rw [G.upd_same] at eq; injection eq with eq; injection eq with e2 e3; subst e2
      rintro rfl
      have hc : γ.fz k = some a := hc; rw [w2] at hc; cases hc
    · obtain ⟨k1, r1, r2, r3⟩ := back q kq b m' e1 hq nq eq; exact q3 q k1 b m' r1 r2 r3
  · obtain ⟨b, hb⟩ := h.fzk.nst.rwg q v' q' p e; exact ⟨b, nn' _ _ hb⟩
  · obtain ⟨ho3, r1, _⟩ := nst q me2 ty2 sh2 rows2 v2 ho2 nn2 e; exact h.fzk.nst.me q me2 ty2 sh2 rows2 v2 ho3 nn2 r1
  · obtain ⟨ho3, r1, r2, r3⟩ := nst q me2 ty2 sh2 rows2 v2 ho2 nn2 e; obtain ⟨q1, q2, q3, q4, arr2, ty4, q5, q6, q7⟩ := h.fzk.nst.at' q me2 ty2 sh2 rows2 v2 ho3 nn2 r1 j1 f1 s1 hj1 hf1 (r2 _ hh1) c m1 hc; refine ⟨q1, q2, fun i' ki b m' hi' ni ei => ?_, fun i2 me3 ty3 sh3 rows3 v3 ho4 nn3 e2 j2 f2 s2 hj2 hf2 hh2 m2 hk2 => ?_, arr2, ty4, q5, q6, fun a g s ha hs => let ⟨x, hx, hcx⟩ := q7 a g s ha hs; ⟨x, hx, hcx.mono hle⟩⟩
    · by_cases e1 : i' = n
      · subst e1; rw [G.upd_same] at ei; injection ei with ei; injection ei with e2 e3; subst e2
        rintro rfl
        obtain ⟨y1, y2, y3⟩ := q4 i i ty sh rows v ho nn hg j f sh' hj hf hh m hk; subst y1; subst y2; subst y3; exact hh1 (r3 rfl)
      · obtain ⟨k1, y1, y2, y3⟩ := back i' ki b m' e1 hi' ni ei; exact q3 i' k1 b m' y1 y2 y3
    · obtain ⟨ho5, y1, y2, _⟩ := nst i2 me3 ty3 sh3 rows3 v3 ho4 nn3 e2; exact q4 i2 me3 ty3 sh3 rows3 v3 ho5 nn3 y1 j2 f2 s2 hj2 hf2 (y2 _ hh2) m2 hk2
theorem cell_inj {z j f j2 f2 : Nat} (hf : f < z) (hf2 : f2 < z) (e : j2 * z + f2 = j * z + f) : j2 = j ∧ f2 = f := by
  have h1 : (j2 * z + f2) / z = (j * z + f) / z := by rw [e]
  have h2 : (j2 * z + f2) % z = (j * z + f) % z := by rw [e]
  have hz : 0 < z := by omega
  rw [Nat.mul_comm j2, Nat.mul_comm j, Nat.mul_add_div hz, Nat.mul_add_div hz, Nat.div_eq_of_lt hf, Nat.div_eq_of_lt hf2] at h1; rw [Nat.mul_comm j2, Nat.mul_comm j, Nat.mul_add_mod, Nat.mul_add_mod, Nat.mod_eq_of_lt hf, Nat.mod_eq_of_lt hf2] at h2; exact ⟨by omega, h2⟩
theorem ok_monoN {γ γ' : G} (hle : GLe γ γ') {b : Pl} {n : Nat} {w : World} {k : EK} (h : k.ok γ b n w) (hrw : ∀ me ty sh rows v ho nn, k = .nest me ty sh rows v ho nn → ∀ v q, γ'.rw me v q = γ.rw me v q) : k.ok γ' b n w := by
  by_cases hb : k.nestB = false
  · exact EK.ok_monoB hb hle rfl h
  · cases k with
    | nest me ty sh rows v ho nn =>
      obtain ⟨c, h1, h2, h3, h4⟩ := h; refine ⟨c, h1, h2, h3, fun j f s hj hf hh => ?_⟩; obtain ⟨x, hx, hc⟩ := h4 j f s hj hf hh; refine ⟨x, hx, ?_⟩
      cases s with
      | list sh =>
        rcases hc with ⟨h1, h2⟩ | ⟨k, m, c, h1, h2⟩
        · exact .inl ⟨(hrw _ _ _ _ _ _ _ rfl _ _).trans h1, h2⟩
        · exact .inr ⟨k, m, c, hle.rw _ _ _ _ h1, h2⟩
      | int k => exact EC.mono hle hc
      | bool => exact EC.mono hle hc
      | str => exact EC.mono hle hc
    | _ => exact absurd rfl hb

noncomputable def G.inRow (γ : G) (i v q : Nat) (p : Nat × Nat × Nat) : G := ⟨γ.g, γ.fz, fun i' v' q' => if i' = i ∧ v' = v + 1 then (if q' = q then some p else γ.rw i v q') else γ.rw i' v' q'⟩
theorem G.inRow_other {i v q : Nat} {p : Nat × Nat × Nat} {i' v' q' : Nat} (h : i' ≠ i) : (γ.inRow i v q p).rw i' v' q' = γ.rw i' v' q' := by
  show (if i' = i ∧ v' = v + 1 then _ else _) = _
  rw [if_neg (fun e => h e.1)]
theorem G.inRow_here {i v q : Nat} {p : Nat × Nat × Nat} : (γ.inRow i v q p).rw i (v + 1) q = some p := by
  show (if i = i ∧ v + 1 = v + 1 then (if q = q then some p else _) else _) = _
  rw [if_pos ⟨rfl, rfl⟩, if_pos rfl]
theorem G.inRow_next {i v q : Nat} {p : Nat × Nat × Nat} {q' : Nat} (h : q' ≠ q) : (γ.inRow i v q p).rw i (v + 1) q' = γ.rw i v q' := by
  show (if i = i ∧ v + 1 = v + 1 then (if q' = q then some p else _) else _) = _
  rw [if_pos ⟨rfl, rfl⟩, if_neg h]
theorem G.inRow_le {i v q : Nat} {p : Nat × Nat × Nat} (h : ∀ q, γ.rw i (v + 1) q = none) : GLe γ (γ.inRow i v q p) := ⟨fun _ _ h => h, fun _ _ h => h, fun i' v' q' p' e => by
  show (if i' = i ∧ v' = v + 1 then (if q' = q then some p else γ.rw i v q') else γ.rw i' v' q') = some p'
  split
  · rename_i h1; obtain ⟨rfl, rfl⟩ := h1; rw [h] at e; cases e
  · exact e⟩

noncomputable def rset (f : Nat) (u : U) : List U → List U := Nat.rec (fun r => u :: r.tail) (fun _ ih r => r.headD (.i 0) :: ih r.tail) f
theorem rset_same {u : U} : ∀ {f : Nat} {r : List U}, (rset f u r).getD f (.i 0) = u
  | 0, r => rfl
  | f + 1, r => by
    show (rset f u r.tail).getD f (.i 0) = u; exact rset_same
theorem rset_other {u : U} : ∀ {f f2 : Nat} {r : List U}, f2 ≠ f → (rset f u r).getD f2 (.i 0) = r.getD f2 (.i 0)
  | 0, 0, r, h => absurd rfl h
  | 0, f2 + 1, r, h => by
    show r.tail.getD f2 (.i 0) = r.getD (f2 + 1) (.i 0); cases r <;> rfl
  | f + 1, 0, r, h => by
    show r.headD (.i 0) = r.getD 0 (.i 0); cases r <;> rfl
  | f + 1, f2 + 1, r, h => by
    show (rset f u r.tail).getD f2 (.i 0) = r.getD (f2 + 1) (.i 0); rw [rset_other (fun e => h (by omega))]; cases r <;> rfl
theorem rows_set_same {rows : List (List U)} {j f : Nat} {u : U} (hj : j < rows.length) : ((rows.set j (rset f u (rows.getD j []))).getD j []).getD f (.i 0) = u := by
  have e : (rows.set j (rset f u (rows.getD j []))).getD j [] = rset f u (rows.getD j []) := by
    rw [List.getD_eq_getElem?_getD, List.getElem?_set, if_pos rfl, if_pos hj]; rfl
  rw [e]; exact rset_same
theorem rows_set_other {rows : List (List U)} {j f j2 f2 : Nat} {u : U} (h : ¬ (j2 = j ∧ f2 = f)) : ((rows.set j (rset f u (rows.getD j []))).getD j2 []).getD f2 (.i 0) = (rows.getD j2 []).getD f2 (.i 0) := by
  by_cases e : j = j2
  · subst e
    by_cases hj : j < rows.length
    · have e2 : (rows.set j (rset f u (rows.getD j []))).getD j [] = rset f u (rows.getD j []) := by
        rw [List.getD_eq_getElem?_getD, List.getElem?_set, if_pos rfl, if_pos hj]; rfl
      rw [e2]; exact rset_other (fun e => h ⟨rfl, e⟩)
    · rw [List.set_eq_of_length_le (by omega)]
  · have e2 : (rows.set j (rset f u (rows.getD j []))).getD j2 [] = rows.getD j2 [] := by
      rw [List.getD_eq_getElem?_getD, List.getElem?_set, if_neg e, ← List.getD_eq_getElem?_getD]
    rw [e2]

theorem HR.rowIn (h : HR γ w0 H n w) {i r : Nat} (hi : Nat.ble i 65535 = true) (hr : Nat.ble r 65535 = true) (hri : r ≠ i) {ty : TypeId × List TypeId} {sh : List Sh} {rows : List (List U)} {v : Nat} {ho ho' : List (Nat × Nat)} {nn : Bool} (hg : H.get i = some (.nest i ty sh rows v ho nn)) (hnil : ¬ (EK.nest i ty sh rows v ho nn).Nil)
    {j f : Nat} {sh' : List Sh} (hj : j < rows.length) (hf : sh[f]? = some (.list sh')) (hho : ∀ p, p ∉ ho' → p ∉ ho ∨ p = (j, f)) {c : SyC} {L : List (List U)} (hgr : H.get r = some (.seq (ty.2.getD f 0) c true)) {b : Pl} {m : Nat} (hγ : γ r = some (b, m))
    (hc : ∀ ca : Array Value, ca.size = b.s + m → c.enc.length ≤ m → ECL γ c.enc ((ca.toList.drop b.s).take c.enc.length) → ∀ (a g : Nat) (s : Sh), a < L.length → sh'[g]? = some s → ∃ x, ca[b.s + (a * sh'.length + g)]? = some x ∧ EC γ (s.ev ((L.getD a []).getD g (.i 0))) x)
    (hx : ∀ (bi : Pl) (mi : Nat) (ci : Array Value), γ i = some (bi, mi) → Cl w bi.k ci ty.1 → ∃ cp, ci[bi.s + (j * sh.length + f)]? = some (.slice (some ⟨b.k, b.s, none⟩) L.length cp) ∧ L.length ≤ cp ∧ cp ≤ maxLen ∧ (cp * sh'.length = m ∨ cp = 0)) :
    GLe γ (γ.inRow i v (j * sh.length + f) (b.k, b.s, m)) ∧ HR (γ.inRow i v (j * sh.length + f) (b.k, b.s, m)) w0 ((H.put r none).put i (some (.nest i ty sh (rows.set j (rset f (.l L) (rows.getD j []))) (v + 1) ho' nn))) n w := by
  obtain ⟨_, hme⟩ := h.fzk.nst.me i i ty sh rows v ho nn hg; have hle : GLe γ (γ.inRow i v (j * sh.length + f) (b.k, b.s, m)) := G.inRow_le fun q => hme (v + 1) q (by omega); have hrn : ¬ (EK.seq (ty.2.getD f 0) c true).Nil := fun e => absurd e.1 (by simp); obtain ⟨b2, m2, s1, s2, ca, s3, s4, s5, s6⟩ := h.hp r _ hgr hrn; rw [hγ] at s1; simp only [Option.some.injEq, Prod.mk.injEq] at s1; obtain ⟨rfl, rfl⟩ := s1; obtain ⟨bi, mi, e1, e2, ci, e3, e4, e5, e6⟩ := h.hp i _ hg hnil; have hz : f < sh.length := (List.getElem?_eq_some_iff.1 hf).1
  have look : ∀ q kq, ((H.put r none).put i (some (.nest i ty sh (rows.set j (rset f (.l L) (rows.getD j []))) (v + 1) ho' nn))).get q = some kq → (q = i ∧ kq = .nest i ty sh (rows.set j (rset f (.l L) (rows.getD j []))) (v + 1) ho' nn) ∨ (q ≠ i ∧ q ≠ r ∧ H.get q = some kq) := fun q kq hq => by
    rw [Tr.get_put hi] at hq; split at hq
    · rename_i e; injection hq with hq; exact .inl ⟨e, hq.symm⟩
    · rename_i e; rw [Tr.get_put hr] at hq; split at hq
      · cases hq
      · rename_i e2; exact .inr ⟨e, e2, hq⟩
  have back : ∀ q kq, ((H.put r none).put i (some (.nest i ty sh (rows.set j (rset f (.l L) (rows.getD j []))) (v + 1) ho' nn))).get q = some kq → ¬ kq.Nil → q ≠ r ∧ ∃ k1, H.get q = some k1 ∧ ¬ k1.Nil := fun q kq hq nq => by
    rcases look q kq hq with ⟨rfl, _⟩ | ⟨_, g2, g3⟩
    · exact ⟨fun e => hri e.symm, _, hg, hnil⟩
    · exact ⟨g2, kq, g3, nq⟩
  have cellNe : ∀ j2 f2 s2, sh[f2]? = some s2 → ¬ (j2 = j ∧ f2 = f) → j2 * sh.length + f2 ≠ j * sh.length + f := fun j2 f2 s2 hf2 hne e => hne (cell_inj hz (List.getElem?_eq_some_iff.1 hf2).1 e); have notHo : ∀ j2 f2, (j2, f2) ∉ ho' → ¬ (j2 = j ∧ f2 = f) → (j2, f2) ∉ ho := fun j2 f2 h1 h2 => (hho _ h1).resolve_right fun e => by injection e with e3 e4; exact h2 ⟨e3, e4⟩
  have fzb : γ.fz b.k = none := by
    cases e : γ.fz b.k with
    | none => rfl
    | some a => exact absurd rfl ((h.fzk.at' b.k a e).2.2 r _ b m hgr hrn hγ)
  -- no row that was there lies in the block of r
  have oldNe : ∀ i2 me2 ty2 sh2 rows2 v2 ho2 nn2, H.get i2 = some (.nest me2 ty2 sh2 rows2 v2 ho2 nn2) → ∀ (j2 f2 : Nat) (x2 : List Sh), j2 < rows2.length → sh2[f2]? = some (.list x2) → (j2, f2) ∉ ho2 → ∀ m3, γ.rw i2 v2 (j2 * sh2.length + f2) ≠ some (b.k, m3) := fun i2 me2 ty2 sh2 rows2 v2 ho2 nn2 g1 j2 f2 x2 g2 g3 g4 m3 g5 =>
    absurd rfl ((h.fzk.nst.at' i2 me2 ty2 sh2 rows2 v2 ho2 nn2 g1 j2 f2 x2 g2 g3 g4 b.k m3 g5).2.2.1 r _ b m hgr hrn hγ)
  -- a row behind it: the new one, or one that was there
  have rowOf : ∀ i2 me2 ty2 sh2 rows2 v2 ho2 nn2, ((H.put r none).put i (some (.nest i ty sh (rows.set j (rset f (.l L) (rows.getD j []))) (v + 1) ho' nn))).get i2 = some (.nest me2 ty2 sh2 rows2 v2 ho2 nn2) → ∀ (j2 f2 : Nat) (x2 : List Sh), j2 < rows2.length → sh2[f2]? = some (.list x2) → (j2, f2) ∉ ho2 → ∀ k m3, (γ.inRow i v (j * sh.length + f) (b.k, b.s, m)).rw i2 v2 (j2 * sh2.length + f2) = some (k, m3) →
      (i2 = i ∧ j2 = j ∧ f2 = f ∧ x2 = sh' ∧ k = b.k ∧ m3 = (b.s, m) ∧ ty2 = ty ∧ rows2 = rows.set j (rset f (.l L) (rows.getD j []))) ∨
      (∃ rows3 v3 ho3, H.get i2 = some (.nest me2 ty2 sh2 rows3 v3 ho3 nn2) ∧ j2 < rows3.length ∧ (j2, f2) ∉ ho3 ∧ γ.rw i2 v3 (j2 * sh2.length + f2) = some (k, m3) ∧ (rows2.getD j2 []).getD f2 (.i 0) = (rows3.getD j2 []).getD f2 (.i 0)) := fun i2 me2 ty2 sh2 rows2 v2 ho2 nn2 g1 j2 f2 x2 g2 g3 g4 k m3 g5 => by
    rcases look i2 _ g1 with ⟨rfl, g6⟩ | ⟨g6, g7, g8⟩
    · injection g6 with y1 y2 y3 y4 y5 y6 y7
      subst y1; subst y2; subst y3; subst y4; subst y5; subst y6; subst y7; rw [List.length_set] at g2
      by_cases he : j2 = j ∧ f2 = f
      · obtain ⟨rfl, rfl⟩ := he; rw [G.inRow_here] at g5; simp only [Option.some.injEq, Prod.mk.injEq] at g5; rw [hf] at g3; injection g3 with g3; injection g3 with g3
        exact .inl ⟨rfl, rfl, rfl, g3.symm, g5.1.symm, g5.2.symm, rfl, rfl⟩
      · rw [G.inRow_next (cellNe j2 f2 _ g3 he)] at g5; exact .inr ⟨rows, v, ho, hg, g2, notHo j2 f2 g4 he, g5, rows_set_other he⟩
    · rw [G.inRow_other g6] at g5; exact .inr ⟨rows2, v2, ho2, g8, g2, g4, g5, rfl⟩
  refine ⟨hle, fun q kq hq => ?_, fun q l kq kl hq hl nq nl hne bq bl eq el => ?_, h.fresh, h.rsv, h.lt, h.stays, ⟨fun k a hk => ?_, h.fzk.base, fun i' v' q' p e => ?_, fun q me2 ty2 sh2 rows2 v2 ho2 nn2 e => ?_, fun q me2 ty2 sh2 rows2 v2 ho2 nn2 e j1 f1 x1 hj1 hf1 hh1 k m1 hk => ?_⟩⟩
  · rcases look q kq hq with ⟨rfl, rfl⟩ | ⟨g1, g2, g3⟩
    · refine .inr ⟨bi, mi, e1, e2, ci, e3, e4, by rw [List.length_set]; exact e5, fun j2 f2 s hj2 hf2 hh2 => ?_⟩; rw [List.length_set] at hj2
      by_cases he : j2 = j ∧ f2 = f
      · obtain ⟨rfl, rfl⟩ := he; obtain ⟨cp, x1, x2, x3, x4⟩ := hx bi mi ci e1 e3; rw [hf] at hf2; injection hf2 with hf2; subst hf2; refine ⟨_, x1, ?_⟩; rw [rows_set_same hj]; exact .inr ⟨b.k, (b.s, m), cp, G.inRow_here, rfl, x2, x3, x4⟩
      · obtain ⟨x, x1, x2⟩ := e6 j2 f2 s hj2 hf2 (notHo j2 f2 hh2 he); refine ⟨x, x1, ?_⟩; rw [rows_set_other he]; have hq := G.inRow_next (γ := γ) (i := q) (v := v) (p := (b.k, b.s, m)) (cellNe j2 f2 s hf2 he)
        cases s with
        | list sl =>
          rcases x2 with ⟨y1, y2⟩ | ⟨k, m3, cp, y1, y2⟩
          · exact .inl ⟨hq.trans y1, y2⟩
          · exact .inr ⟨k, m3, cp, hq.trans y1, y2⟩
        | int k => exact EC.mono hle x2
        | bool => exact EC.mono hle x2
        | str => exact EC.mono hle x2
    · refine (h.hp0 q kq g3).imp id fun ⟨b3, m3, y1, y2, y3⟩ => ⟨b3, m3, y1, y2, ok_monoN hle y3 fun me2 ty2 sh2 rows2 v2 ho2 nn2 e v' q' => ?_⟩; subst e; obtain ⟨y4, _⟩ := h.fzk.nst.me q me2 ty2 sh2 rows2 v2 ho2 nn2 g3; exact G.inRow_other (by rw [y4]; exact g1)
  · obtain ⟨_, k1, q1, q2⟩ := back q kq hq nq; obtain ⟨_, k2, r1, r2⟩ := back l kl hl nl; exact h.inj0 q l k1 k2 q1 r1 q2 r2 hne bq bl eq el
  · obtain ⟨q1, q2, q3⟩ := h.fzk.at' k a hk; refine ⟨q1, q2, fun q kq b3 m3 hq nq eq => ?_⟩; obtain ⟨_, k1, r1, r2⟩ := back q kq hq nq; exact q3 q k1 b3 m3 r1 r2 eq
  · by_cases hii : i' = i
    · subst hii; exact ⟨_, e1⟩
    · rw [G.inRow_other hii] at e; exact h.fzk.nst.rwg i' v' q' p e
  · rcases look q _ e with ⟨rfl, g6⟩ | ⟨g6, g7, g8⟩
    · injection g6 with y1 y2 y3 y4 y5 y6 y7
      subst y5; refine ⟨y1, fun v' q' hv => ?_⟩; show (if q = q ∧ v' = v + 1 then _ else γ.rw q v' q') = none
      rw [if_neg (fun e => by omega)]; exact hme v' q' (by omega)
    · obtain ⟨y1, y2⟩ := h.fzk.nst.me q me2 ty2 sh2 rows2 v2 ho2 nn2 g8; exact ⟨y1, fun v' q' hv => (G.inRow_other g6).trans (y2 v' q' hv)⟩
  · rcases rowOf q me2 ty2 sh2 rows2 v2 ho2 nn2 e j1 f1 x1 hj1 hf1 hh1 k m1 hk with ⟨rfl, rfl, rfl, rfl, rfl, rfl, rfl, rfl⟩ | ⟨rows3, v3, ho3, g1, g2, g3, g4, g5⟩
    · refine ⟨s2, fzb, fun i' ki b3 m3 hi' ni ei => ?_, fun i2 me3 ty3 sh3 rows3 v3 ho4 nn3 e7 j2 f2 x2 hj2 hf2 hh2 m4 hk2 => ?_, ca, _, s3, ⟨s4, rfl⟩, fun a g s ha hs => ?_⟩
      · obtain ⟨q1, k1, r1, r2⟩ := back i' ki hi' ni; exact h.inj0 i' r k1 _ r1 hgr r2 hrn q1 (b3, m3) (b, m) ei hγ
      · rcases rowOf i2 me3 ty3 sh3 rows3 v3 ho4 nn3 e7 j2 f2 x2 hj2 hf2 hh2 b.k m4 hk2 with ⟨y1, y2, y3, _⟩ | ⟨rows5, v5, ho5, y1, y2, y3, y4, _⟩
        · exact ⟨y1, y2, y3⟩
        · exact absurd y4 (oldNe i2 me3 ty3 sh3 rows5 v5 ho5 nn3 y1 j2 f2 x2 y2 hf2 y3 m4)
      · rw [rows_set_same hj] at ha ⊢; obtain ⟨x, y1, y2⟩ := hc ca s4 s5 s6 a g s ha hs; exact ⟨x, y1, y2.mono hle⟩
    · obtain ⟨q1, q2, q3, q4, arr, ty4, q5, q6, q7⟩ := h.fzk.nst.at' q me2 ty2 sh2 rows3 v3 ho3 nn2 g1 j1 f1 x1 g2 hf1 g3 k m1 g4; refine ⟨q1, q2, fun i' ki b3 m3 hi' ni ei => ?_, fun i2 me3 ty3 sh3 rows4 v4 ho4 nn3 e7 j2 f2 x2 hj2 hf2 hh2 m4 hk2 => ?_, arr, ty4, q5, q6, fun a g s ha hs => ?_⟩
      · obtain ⟨_, k1, r1, r2⟩ := back i' ki hi' ni; exact q3 i' k1 b3 m3 r1 r2 ei
      · rcases rowOf i2 me3 ty3 sh3 rows4 v4 ho4 nn3 e7 j2 f2 x2 hj2 hf2 hh2 k m4 hk2 with ⟨_, _, _, _, y5, _⟩ | ⟨rows5, v5, ho5, y1, y2, y3, y4, _⟩
        · subst y5; exact absurd g4 (oldNe q me2 ty2 sh2 rows3 v3 ho3 nn2 g1 j1 f1 x1 g2 hf1 g3 m1)
        · exact q4 i2 me3 ty3 sh3 rows5 v5 ho5 nn3 y1 j2 f2 x2 y2 hf2 y3 m4 y4
      · rw [g5] at ha ⊢; obtain ⟨x, y1, y2⟩ := q7 a g s ha hs; exact ⟨x, y1, y2.mono hle⟩

theorem HR.toHole (h : HR γ w0 H n w) {i : Nat} (hi : Nat.ble i 65535 = true) {ty : TypeId × List TypeId} {sh : List Sh} {rows : List (List U)} {v : Nat} {ho : List (Nat × Nat)} {nn : Bool} (hg : H.get i = some (.nest i ty sh rows v ho nn)) (hnil : ¬ (EK.nest i ty sh rows v ho nn).Nil)
    {b : Pl} {m : Nat} (hγ : γ i = some (b, m)) {j f : Nat} (hf : f < sh.length) {w' : World} (hoth : ∀ c, c ≠ b.k → w'.heap[c]? = w.heap[c]?) (hsz : w'.heap.size = w.heap.size) (hos : w'.os = w.os) (ht : w'.tape = w.tape) (hout : w'.output = w.output)
    (hcell : ∀ ci : Array Value, Cl w b.k ci ty.1 → ∃ ci' : Array Value, Cl w' b.k ci' ty.1 ∧ ci'.size = ci.size ∧ ∀ q, q ≠ b.s + (j * sh.length + f) → ci'[q]? = ci[q]?) : HR γ w0 (H.put i (some (.nest i ty sh rows v ((j, f) :: ho) nn))) n w' := by
  obtain ⟨b2, m2, e1, e2, ci, e3, e4, e5, e6⟩ := h.hp i _ hg hnil; rw [hγ] at e1; simp only [Option.some.injEq, Prod.mk.injEq] at e1; obtain ⟨rfl, rfl⟩ := e1; obtain ⟨ci', c1, c2, c3⟩ := hcell ci e3; have look : ∀ q kq, (H.put i (some (.nest i ty sh rows v ((j, f) :: ho) nn))).get q = some kq → (q = i ∧ kq = .nest i ty sh rows v ((j, f) :: ho) nn) ∨ (q ≠ i ∧ H.get q = some kq) := fun q kq hq => by
    rw [Tr.get_put hi] at hq; split at hq
    · rename_i e; injection hq with hq; exact .inl ⟨e, hq.symm⟩
    · rename_i e; exact .inr ⟨e, hq⟩
  have back : ∀ q kq, (H.put i (some (.nest i ty sh rows v ((j, f) :: ho) nn))).get q = some kq → ¬ kq.Nil → ∃ k1, H.get q = some k1 ∧ ¬ k1.Nil := fun q kq hq nq => by
    rcases look q kq hq with ⟨rfl, _⟩ | ⟨_, g2⟩
    · exact ⟨_, hg, hnil⟩
    · exact ⟨kq, g2, nq⟩
  have nst : ∀ q me2 ty2 sh2 rows2 v2 ho2 nn2, (H.put i (some (.nest i ty sh rows v ((j, f) :: ho) nn))).get q = some (.nest me2 ty2 sh2 rows2 v2 ho2 nn2) → ∃ ho3, H.get q = some (.nest me2 ty2 sh2 rows2 v2 ho3 nn2) ∧ ∀ p, p ∉ ho2 → p ∉ ho3 := fun q me2 ty2 sh2 rows2 v2 ho2 nn2 hq => by
    rcases look q _ hq with ⟨rfl, e⟩ | ⟨_, h2⟩
    · injection e with y1 y2 y3 y4 y5 y6 y7
      subst y1; subst y2; subst y3; subst y4; subst y5; subst y6; subst y7; exact ⟨ho, hg, fun p hp hq => hp (List.mem_cons_of_mem _ hq)⟩
    · exact ⟨ho2, h2, fun _ hp => hp⟩
  refine ⟨fun q kq hq => ?_, fun q l kq kl hq hl nq nl hne bq bl eq el => ?_, h.fresh, h.rsv, fun q p e => by rw [hsz]; exact h.lt q p e, ?_, ⟨fun k a hk => ?_, h.fzk.base, h.fzk.nst.rwg, fun q me2 ty2 sh2 rows2 v2 ho2 nn2 e => ?_, fun q me2 ty2 sh2 rows2 v2 ho2 nn2 e j1 f1 x1 hj1 hf1 hh1 k m1 hk => ?_⟩⟩
  · rcases look q kq hq with ⟨rfl, rfl⟩ | ⟨g1, g2⟩
    · refine .inr ⟨b, m, hγ, e2, ci', c1, c2.trans e4, e5, fun j2 f2 s hj2 hf2 hh2 => ?_⟩; obtain ⟨x, x1, x2⟩ := e6 j2 f2 s hj2 hf2 (fun q => hh2 (List.mem_cons_of_mem _ q)); refine ⟨x, (c3 _ fun e => ?_).trans x1, x2⟩; have h2 := cell_inj hf (List.getElem?_eq_some_iff.1 hf2).1 (show j2 * sh.length + f2 = j * sh.length + f by omega); exact hh2 (by rw [h2.1, h2.2]; exact List.mem_cons_self)
    · refine h.imp0 g2 fun nk b3 m3 y1 y2 y3 => ⟨b3, m3, y1, y2, ?_⟩; exact EK.ok_mono (GLe.refl _) (hoth _ (h.inj0 q i kq _ g2 hg nk hnil g1 (b3, m3) (b, m) y1 hγ)) y3
  · obtain ⟨k1, q1, q2⟩ := back q kq hq nq; obtain ⟨k2, r1, r2⟩ := back l kl hl nl; exact h.inj0 q l k1 k2 q1 r1 q2 r2 hne bq bl eq el
  · exact ⟨hos.trans h.stays.os, ht.trans h.stays.tape, hout.trans h.stays.output, by rw [hsz]; exact h.stays.size, fun c hc => (hoth c (fun e => e2 (e ▸ hc))).trans (h.stays.block c hc)⟩
  · obtain ⟨⟨ty1, fz1, q1⟩, q2, q3⟩ := h.fzk.at' k a hk; refine ⟨⟨ty1, fz1, (hoth k (fun e => q3 i _ b m hg hnil hγ e.symm)).trans q1⟩, q2, fun q kq b3 m3 hq nq eq => ?_⟩; obtain ⟨k1, r1, r2⟩ := back q kq hq nq; exact q3 q k1 b3 m3 r1 r2 eq
  · obtain ⟨ho3, r1, _⟩ := nst q me2 ty2 sh2 rows2 v2 ho2 nn2 e; exact h.fzk.nst.me q me2 ty2 sh2 rows2 v2 ho3 nn2 r1
  · obtain ⟨ho3, r1, r2⟩ := nst q me2 ty2 sh2 rows2 v2 ho2 nn2 e; obtain ⟨q1, q2, q3, q4, arr, ty4, q5, q6, q7⟩ := h.fzk.nst.at' q me2 ty2 sh2 rows2 v2 ho3 nn2 r1 j1 f1 x1 hj1 hf1 (r2 _ hh1) k m1 hk; refine ⟨q1, q2, fun i' ki b3 m3 hi' ni ei => ?_, fun i2 me3 ty3 sh3 rows3 v3 ho4 nn3 e2 j2 f2 s2 hj2 hf2 hh2 m2 hk2 => ?_, arr, ty4, q5.mono (hoth k (fun e => q3 i _ b m hg hnil hγ e.symm)), q6, q7⟩
    · obtain ⟨k1, y1, y2⟩ := back i' ki hi' ni; exact q3 i' k1 b3 m3 y1 y2 ei
    · obtain ⟨ho5, y1, y2⟩ := nst i2 me3 ty3 sh3 rows3 v3 ho4 nn3 e2; exact q4 i2 me3 ty3 sh3 rows3 v3 ho5 nn3 y1 j2 f2 s2 hj2 hf2 (y2 _ hh2) m2 hk2
open Classical in
noncomputable def G.frzN (γ : G) (w : World) (R : Nat → Prop) : G := ⟨γ.g, fun k => if R k then (match w.heap[k]? with
  | some (.cells a _ _) => some a
  | _ => none) else γ.fz k, γ.rw⟩
open Classical in
theorem G.frzN_in {R : Nat → Prop} {k : Nat} {a : Array Value} {ty : TypeId} {z : Nat × Nat} (h : R k) (hw : w.heap[k]? = some (.cells a ty z)) : (γ.frzN w R).fz k = some a := by
  show (if R k then _ else _) = _
  rw [if_pos h, hw]
open Classical in
theorem G.frzN_out {R : Nat → Prop} {k : Nat} (h : ¬ R k) : (γ.frzN w R).fz k = γ.fz k := by
  show (if R k then _ else _) = _
  rw [if_neg h]

theorem HR.freezeNest (h : HR γ w0 H n w) {i : Nat} (hi : Nat.ble i 65535 = true) {ty : TypeId × List TypeId} {sh : List Sh} {rows : List (List U)} {v : Nat} {nn : Bool} (hg : H.get i = some (.nest i ty sh rows v [] nn)) (hnil : ¬ (EK.nest i ty sh rows v [] nn).Nil)
    {b : Pl} {m cp : Nat} (hγ : γ i = some (b, m)) (hcp : rows.length ≤ cp) (hmx : cp ≤ maxLen) : ∃ γ', GLe γ γ' ∧ HR γ' w0 (H.put i none) n w ∧ EC γ' (.lst (mkC sh rows)) (.slice (some (b.at 0)) rows.length cp) := by
  obtain ⟨b2, m2, e1, e2, ci, e3, e4, e5, e6⟩ := h.hp i _ hg hnil; rw [hγ] at e1; simp only [Option.some.injEq, Prod.mk.injEq] at e1; obtain ⟨rfl, rfl⟩ := e1; obtain ⟨R, hRd⟩ : ∃ R : Nat → Prop, ∀ k, R k ↔ (k = b.k ∨ ∃ (j f : Nat) (sh' : List Sh) (m : Nat × Nat), j < rows.length ∧ sh[f]? = some (.list sh') ∧ γ.rw i v (j * sh.length + f) = some (k, m)) := ⟨_, fun _ => Iff.rfl⟩
  have hR : ∀ k, R k → ¬ w0.F k ∧ γ.fz k = none ∧ (∃ (a : Array Value) (ty : TypeId) (z : Nat × Nat), w.heap[k]? = some (.cells a ty z)) ∧ ∀ q kq b' m', q ≠ i → H.get q = some kq → ¬ kq.Nil → γ q = some (b', m') → b'.k ≠ k := fun k hk => by
    rcases (hRd k).1 hk with rfl | ⟨j, f, sh', m3, g1, g2, g3⟩
    · obtain ⟨z, y1, _⟩ := e3; refine ⟨e2, ?_, ⟨ci, _, z, y1⟩, fun q kq b' m' hq g4 g5 g6 => h.inj0 q i kq _ g4 hg g5 hnil hq (b', m') (b, m) g6 hγ⟩
      cases e : γ.fz b.k with
      | none => rfl
      | some a => exact absurd rfl ((h.fzk.at' b.k a e).2.2 i _ b m hg hnil hγ)
    · obtain ⟨q1, q2, q3, q4, arr, ty4, ⟨z, q5, _⟩, q6, q7⟩ := h.fzk.nst.at' i i ty sh rows v [] nn hg j f sh' g1 g2 (by simp) k m3 g3; exact ⟨q1, q2, ⟨arr, ty4, z, q5⟩, fun q kq b' m' _ g4 g5 g6 => q3 q kq b' m' g4 g5 g6⟩
  have hGle : GLe γ (γ.frzN w R) := ⟨fun _ _ h => h, fun k a hk => (by
    rw [G.frzN_out fun hr => ?_]
    · exact hk
    · rw [(hR k hr).2.1] at hk; cases hk), fun _ _ _ _ h => h⟩
  have look : ∀ q kq, (H.put i none).get q = some kq → H.get q = some kq ∧ q ≠ i := fun q kq hq => by
    rw [Tr.get_put hi] at hq; split at hq
    · cases hq
    · rename_i e; exact ⟨hq, e⟩
  have hd := h.drop hi; refine ⟨γ.frzN w R, hGle, ?_, ?_⟩
  · refine ⟨fun q kq hq => (hd.hp0 q kq hq).imp id fun ⟨b', m', g1, g2, g3⟩ => ⟨b', m', g1, g2, EK.ok_mono hGle rfl g3 (fun _ _ _ => rfl)⟩, hd.inj0, hd.fresh, hd.rsv, hd.lt, hd.stays, ⟨fun k a hk => ?_, fun k hk => ?_, hd.fzk.nst.rwg, hd.fzk.nst.me, fun q me2 ty2 sh2 rows2 v2 ho2 nn2 e j1 f1 x1 hj1 hf1 hh1 k m1 hk => ?_⟩⟩
    · by_cases hr : R k
      · obtain ⟨g1, g2, ⟨a', ty', z, g3⟩, g4⟩ := hR k hr; rw [G.frzN_in hr g3] at hk; injection hk with hk; subst hk; refine ⟨⟨ty', z, g3⟩, .inr g1, fun q kq b' m' hq nq eq => ?_⟩; obtain ⟨y1, y2⟩ := look q kq hq; exact g4 q kq b' m' y2 y1 nq eq
      · rw [G.frzN_out hr] at hk; exact hd.fzk.at' k a hk
    · obtain ⟨a, ha⟩ := h.fzk.base k hk; exact ⟨a, hGle.fr k a ha⟩
    · obtain ⟨y1, y2⟩ := look q _ e; obtain ⟨q1, q2, q3, q4, arr, ty4, q5, q6, q7⟩ := hd.fzk.nst.at' q me2 ty2 sh2 rows2 v2 ho2 nn2 e j1 f1 x1 hj1 hf1 hh1 k m1 hk; have hold := h.fzk.nst.at' q me2 ty2 sh2 rows2 v2 ho2 nn2 y1 j1 f1 x1 hj1 hf1 hh1 k m1 hk; refine ⟨q1, ?_, q3, q4, arr, ty4, q5, q6, fun a g s ha hs => let ⟨x, hx, hc⟩ := q7 a g s ha hs; ⟨x, hx, hc.mono hGle⟩⟩; rw [G.frzN_out fun hr => ?_]
      · exact q2
      · rcases (hRd k).1 hr with rfl | ⟨j, f, sh', m3, g1, g2, g3⟩
        · exact hold.2.2.1 i _ b m hg hnil hγ rfl
        · exact y2 (hold.2.2.2.1 i i ty sh rows v [] nn hg j f sh' g1 g2 (by simp) m3 g3).1.symm
  · obtain ⟨z, y1, _⟩ := e3; refine UOk.ec (s := .list sh) (u := .l rows) ?_; refine UOk.list sh (.l rows) b.k b.s cp ci (G.frzN_in ((hRd _).2 (.inl rfl)) y1) hcp hmx (by show b.s + rows.length * sh.length ≤ ci.size; omega) fun j f s y hj hf hy => ?_; obtain ⟨x, hx, hc⟩ := e6 j f s hj hf (by simp); rw [hx] at hy; injection hy with hy; subst hy; show UOk _ s ((rows.getD j []).getD f (.i 0)) x
    cases s with
    | list sh' =>
      rcases hc with ⟨_, rfl, g2⟩ | ⟨k, m3, c, g1, rfl, g2, g3, g4⟩
      · exact .empty _ _ none 0 (List.eq_nil_of_length_eq_zero g2) (Nat.zero_le _) fun _ => rfl
      · obtain ⟨_, _, _, _, arr, ty4, ⟨z2, q5, _⟩, ⟨q6, _⟩, q7⟩ := h.fzk.nst.at' i i ty sh rows v [] nn hg j f sh' hj hf (by simp) k m3 g1; have hle2 := Nat.mul_le_mul_right sh'.length g2; have hle3 : c * sh'.length ≤ m3.2 := by
          rcases g4 with g4 | g4
          · omega
          · rw [g4]; omega
        refine UOk.list sh' _ k m3.1 c arr (G.frzN_in ((hRd _).2 (.inr ⟨j, f, sh', m3, hj, hf, g1⟩)) q5) g2 g3 (by omega) fun a g s y2 ha hs hy2 => ?_; obtain ⟨x2, hx2, hc2⟩ := q7 a g s ha hs; rw [hx2] at hy2; injection hy2 with hy2; subst hy2
        exact UOk.of_ec (hc2.mono hGle)
    | int k => exact UOk.of_ec (γ := γ.frzN w R) (s := .int k) (EC.mono hGle hc)
    | bool => exact UOk.of_ec (γ := γ.frzN w R) (s := .bool) (EC.mono hGle hc)
    | str => exact UOk.of_ec (γ := γ.frzN w R) (s := .str) (EC.mono hGle hc)

noncomputable def hasHole (f : Nat) (ho : List (Nat × Nat)) : Bool := List.rec false (fun p _ ih => bc (Nat.beq p.2 f) true ih) ho

noncomputable def unHole (f : Nat) (ho : List (Nat × Nat)) : List (Nat × Nat) := List.rec [] (fun p t ih => bc (Nat.beq p.2 f) (bc (hasHole f t) (p :: ih) t) (p :: ih)) ho

noncomputable def unHoleC (j f : Nat) (ho : List (Nat × Nat)) : Bool := List.rec true (fun p t ih => bc (Nat.beq p.2 f) (bc (hasHole f t) ih (Nat.beq p.1 j)) ih) ho
theorem unHole_ok {j f : Nat} : ∀ {ho : List (Nat × Nat)}, unHoleC j f ho = true → ∀ p, p ∉ unHole f ho → p ∉ ho ∨ p = (j, f)
  | [], _, p, h => .inl (by simp)
  | q :: ho, hc, p, h => by
    have hc' : bc (Nat.beq q.2 f) (bc (hasHole f ho) (unHoleC j f ho) (Nat.beq q.1 j)) (unHoleC j f ho) = true := hc; have h' : p ∉ bc (Nat.beq q.2 f) (bc (hasHole f ho) (q :: unHole f ho) ho) (q :: unHole f ho) := h; have keep : unHoleC j f ho = true → p ∉ q :: unHole f ho → p ∉ q :: ho ∨ p = (j, f) := fun g1 g2 => by
      rcases unHole_ok g1 p (fun e => g2 (List.mem_cons_of_mem _ e)) with h3 | h3
      · exact .inl fun hm => (List.mem_cons.1 hm).elim (fun e => g2 (e ▸ List.mem_cons_self)) h3
      · exact .inr h3
    cases h1 : Nat.beq q.2 f with
    | false =>
      rw [h1] at hc' h'; exact keep hc' h'
    | true =>
      rw [h1] at hc' h'
      cases h2 : hasHole f ho with
      | true =>
        rw [h2] at hc' h'; exact keep hc' h'
      | false =>
        rw [h2] at hc' h'
        by_cases e : p = q
        · right; rw [e]; have e1 := Nat.eq_of_beq_eq_true h1; have e2 := Nat.eq_of_beq_eq_true hc'; cases q; simp_all
        · exact .inl fun hm => (List.mem_cons.1 hm).elim e h'

noncomputable def frzN (i z len : Nat) (sh : List Sh) (rows : List (List U)) (ho : List (Nat × Nat)) (H : Tr EK) : Option (Bool × EV × Tr EK) := match ho with
  | [] => bc (Nat.beq z (llen sh)) (bc (Nat.ble i 65535) (some (Nat.beq len rows.length, .lst (mkC sh rows), H.put i none)) none) none
  | _ => none
theorem frzN_ok (hH : HR γ w0 H n w) {i z len : Nat} {me : Nat} {ty : TypeId × List TypeId} {sh : List Sh} {rows : List (List U)} {v : Nat} {ho : List (Nat × Nat)} {nn nn' : Bool} (hg : H.get i = some (.nest me ty sh rows v ho nn)) {x : Value} (ha : EC γ (.slO i z len nn') x) {c : Bool} {a' : EV} (h : frzN i z len sh rows ho H = some (c, a', H')) (hc : c = true) : ∃ γ', GLe γ γ' ∧ HR γ' w0 H' n w ∧ EC γ' a' x := by
  unfold frzN at h; split at h
  case h_2 => cases h
  rw [bc_eq] at h; split at h
  case isFalse => cases h
  rw [bc_eq] at h; split at h
  case isFalse => cases h
  rename_i hi; simp only [Option.some.injEq, Prod.mk.injEq] at h; obtain ⟨rfl, rfl, rfl⟩ := h; have hl := Nat.eq_of_beq_eq_true hc; subst hl
  cases ha with
  | slO _ _ _ _ _ hs =>
  by_cases h0 : rows.length = 0
  · have hr : (mkC sh rows).rows = [] := List.eq_nil_of_length_eq_zero (by rw [mkC_rows]; exact h0); refine ⟨γ, GLe.refl γ, hH.drop hi, .lst _ _ ?_⟩
    cases nn' with
    | false =>
      obtain ⟨rfl, _⟩ := hs.1 rfl; exact .empty _ _ none 0 hr (Nat.zero_le _) fun _ => rfl
    | true =>
      obtain ⟨b, m, cp, _, rfl, _, q3, _⟩ := hs.2 rfl; rw [h0]; exact .empty _ _ _ cp hr q3 fun e => by cases e
  · have hnil : ¬ (EK.nest me ty sh rows v [] nn).Nil := fun e => h0 (by rw [e.2]; rfl); obtain ⟨hme, _⟩ := hH.fzk.nst.me i me ty sh rows v [] nn hg; subst hme
    cases nn' with
    | false => exact absurd (hs.1 rfl).2 h0
    | true =>
      obtain ⟨b, m, cp, q1, rfl, q2, q3, _⟩ := hs.2 rfl; exact hH.freezeNest hi hg hnil q1 q2 q3

noncomputable def stN (i z j f m : Nat) (b : EV) (H : Tr EK) (n : Nat) : Option YR := match H.get i with
  | some (.nest me ty sh rows v ho nn) => match b with
    | .slO r z2 len2 nn2 => match H.get r with
      | some (.seq tyr c nnr) => match lget sh f with
        | some (.list sh') => bc (Nat.beq m 1) (bc (Nat.beq z (llen sh)) (bc (shsEq c.sh sh') (bc (Nat.beq z2 c.cz) (bc (Nat.beq tyr (ty.2.getD f 0)) (bc (Nat.ble i 65535) (bc (Nat.ble r 65535) (bc (Nat.beq r i) none
            (some ⟨bc nn2 (bc nnr (bc (Nat.blt j rows.length) (bc (Nat.beq len2 c.cnt) (unHoleC j f ho) false) false) false) false, ⟨none, (H.put r none).put i (some (.nest me ty sh (rows.set j (rset f (.l c.rows) (rows.getD j []))) (v + 1) (unHole f ho) nn)), n⟩⟩)) none) none) none) none) none) none) none
        | _ => none
      | _ => none
    | _ => none
  | _ => none
theorem run_stAt {t m : TypeId} {a : Addr} {vv : Value} {w' : World} {inf : TypeInfo} (hinf : P.info? t = some inf) (hcl : vv.cells.size = inf.size) (h2 : (storeCells a vv.cells.toList 0).run P w = .ok () w') : (do Instr.storeAt t (.pointer (some a)) vv; pure Next.skip : Sem Next).run P w = .ok .skip w' := by
  refine run_u ?_; simp [Instr.storeAt, Instr.sureAddr, storeVar, sizeOf, typeInfo, hinf, hcl, h2]
theorem stN_ok (hH : HR γ w0 H n w) {t : TypeId} {x y : Operand} {i z j f m : Nat} {b : EV} {r : YR} (ho : o.op = .store t x y) (hp : EC γ (.ptrE i z j f) (opEval tmps x)) (hm : Sx.sizeB P t = some m) (hv : EC γ b (opEval tmps y)) (h : stN i z j f m b H n = some r) (hc : r.c = true) : Gives P γ w0 w (execOp (opEval tmps) o) r.er.val r.er.H r.er.n := by
  unfold stN at h; split at h
  case h_2 => cases h
  rename_i me ty sh rows v hol nn hg; split at h
  case h_2 => cases h
  rename_i rr z2 len2 nn2; split at h
  case h_2 => cases h
  rename_i tyr c nnr hgr; split at h
  case h_2 => cases h
  rename_i sh' hf; rw [lget_eq] at hf; rw [bc_eq] at h; split at h
  case isFalse => cases h
  rename_i k1; rw [bc_eq] at h; split at h
  case isFalse => cases h
  rename_i k2; rw [bc_eq] at h; split at h
  case isFalse => cases h
  rename_i k3; rw [bc_eq] at h; split at h
  case isFalse => cases h
  rename_i k4; rw [bc_eq] at h; split at h
  case isFalse => cases h
  rename_i k5; rw [bc_eq] at h; split at h
  case isFalse => cases h
  rename_i hi; rw [bc_eq] at h; split at h
  case isFalse => cases h
  rename_i hr; rw [bc_eq] at h; split at h
  case isTrue => cases h
  rename_i k6; injection h with h; subst h
  have hcx : bc nn2 (bc nnr (bc (Nat.blt j rows.length) (bc (Nat.beq len2 c.cnt) (unHoleC j f hol) false) false) false) false = true := hc; rw [bc_eq] at hcx; split at hcx
  case isFalse => cases hcx
  rename_i c1; rw [bc_eq] at hcx; split at hcx
  case isFalse => cases hcx
  rename_i c2; rw [bc_eq] at hcx; split at hcx
  case isFalse => cases hcx
  rename_i c3; rw [bc_eq] at hcx; split at hcx
  case isFalse => cases hcx
  rename_i c4; have k1 := Nat.eq_of_beq_eq_true k1; have k2 := Nat.eq_of_beq_eq_true k2; rw [llen_eq] at k2; have k3 := shsEq_ok k3; have k4 := Nat.eq_of_beq_eq_true k4; have k5 := Nat.eq_of_beq_eq_true k5; have k6 : rr ≠ i := fun e => k6 (by rw [e]; exact Nat.beq_refl i); have hj := blt_lt c3; have c4 := Nat.eq_of_beq_eq_true c4; subst k1; subst k2; subst c1; subst c2; subst c4; subst k4; subst k3; subst k5; have hnil : ¬ (EK.nest me ty sh rows v hol nn).Nil := fun e => by rw [e.2] at hj; simp at hj
  obtain ⟨hme, _⟩ := hH.fzk.nst.me i me ty sh rows v hol nn hg; have hme := hme.symm; subst hme; obtain ⟨b, k, hγ, he⟩ := ec_ptrE hp; generalize hyy : opEval tmps y = yy at hv
  cases hv with
  | slO _ _ _ _ _ hs =>
  obtain ⟨b2, m2, cp, q1, rfl, q2, q3, q4⟩ := hs.2 rfl; obtain ⟨b3, m3, e1, e2, ci, e3, e4, e5, e6⟩ := hH.hp _ _ hg hnil; rw [hγ] at e1; simp only [Option.some.injEq, Prod.mk.injEq] at e1; obtain ⟨rfl, rfl⟩ := e1; have hz : f < sh.length := (List.getElem?_eq_some_iff.1 hf).1; have hjz : j * sh.length + sh.length ≤ rows.length * sh.length := by rw [← Nat.succ_mul]; exact Nat.mul_le_mul_right _ hj
  have hlt : b.s + (j * sh.length + f) < ci.size := by omega
  obtain ⟨r1, r2, r3, r4⟩ := Sx.setCells_rest b.k [Value.slice (some (b2.at 0)) c.cnt cp] (b.s + (j * sh.length + f)) w; have hst := run_storeCells_cells (P := P) b.k (b.s + (j * sh.length + f)) [Value.slice (some (b2.at 0)) c.cnt cp] 0 w (fun q hq => by
      have hq : q = 0 := by simpa using hq
      subst hq; show (w.cell? (b.at (j * sh.length + f))).isSome = true; rw [(cell_of e3).1, Array.getElem?_eq_getElem hlt]; rfl) (fun q hq => by
      have hq : q = 0 := by simpa using hq
      subst hq; show w.frozen? (b.at (j * sh.length + f)) = false; exact (cell_of e3).2 hlt) (fun u hu => by
      have : u = Value.slice (some (b2.at 0)) c.cnt cp := by simpa using hu
      rw [this]; rfl)
  rw [Nat.add_zero] at hst; have h1 := hH.toHole hi hg hnil hγ (j := j) (f := f) hz (fun k hk => Sx.setCells_heap b.k _ (b.s + (j * sh.length + f)) w k hk) r1 r2 r3 r4 fun c0 hc0 => by
    refine ⟨putArr c0 (b.s + (j * sh.length + f)) [Value.slice (some (b2.at 0)) c.cnt cp], hc0.set _ _, putArr_size _ _ _, fun q hq => ?_⟩; obtain ⟨fz1, g1, _⟩ := hc0; obtain ⟨fz2, g2, _⟩ := e3; rw [g1] at g2; simp only [Option.some.injEq, Obj.cells.injEq] at g2; rw [putArr_get _ _ _ _ (by rw [g2.1]; simp; omega), if_neg (by simp; omega)]
  have hnil2 : ¬ (EK.nest i ty sh rows v ((j, f) :: hol) nn).Nil := fun e => by rw [e.2] at hj; simp at hj
  have hgi : (H.put i (some (.nest i ty sh rows v ((j, f) :: hol) nn))).get i = some (.nest i ty sh rows v ((j, f) :: hol) nn) := by rw [Tr.get_put hi, if_pos rfl]
  have hgr2 : (H.put i (some (.nest i ty sh rows v ((j, f) :: hol) nn))).get rr = some (.seq (ty.2.getD f 0) c true) := by rw [Tr.get_put hi, if_neg k6]; exact hgr
  obtain ⟨hle, h2⟩ := h1.rowIn hi hr k6 hgi hnil2 hj hf (ho' := unHole f hol) (fun p hp => by
      rcases unHole_ok hcx p hp with h3 | h3
      · by_cases e : p = (j, f)
        · exact .inr e
        · exact .inl fun hm => (List.mem_cons.1 hm).elim e h3
      · exact .inr h3) (L := c.rows) hgr2 q1 (fun ca g1 g2 g3 a g s ha hs => by
      have ha2 : a < c.cnt := by rw [c.cnt_eq]; exact ha
      have hg2 : g < c.cz := by rw [c.cz_sh]; exact (List.getElem?_eq_some_iff.1 hs).1
      have hcell := SyC.cellE_enc ha2 hg2; obtain ⟨u, hu, hcu⟩ := g3.at hcell; rw [List.getElem?_take] at hu; split at hu
      case isFalse => cases hu
      rw [List.getElem?_drop, Array.getElem?_toList] at hu; rw [← c.cz_sh]; exact ⟨u, hu, by rw [SyC.ev_cellE ha hs]; exact hcu⟩) (fun bi mi c0 g1 g2 => by
      rw [hγ] at g1; simp only [Option.some.injEq, Prod.mk.injEq] at g1; obtain ⟨rfl, rfl⟩ := g1; have g3 := e3.set (b.s + (j * sh.length + f)) [Value.slice (some (b2.at 0)) c.cnt cp]; obtain ⟨fz1, g4, _⟩ := g2; obtain ⟨fz2, g5, _⟩ := g3; rw [g4] at g5; simp only [Option.some.injEq, Obj.cells.injEq] at g5; rw [g5.1, putArr_get _ _ _ _ (by simp; omega), if_pos (by simp)]; refine ⟨cp, ?_, by rw [← c.cnt_eq]; exact q2, q3, by rw [← c.cz_sh]; exact q4⟩; rw [Nat.sub_self, ← c.cnt_eq]; rfl)
  refine ⟨_, w.setCells b.k (b.s + (j * sh.length + f)) [Value.slice (some (b2.at 0)) c.cnt cp], hle, ?_, ?_⟩
  · refine h2.congr fun q kq hq => ?_; have hq : ((H.put rr none).put i (some (.nest i ty sh (rows.set j (rset f (.l c.rows) (rows.getD j []))) (v + 1) (unHole f hol) nn))).get q = some kq := hq; rw [Tr.get_put hi] at hq ⊢; split at hq
    · rename_i e; rw [if_pos e]; exact hq
    · rename_i e; rw [if_neg e]; rw [Tr.get_put hr] at hq ⊢; split at hq
      · cases hq
      · rename_i e2; rw [if_neg e2, Tr.get_put hi, if_neg e]; exact hq
  · obtain ⟨inf, hinf, hsz⟩ := size_of hm; have hs2 : execOp (opEval tmps) o = (do Instr.storeAt t (.pointer (some (b.at (j * sh.length + f)))) (Value.slice (some (b2.at 0)) c.cnt cp); pure Next.skip : Sem Next) := by
      unfold execOp; rw [ho]; simp only [he, hyy]
    rw [hs2]; exact run_stAt (m := 0) hinf (by rw [hsz]; rfl) hst
end Go.Proofs.Ytooimphimnagaaa.Ev
namespace Go.Proofs.Ytooimphimnagaaa.Ev
open Go.RowKit
variable {P : Program} {γ γ' : G} {w0 : Bs} {w : World} {H H' : Tr EK} {n n' : Nat} {T : Tr EV} {tmps : Array Value} {o : Oper}

theorem HR.freeze (h : HR γ w0 H n w) {i : Nat} (hi : Nat.ble i 65535 = true) {ty : TypeId} {c : SyC} {nn nn' : Bool} (hg : H.get i = some (.seq ty c nn)) (hz : 0 < c.cz) {x : Value} (hx : EC γ (.slO i c.cz c.cnt nn') x) : ∃ γ', GLe γ γ' ∧ HR γ' w0 (H.put i none) n w ∧ EC γ' (.lst c) x := by
  have none0 : c.cnt = 0 → ∀ a cp, x = .slice a 0 cp → cp ≤ maxLen → (a = none → cp = 0) → ∃ γ', GLe γ γ' ∧ HR γ' w0 (H.put i none) n w ∧ EC γ' (.lst c) x := fun h0 a cp hs hcp hn =>
    ⟨γ, GLe.refl γ, h.drop hi, by rw [hs]; exact .lst _ _ (.empty _ _ a cp (List.eq_nil_of_length_eq_zero (by show c.rows.length = 0; rw [← c.cnt_eq]; exact h0)) hcp hn)⟩
  cases hx with
  | slO _ _ _ _ _ hs =>
    cases nn' with
    | false =>
      obtain ⟨e1, e2⟩ := hs.1 rfl; exact none0 e2 none 0 e1 (Nat.zero_le _) fun _ => rfl
    | true =>
      obtain ⟨b, m, cc, hγ, e1, h1, h2, h3⟩ := hs.2 rfl
      by_cases h0 : c.cnt = 0
      · rw [h0] at e1; exact none0 h0 _ _ e1 h2 fun e => by cases e
      · have hlen : 0 < c.len := by rw [c.len_cz]; exact Nat.mul_pos (by omega) hz
        have hnn := notNil_of_len (ty := ty) (nn := nn) hlen; obtain ⟨b2, m2, hγ2, hF, ca, hb, hsz, hle, hcl⟩ := h.hp i _ hg hnn; rw [hγ] at hγ2; simp only [Option.some.injEq, Prod.mk.injEq] at hγ2; obtain ⟨rfl, rfl⟩ := hγ2; have nofz : ∀ k a, γ.fz k = some a → k ≠ b.k := fun k a hk e => (h.fzk.at' k a hk).2.2 i _ b m hg hnn hγ e.symm; have hGle : GLe γ ⟨γ.g, fun k => if k = b.k then some ca else γ.fz k, γ.rw⟩ := ⟨fun _ _ h => h, fun k a hk => by
          show (if k = b.k then some ca else γ.fz k) = some a
          rw [if_neg (nofz k a hk)]; exact hk, fun _ _ _ _ h => h⟩
        refine ⟨⟨γ.g, fun k => if k = b.k then some ca else γ.fz k, γ.rw⟩, hGle, ?_, ?_⟩
        · have hd := h.drop hi; have look : ∀ j k, (H.put i none).get j = some k → H.get j = some k ∧ j ≠ i := fun j k hj => by
            rw [Tr.get_put hi] at hj; split at hj
            · cases hj
            · rename_i e; exact ⟨hj, e⟩
          refine ⟨fun j k hj => (hd.hp0 j k hj).imp id fun ⟨b', m', g1, g2, g3⟩ => ⟨b', m', g1, g2, EK.ok_mono hGle rfl g3 (fun _ _ _ => rfl)⟩, hd.inj0, hd.fresh, hd.rsv, hd.lt, hd.stays, ⟨fun k a hk => ?_, fun k hk => ?_, hd.fzk.nst.rwg, hd.fzk.nst.me, fun i2 me ty2 sh rows v ho nn2 e j f sh' hj hf hh k m2 hk => ?_⟩⟩
          · have hk : (if k = b.k then some ca else γ.fz k) = some a := hk
            split at hk
            · rename_i e; injection hk with hk; subst hk; subst e
              obtain ⟨fz, hb1, _⟩ := hb; refine ⟨⟨ty, fz, hb1⟩, .inr hF, fun j kj b' m' hj nj ej e => ?_⟩; obtain ⟨q1, q2⟩ := look j kj hj; exact h.inj0 j i kj _ q1 hg nj hnn q2 _ _ ej hγ e
            · obtain ⟨g1, g2, g3⟩ := hd.fzk.at' k a hk; exact ⟨g1, g2, g3⟩
          · obtain ⟨a, ha⟩ := h.fzk.base k hk; exact ⟨a, by show (if k = b.k then some ca else γ.fz k) = some a; rw [if_neg (nofz k a ha)]; exact ha⟩
          · obtain ⟨q1, q2, q3, q4, arr, ty3, q5, q6, q7⟩ := hd.fzk.nst.at' i2 me ty2 sh rows v ho nn2 e j f sh' hj hf hh k m2 hk; have hkb : b.k ≠ k := (h.fzk.nst.at' i2 me ty2 sh rows v ho nn2 (look _ _ e).1 j f sh' hj hf hh k m2 hk).2.2.1 i _ b m hg hnn hγ; refine ⟨q1, ?_, q3, q4, arr, ty3, q5, q6, fun a g s ha hs => let ⟨x, hx, hc⟩ := q7 a g s ha hs; ⟨x, hx, hc.mono hGle⟩⟩; show (if k = b.k then some ca else γ.fz k) = none
            rw [if_neg (fun e => hkb e.symm)]; exact q2
        · subst e1; have hcz := c.cz_sh; have hrl : c.rows.length = c.cnt := c.cnt_eq.symm; have hmul : c.cnt * c.sh.length ≤ m := by rw [← hcz, ← h3.resolve_right (by omega)]; exact Nat.mul_le_mul_right _ h1
          have := UOk.list (fz := fun k => if k = b.k then some ca else γ.fz k) c.sh (.l c.rows) b.k b.s cc ca (by simp) (by show c.rows.length ≤ cc; omega) h2 (by show b.s + c.rows.length * _ ≤ _; rw [hrl]; omega) fun j f s y hj hf hy => by
            have hj : j < c.rows.length := hj; have hf2 := (List.getElem?_eq_some_iff.1 hf).1; refine UOk.of_ec (γ := ⟨γ.g, fun k => if k = b.k then some ca else γ.fz k, γ.rw⟩) ?_
            show EC _ (s.ev ((c.rows.getD j []).getD f (.i 0))) y; rw [SyC.ev_cellE hj hf]; have henc := SyC.cellE_enc (c := c) (j := j) (f := f) (by omega) (by omega); obtain ⟨y2, hy2, hc2⟩ := hcl.at henc; have : y2 = y := by
              rw [List.getElem?_take] at hy2; split at hy2
              · rw [List.getElem?_drop] at hy2; rw [hcz] at hy2; rw [← Array.getElem?_toList, hy2] at hy; injection hy
              · cases hy2
            subst this; exact hc2.mono hGle
          have e : (b.at 0) = ⟨b.k, b.s, none⟩ := by unfold Pl.at; rfl
          rw [e]; refine .lst _ _ ?_; have this : UOk _ _ (.l c.rows) (.slice (some ⟨b.k, b.s, none⟩) c.rows.length cc) := this; rw [hrl] at this; exact this

noncomputable def frzL (f : EV → Tr EK → Option (Bool × EV × Tr EK)) (l : List EV) : Tr EK → Option (Bool × List EV × Tr EK) := List.rec (fun H => some (true, [], H)) (fun a _ ih H => match f a H with
  | some (c, a', H') => match ih H' with
    | some (c2, l', H2) => some (bc c c2 false, a' :: l', H2)
    | none => none
  | none => none) l
noncomputable def frzS (i z len : Nat) (H : Tr EK) : Option (Bool × EV × Tr EK) := match H.get i with
  | some (.seq _ c _) => bc (Nat.beq z c.cz) (bc (Nat.blt 0 c.cz) (bc (Nat.ble i 65535) (some (Nat.beq len c.cnt, .lst c, H.put i none)) none) none) none
  | some (.nest _ _ sh rows _ ho _) => frzN i z len sh rows ho H
  | _ => none
theorem frzS_ok (hH : HR γ w0 H n w) {i z len : Nat} {nn : Bool} {x : Value} (ha : EC γ (.slO i z len nn) x) {c : Bool} {a' : EV} (h' : frzS i z len H = some (c, a', H')) (hc : c = true) : ∃ γ', GLe γ γ' ∧ HR γ' w0 H' n w ∧ EC γ' a' x := by
  unfold frzS at h'; split at h'
  case h_3 => cases h'
  · rename_i ty c0 nn0 hg; simp only [bc_eq] at h'; split at h'
    case isFalse => cases h'
    rename_i h1; split at h'
    case isFalse => cases h'
    rename_i h2; split at h'
    case isFalse => cases h'
    rename_i h3; simp only [Option.some.injEq, Prod.mk.injEq] at h'; obtain ⟨rfl, rfl, rfl⟩ := h'; have h1 := Nat.eq_of_beq_eq_true h1; have hc := Nat.eq_of_beq_eq_true hc; subst h1; subst hc; exact hH.freeze h3 hg (blt_lt h2) ha
  · rename_i me ty sh rows v ho nn0 hg; exact frzN_ok hH hg ha h' hc
theorem frzS_lst {i z len : Nat} {c : Bool} {a' : EV} (h' : frzS i z len H = some (c, a', H')) : ∃ c0, a' = .lst c0 := by
  unfold frzS at h'; split at h'
  case h_3 => cases h'
  · rw [bc_eq] at h'; split at h'
    case isFalse => cases h'
    rw [bc_eq] at h'; split at h'
    case isFalse => cases h'
    rw [bc_eq] at h'; split at h'
    case isFalse => cases h'
    simp only [Option.some.injEq, Prod.mk.injEq] at h'; obtain ⟨_, rfl, _⟩ := h'; exact ⟨_, rfl⟩
  · unfold frzN at h'; split at h'
    case h_2 => cases h'
    rw [bc_eq] at h'; split at h'
    case isFalse => cases h'
    rw [bc_eq] at h'; split at h'
    case isFalse => cases h'
    simp only [Option.some.injEq, Prod.mk.injEq] at h'; obtain ⟨_, rfl, _⟩ := h'; exact ⟨_, rfl⟩
noncomputable def frzE (k : Nat) : EV → Tr EK → Option (Bool × EV × Tr EK) := Nat.rec (fun _ _ => none) (fun _ ih a H => match a with
  | .v x => some (true, .v x, H)
  | .lst c => some (true, .lst c, H)
  | .arr c => some (true, .arr c, H)
  | .slO i z len _ => frzS i z len H
  | .sl i z off len none => match off with
    | 0 => frzS i z len H
    | _ => none
  | .agg l => match frzL ih l H with
    | some (c, l', H') => some (c, .agg l', H')
    | none => none
  | .tup l => match frzL ih l H with
    | some (c, l', H') => some (c, .tup l', H')
    | none => none
  | .fn f l => match frzL ih l H with
    | some (c, l', H') => some (c, .fn f l', H')
    | none => none
  | _ => none) k
theorem frzL_ok {f : EV → Tr EK → Option (Bool × EV × Tr EK)} (hf : ∀ {γ : G} {H : Tr EK} {a : EV} {x : Value} {c : Bool} {a' : EV} {H' : Tr EK}, HR γ w0 H n w → EC γ a x → f a H = some (c, a', H') → c = true → ∃ γ', GLe γ γ' ∧ HR γ' w0 H' n w ∧ EC γ' a' x) :
    ∀ {γ : G} {H : Tr EK} {l : List EV} {vs : List Value} {c : Bool} {l' : List EV} {H' : Tr EK}, HR γ w0 H n w → ECL γ l vs → frzL f l H = some (c, l', H') → c = true → ∃ γ', GLe γ γ' ∧ HR γ' w0 H' n w ∧ ECL γ' l' vs
  | γ, H, [], vs, c, l', H', hH, hl, h, hc => by
    have h' : some (true, [], H) = some (c, l', H') := h; simp only [Option.some.injEq, Prod.mk.injEq] at h'; obtain ⟨rfl, rfl, rfl⟩ := h'; exact ⟨γ, GLe.refl γ, hH, hl⟩
  | γ, H, a :: l, vs, c, l', H', hH, hl, h, hc => by
    obtain ⟨x, xs, rfl, h1, h2⟩ := hl.inv; have h' : (match f a H with
      | some (c, a', H') => match frzL f l H' with
        | some (c2, l', H2) => some (bc c c2 false, a' :: l', H2)
        | none => none
      | none => none) = some (c, l', H') := h
    split at h'
    case h_2 => cases h'
    rename_i c1 a1 H1 e1; split at h'
    case h_2 => cases h'
    rename_i c2 l2 H2 e2; simp only [Option.some.injEq, Prod.mk.injEq] at h'; obtain ⟨rfl, rfl, rfl⟩ := h'; rw [bc_eq] at hc; split at hc
    case isFalse => cases hc
    rename_i hc1; obtain ⟨γ1, g1, g2, g3⟩ := hf hH h1 e1 hc1; obtain ⟨γ2, k1, k2, k3⟩ := frzL_ok hf g2 (h2.mono g1) e2 hc; exact ⟨γ2, g1.trans k1, k2, .cons (g3.mono k1) k3⟩
theorem frzE_ok : ∀ {k : Nat} {γ : G} {H : Tr EK} {a : EV} {x : Value} {c : Bool} {a' : EV} {H' : Tr EK}, HR γ w0 H n w → EC γ a x → frzE k a H = some (c, a', H') → c = true → ∃ γ', GLe γ γ' ∧ HR γ' w0 H' n w ∧ EC γ' a' x
  | 0, γ, H, a, x, c, a', H', hH, ha, h, hc => by cases h
  | k + 1, γ, H, a, x, c, a', H', hH, ha, h, hc => by
    have same : some (true, a, H) = some (c, a', H') → ∃ γ', GLe γ γ' ∧ HR γ' w0 H' n w ∧ EC γ' a' x := fun h => by
      simp only [Option.some.injEq, Prod.mk.injEq] at h; obtain ⟨rfl, rfl, rfl⟩ := h; exact ⟨γ, GLe.refl γ, hH, ha⟩
    cases a with
    | v y => exact same h
    | lst c0 => exact same h
    | arr c0 => exact same h
    | slO i z len nn => exact frzS_ok hH ha (show frzS i z len H = some (c, a', H') from h) hc
    | sl i z off len cap =>
      cases cap with
      | some q => cases h
      | none =>
      cases off with
      | succ q => cases h
      | zero => exact frzS_ok hH (sl_slO ha) (show frzS i z len H = some (c, a', H') from h) hc
    | agg l =>
      have h' : (match frzL (frzE k) l H with
        | some (c, l', H') => some (c, EV.agg l', H')
        | none => none) = some (c, a', H') := h
      split at h'
      case h_2 => cases h'
      rename_i c1 l1 H1 e1; simp only [Option.some.injEq, Prod.mk.injEq] at h'; obtain ⟨rfl, rfl, rfl⟩ := h'
      cases ha with
      | agg _ vs hl hh =>
        obtain ⟨γ1, g1, g2, g3⟩ := frzL_ok (f := frzE k) (fun hH ha h hc => frzE_ok hH ha h hc) hH ⟨hl, hh⟩ e1 hc; exact ⟨γ1, g1, g2, .agg _ _ g3.1 g3.2⟩
    | tup l =>
      have h' : (match frzL (frzE k) l H with
        | some (c, l', H') => some (c, EV.tup l', H')
        | none => none) = some (c, a', H') := h
      split at h'
      case h_2 => cases h'
      rename_i c1 l1 H1 e1; simp only [Option.some.injEq, Prod.mk.injEq] at h'; obtain ⟨rfl, rfl, rfl⟩ := h'
      cases ha with
      | tup _ vs hl hh =>
        obtain ⟨γ1, g1, g2, g3⟩ := frzL_ok (f := frzE k) (fun hH ha h hc => frzE_ok hH ha h hc) hH ⟨hl, hh⟩ e1 hc; exact ⟨γ1, g1, g2, .tup _ _ g3.1 g3.2⟩
    | fn f l =>
      have h' : (match frzL (frzE k) l H with
        | some (c, l', H') => some (c, EV.fn f l', H')
        | none => none) = some (c, a', H') := h
      split at h'
      case h_2 => cases h'
      rename_i c1 l1 H1 e1; simp only [Option.some.injEq, Prod.mk.injEq] at h'; obtain ⟨rfl, rfl, rfl⟩ := h'
      cases ha with
      | fn _ _ vs hl hh =>
        obtain ⟨γ1, g1, g2, g3⟩ := frzL_ok (f := frzE k) (fun hH ha h hc => frzE_ok hH ha h hc) hH ⟨hl, hh⟩ e1 hc; exact ⟨γ1, g1, g2, .fn _ _ _ g3.1 g3.2⟩
    | _ => cases h
end Go.Proofs.Ytooimphimnagaaa.Ev
namespace Go.Proofs.Ytooimphimnagaaa.Ev
open Go.RowKit
variable {P : Program} {γ γ' : G} {w0 : Bs} {w : World} {H H' : Tr EK} {n n' : Nat} {T : Tr EV} {tmps : Array Value} {o : Oper}


noncomputable def shOf (P : Program) (k : Nat) : TypeId → Option (List Sh) := Nat.rec (fun _ => none) (fun _ ih t => match P.underlying t with
  | some (.int k) => some [.int k]
  | some .bool => some [.bool]
  | some .string => some [.str]
  | some (.slice e) => match ih e with
    | some sh => some [.list sh]
    | none => none
  | some (.array m e) => match ih e with
    | some sh => some (List.replicate m sh).flatten
    | none => none
  | some (.struct fs) => List.rec (some []) (fun f _ r => match ih f.type with
    | some sh => match r with
      | some l => some (sh ++ l)
      | none => none
    | none => none) fs.toList
  | _ => none) k

noncomputable def contC (sh : List Sh) (m : Nat) (cs : List EV) : Option SyC := match recsU sh m cs with
  | some rs => some (mkC sh rs)
  | none => none
theorem contC_ok {sh : List Sh} {m : Nat} {cs : List EV} {c : SyC} (h : contC sh m cs = some c) : c.sh = sh ∧ c.cnt = m ∧ cs.length = m * sh.length ∧ ∀ (γ : G) (vs : List Value), ECL γ cs vs → ECL γ c.enc vs := by
  unfold contC at h; split at h
  case h_2 => cases h
  rename_i rs hrs; injection h with h; subst h
  obtain ⟨h1, h2, h3, h4, h5⟩ := recsU_ok hrs; exact ⟨mkC_sh _ _, by rw [mkC_cnt, h1], h3, fun γ vs hv => by rw [mkC_enc]; exact h5 γ vs hv⟩

theorem cells_to_seq {ty : TypeId} {l : List EV} {full nn : Bool} {c : SyC} (hl : ∀ (γ : G) (vs : List Value), ECL γ l vs → ECL γ c.enc vs) {b : Pl} {m : Nat} (h : (EK.cells ty l full).ok γ b m w) : (EK.seq ty c nn).ok γ b m w := by
  obtain ⟨ca, h1, h2, h3, _, h4⟩ := h; have h5 := hl γ _ h4; have e : c.enc.length = l.length := by rw [h5.1, ← h4.1]
  exact ⟨ca, h1, h2, by omega, by rw [e]; exact h5⟩
theorem HR.newSeq {ty : TypeId} {l : List EV} {full nn : Bool} {c : SyC} (h : HR γ w0 (H.put n (some (.cells ty l full))) n' w) (hn : Nat.ble n 65535 = true) (hl : ∀ (γ : G) (vs : List Value), ECL γ l vs → ECL γ c.enc vs) : HR γ w0 (H.put n (some (.seq ty c nn))) n' w := by
  have hg : (H.put n (some (EK.cells ty l full))).get n = some (.cells ty l full) := by rw [Tr.get_put hn, if_pos rfl]
  have := h.recast hn (k := .seq ty c nn) hg id fun b m => cells_to_seq hl; refine this.congr fun j k hj => ?_; rw [Tr.get_put hn] at hj ⊢; split at hj
  · rename_i e; rw [if_pos e]; exact hj
  · rename_i e; rw [if_neg e, Tr.get_put hn, if_neg e]; exact hj

noncomputable def zNew (P : Program) (t : TypeId) (cs : List EV) (H : Tr EK) (n : Nat) : Option YR := match P.underlying t with
  | some (.array m e) => bc (basicB P e) (match shOf P 2 e with
    | some sh => match contC sh m cs with
      | some c => bc (Nat.ble n 65535) (some ⟨true, ⟨some (.ptr n 0), H.put n (some (.seq t c true)), Nat.succ n⟩⟩) none
      | none => none
    | none => none) none
  | _ => none
theorem zNew_ok (hH : HR γ w0 H n w) {s : Sem Next} {t : TypeId} {cs : List EV} {c : Array Value} {r : YR} (h : zNew P t cs H n = some r) (hc : ECL γ cs c.toList)
    (hr : s.run P w = .ok (.value (.pointer (some ⟨w.heap.size, 0, none⟩))) (w.alloc (.cells c t))) : Gives P γ w0 w s r.er.val r.er.H r.er.n := by
  unfold zNew at h; split at h
  case h_2 => cases h
  rw [bc_eq] at h; split at h
  case isFalse => cases h
  split at h
  case h_2 => cases h
  rename_i sh hsh; split at h
  case h_2 => cases h
  rename_i cc hcc; rw [bc_eq] at h; split at h
  case isFalse => cases h
  rename_i hn; injection h with h; subst h
  obtain ⟨γ', w', h1, h2, x, h3, h4⟩ := gives_new (P := P) (s := s) (a := .ptr n 0) hH hn hc hr fun γ' e => .ptr n 0 _ _ e; exact ⟨γ', w', h1, h2.newSeq hn (contC_ok hcc).2.2.2, x, h3, h4⟩
noncomputable def zArrNew (P : Program) (t : TypeId) (c : SyC) (H : Tr EK) (n : Nat) : Option YR := match P.underlying t with
  | some (.array m e) => bc (Nat.ble n 65535) (some ⟨true, ⟨some (.ptr n 0), H.put n (some (.seq t c true)), Nat.succ n⟩⟩) none
  | _ => none

noncomputable def allZero (k : IntKind) (zs : List Value) : Bool := List.rec true (fun v _ ih => match v with
  | .int k' x => bc (decide (k = k')) (bc (decide (x = 0)) ih false) false
  | _ => false) zs
theorem allZero_ok {k : IntKind} : ∀ {zs : List Value}, allZero k zs = true → zs = List.replicate zs.length (.int k 0)
  | [], _ => rfl
  | v :: zs, h => by
    cases v with
    | int k' x => ?_
    | _ => cases h
    have h' : bc (decide (k = k')) (bc (decide (x = 0)) (allZero k zs) false) false = true := h; rw [bc_eq, bc_eq] at h'; split at h'
    case isFalse => cases h'
    rename_i h1; split at h'
    case isFalse => cases h'
    rename_i h2; have h1 := of_decide_eq_true h1; have h2 := of_decide_eq_true h2; subst h1; subst h2; rw [List.length_cons, List.replicate_succ, ← allZero_ok h']
noncomputable def arrC (P : Program) (t : TypeId) (cs : List EV) : Option SyC := match P.underlying t with
  | some (.array m e) => bc (basicB P e) (match shOf P 2 e with
    | some sh => contC sh m cs
    | none => none) none
  | _ => none
theorem arrC_ok {t : TypeId} {cs : List EV} {c : SyC} (h : arrC P t cs = some c) : ∀ (γ : G) (vs : List Value), ECL γ cs vs → ECL γ c.enc vs := by
  unfold arrC at h; split at h
  case h_2 => cases h
  rw [bc_eq] at h; split at h
  case isFalse => cases h
  split at h
  case h_2 => cases h
  exact (contC_ok h).2.2.2

noncomputable def allocC (P : Program) (t : TypeId) : Option SyC := match P.underlying t with
  | some (.array m e) => match Sx.zeroL P t with
    | some zs => match P.underlying e with
      | some (.int k) => bc (allZero k zs) (bc (Nat.beq zs.length m) (some (.ints k (zerosL m))) none) (arrC P t (zs.map .v))
      | _ => arrC P t (zs.map .v)
    | none => none
  | _ => none
theorem allocC_ok {t : TypeId} {c : SyC} (h : allocC P t = some c) : ∃ zs, Sx.zeroL P t = some zs ∧ ∀ (γ : G) (vs : List Value), ECL γ (zs.map .v) vs → ECL γ c.enc vs := by
  unfold allocC at h; split at h
  case h_2 => cases h
  rename_i m e hu; split at h
  case h_2 => cases h
  rename_i zs hz; refine ⟨zs, hz, ?_⟩; split at h
  · rename_i k hk; rw [bc_eq] at h; split at h
    · rename_i h1; rw [bc_eq] at h; split at h
      case isFalse => cases h
      rename_i h2; injection h with h; subst h
      intro γ vs hv; have e1 := allZero_ok h1; have h2 := Nat.eq_of_beq_eq_true h2; show ECL γ ((zerosL m).map fun x => EV.v (.int k x)) vs; have : (zerosL m).map (fun x => EV.v (.int k x)) = zs.map .v := by
        rw [e1, h2]; unfold zerosL; rw [List.map_replicate, List.map_replicate]
      rw [this]; exact hv
    · exact arrC_ok h
  · exact arrC_ok h
noncomputable def zAlloc (P : Program) (t : TypeId) (H : Tr EK) (n : Nat) : Option YR := match allocC P t with
  | some c => bc (Nat.ble n 65535) (some ⟨true, ⟨some (.ptr n 0), H.put n (some (.seq t c true)), Nat.succ n⟩⟩) none
  | none => none
theorem alloc_run {t : TypeId} {zs : List Value} (ho : o.op = .alloc t) (hz : Sx.zeroL P t = some zs) : ∃ c : Array Value, c.toList = zs ∧ ∀ w : World, (execOp (opEval tmps) o).run P w = .ok (.value (.pointer (some ⟨w.heap.size, 0, none⟩))) (w.alloc (.cells c t)) := by
  obtain ⟨inf, z, hi, hzz, hzl⟩ := zero_of hz; refine ⟨z.cells, hzl, fun w => ?_⟩; have he : execOp (opEval tmps) o = (do pure (Next.value (← Instr.alloc t true (.tuple #[]))) : Sem Next) := by unfold execOp; rw [ho]
  rw [he]; refine run_v ?_; simp [Instr.alloc, zeroValue, typeInfo, hi, hzz, newVar, newRow, newObj, Sem.run]
theorem zAlloc_ok (hH : HR γ w0 H n w) {t : TypeId} {r : YR} (ho : o.op = .alloc t) (h : zAlloc P t H n = some r) : Gives P γ w0 w (execOp (opEval tmps) o) r.er.val r.er.H r.er.n := by
  unfold zAlloc at h; split at h
  case h_2 => cases h
  rename_i c hc; rw [bc_eq] at h; split at h
  case isFalse => cases h
  rename_i hn; injection h with h; subst h
  obtain ⟨zs, hz, hcl⟩ := allocC_ok hc; obtain ⟨ca, e1, hrun⟩ := alloc_run (tmps := tmps) ho hz; obtain ⟨γ', w', g1, g2, x, g3, g4⟩ := gives_new (P := P) (a := .ptr n 0) hH hn (by rw [e1]; exact ECL.vals γ zs) (hrun w) fun γ' e => .ptr n 0 _ _ e; exact ⟨γ', w', g1, g2.newSeq hn hcl, x, g3, g4⟩
noncomputable def zBox (P : Program) (T : Tr EV) (t : TypeId) (x : Operand) (H : Tr EK) (n : Nat) : Option YR := match exVal T x with
  | some (.arr c) => zArrNew P t c H n
  | some a => zNew P t a.cells H n
  | none => none
theorem zBox_ok (hT : TOk γ T tmps) (hH : HR γ w0 H n w) {t : TypeId} {x : Operand} {r : YR} (ho : o.op = .box t x) (h : zBox P T t x H n = some r) : Gives P γ w0 w (execOp (opEval tmps) o) r.er.val r.er.H r.er.n := by
  have hrun : (execOp (opEval tmps) o).run P w = .ok (.value (.pointer (some ⟨w.heap.size, 0, none⟩))) (w.alloc (.cells (opEval tmps x).cells t)) := by
    have he : execOp (opEval tmps) o = (do pure (Next.value (← Instr.box t (opEval tmps x))) : Sem Next) := by unfold execOp; rw [ho]
    rw [he]; refine run_v ?_; simp [Instr.box, newVar, newRow, newObj, Sem.run]
  unfold zBox at h; split at h
  · rename_i c hx; unfold zArrNew at h; split at h
    case h_2 => cases h
    rw [bc_eq] at h; split at h
    case isFalse => cases h
    rename_i hn; injection h with h; subst h
    have hc : ECL γ c.enc (opEval tmps x).cells.toList := (exVal_ok hT hx).cells; obtain ⟨γ', w', g1, g2, v, g3, g4⟩ := gives_new (P := P) (a := .ptr n 0) hH hn hc hrun fun γ' e => .ptr n 0 _ _ e; exact ⟨γ', w', g1, g2.newSeq hn fun γ vs hv => hv, v, g3, g4⟩
  · rename_i a hne hx; exact zNew_ok hH h (exVal_ok hT hx).cells hrun
  · cases h

theorem store_at (hH : HR γ w0 H n w) {t : TypeId} {x y : Operand} {m i off k : Nat} {b : Pl} {cs : List EV} (ho : o.op = .store t x y) (he : opEval tmps x = .pointer (some (b.at off))) (hγ : γ i = some (b, k)) (hm : Sx.sizeB P t = some m) (hv : ECL γ cs (opEval tmps y).cells.toList) (hl : cs.length = m) (hp : exPut i off cs H = some H') : Gives P γ w0 w (execOp (opEval tmps) o) none H' n := by
  obtain ⟨h1, h2⟩ := exPut_ok (P := P) hH hv hp hγ; obtain ⟨inf, hi, hs⟩ := size_of hm; have hcl : (opEval tmps y).cells.size = inf.size := by rw [← Array.length_toList, ← hv.1, hl, hs]
  refine ⟨γ, _, GLe.refl γ, h1, ?_⟩; have hs2 : execOp (opEval tmps) o = (do Instr.storeAt t (.pointer (some (b.at off))) (opEval tmps y); pure Next.skip : Sem Next) := by
    unfold execOp; rw [ho]; simp only [he]
  rw [hs2]; refine run_u ?_; simp [Instr.storeAt, Instr.sureAddr, storeVar, sizeOf, typeInfo, hi, hcl, h2]

theorem store_seq (hH : HR γ w0 H n w) {t ty : TypeId} {x y : Operand} {m i off k : Nat} {b : Pl} {cs : List EV} {c c' : SyC} {nn : Bool} (ho : o.op = .store t x y) (he : opEval tmps x = .pointer (some (b.at off))) (hγ : γ i = some (b, k)) (hi : Nat.ble i 65535 = true) (hg : H.get i = some (.seq ty c nn)) (hlen : 0 < c.len) (hm : Sx.sizeB P t = some m) (hv : ECL γ cs (opEval tmps y).cells.toList) (hl : cs.length = m) (hone : allOne cs = true) (hoff : off + m ≤ c.len)
    (hc' : ∀ (γ : G) (vs : List Value), ECL γ (Sx.putAt c.enc off cs) vs → ECL γ c'.enc vs) : Gives P γ w0 w (execOp (opEval tmps) o) none (H.put i (some (.seq ty c' nn))) n := by
  have hnn := notNil_of_len (ty := ty) (nn := nn) hlen; have h1 : HR γ w0 (H.put i (some (.cells ty c.enc false))) n w := hH.recast hi hg hnn fun b m => seq_cells; have hput : exPut i off cs (H.put i (some (.cells ty c.enc false))) = some ((H.put i (some (.cells ty c.enc false))).put i (some (.cells ty (Sx.putAt c.enc off cs) false))) := by
    have hgi : (H.put i (some (.cells ty c.enc false))).get i = some (.cells ty c.enc false) := by rw [Tr.get_put hi, if_pos rfl]
    have hca : cellsAt (H.put i (some (.cells ty c.enc false))) i = some (ty, c.enc, false) := by unfold cellsAt; rw [hgi]
    have h6 : Nat.ble (Nat.add off (llen cs)) (llen c.enc) = true := by
      rw [llen_eq, llen_eq, c.enc_len]; exact Nat.ble_eq_true_of_le (show off + cs.length ≤ c.len by omega)
    unfold exPut; rw [hgi]; show exPutL i off cs _ = _; unfold exPutL; rw [hca]; simp only [bc_eq]; rw [if_pos h6, if_pos hone, if_pos hi]
  obtain ⟨γ', w', hle, hH2, hv2⟩ := store_at (P := P) h1 ho he hγ hm hv hl hput; refine ⟨γ', w', hle, ?_, hv2⟩; have h7 : HR γ' w0 (((H.put i (some (.cells ty c.enc false))).put i (some (.cells ty (Sx.putAt c.enc off cs) false))).put i (some (.seq ty c' nn))) n w' :=
    hH2.recast hi (by rw [Tr.get_put hi, if_pos rfl]) id fun b m => cells_to_seq hc'
  refine h7.congr fun j k hj => ?_; rw [Tr.get_put hi] at hj ⊢; split at hj
  · rename_i e; rw [if_pos e]; exact hj
  · rename_i e; rw [if_neg e, Tr.get_put hi, if_neg e, Tr.get_put hi, if_neg e]; exact hj

noncomputable def putRow (r' : List U) (f : Nat) : List U → List U := Nat.rec (fun r => r' ++ r.drop r'.length) (fun _ ih r => r.headD (.i 0) :: ih r.tail) f
theorem recE_append {sh1 sh2 : List Sh} : ∀ {r1 r2 : List U}, r1.length = sh1.length → recE (sh1 ++ sh2) (r1 ++ r2) = recE sh1 r1 ++ recE sh2 r2 := by
  induction sh1 with
  | nil => intro r1 r2 h; have : r1 = [] := List.eq_nil_of_length_eq_zero h; subst this; rfl
  | cons s sh1 ih =>
    intro r1 r2 h
    cases r1 with
    | nil => cases h
    | cons u r1 =>
      show s.ev u :: recE (sh1 ++ sh2) (r1 ++ r2) = s.ev u :: (recE sh1 r1 ++ recE sh2 r2); rw [ih (by simpa using h)]
theorem recE_drop {sh : List Sh} : ∀ {r : List U} {q : Nat}, recE (sh.drop q) (r.drop q) = (recE sh r).drop q := by
  induction sh with
  | nil => intro r q; simp [recE]
  | cons s sh ih =>
    intro r q
    cases q with
    | zero => rfl
    | succ q =>
      have e : recE (s :: sh) r = s.ev (r.headD (.i 0)) :: recE sh r.tail := rfl; rw [e, List.drop_succ_cons, List.drop_succ_cons, ← ih]; cases r <;> simp
theorem putRow_enc {sh : List Sh} {r' : List U} : ∀ {f : Nat} {r : List U}, f + r'.length ≤ sh.length → recE sh (putRow r' f r) = (recE sh r).take f ++ recE ((sh.drop f).take r'.length) r' ++ (recE sh r).drop (f + r'.length) := by
  induction sh with
  | nil =>
    intro f r h; have h : f + r'.length ≤ 0 := h; have h1 : f = 0 := by omega
    have h2 : r' = [] := List.eq_nil_of_length_eq_zero (by omega); subst h1; subst h2; rfl
  | cons s sh ih =>
    intro f r h
    cases f with
    | zero =>
      show recE (s :: sh) (r' ++ r.drop r'.length) = _; have e : s :: sh = (s :: sh).take r'.length ++ (s :: sh).drop r'.length := (List.take_append_drop _ _).symm; have hl : r'.length = ((s :: sh).take r'.length).length := by rw [List.length_take]; omega
      rw [List.take_zero, List.nil_append, Nat.zero_add, List.drop_zero]; have := recE_append (sh1 := (s :: sh).take r'.length) (sh2 := (s :: sh).drop r'.length) (r1 := r') (r2 := r.drop r'.length) hl; rw [← e] at this; rw [this, recE_drop]
    | succ f =>
      show recE (s :: sh) (r.headD (.i 0) :: putRow r' f r.tail) = _; have e1 : ∀ r : List U, recE (s :: sh) r = s.ev (r.headD (.i 0)) :: recE sh r.tail := fun _ => rfl; rw [e1, e1, List.take_succ_cons, List.drop_succ_cons, show f + 1 + r'.length = (f + r'.length) + 1 by omega, List.drop_succ_cons]; have := ih (f := f) (r := r.tail) (by simp at h; omega); show s.ev (r.headD (.i 0)) :: recE sh (putRow r' f r.tail) = _; rw [this]; rfl

noncomputable def SyC.setB (c : SyC) (j : Nat) (a : EV) : Option SyC := match c with
  | .ints k l => match intE k a with
    | some x => some (.ints k (l.set j x))
    | none => none
  | .bools l => match boolE a with
    | some x => some (.bools (l.set j x))
    | none => none
  | .strs l => match strE a with
    | some x => some (.strs (l.set j x))
    | none => none
  | _ => none
noncomputable def SyC.setC (c : SyC) (j f m : Nat) (cs : List EV) : Option SyC := bc (Nat.ble (Nat.add f m) c.cz) (match c with
  | .recs sh l => match recU ((sh.drop f).take m) cs with
    | some (r', []) => bc (Nat.beq m sh.length) (some (.recs sh (l.set j r'))) (some (.recs sh (l.set j (putRow r' f (l.getD j [])))))
    | _ => none
  | c => match cs with
    | [a] => c.setB j a
    | _ => none) none
theorem SyC.setB_ok {c c' : SyC} {j : Nat} {a : EV} (h : c.setB j a = some c') (hj : j < c.cnt) : c.cz = 1 ∧ a.one = true ∧ c'.enc = c.enc.set j a := by
  cases c with
  | recs sh l => cases h
  | ints k l =>
    have h' : (match intE k a with
      | some x => some (SyC.ints k (l.set j x))
      | none => none) = some c' := h
    split at h'
    case h_2 => cases h'
    rename_i x hx; injection h' with h'; subst h'
    rw [intE_ok hx]; refine ⟨rfl, rfl, ?_⟩; show (l.set j x).map _ = (l.map _).set j _; rw [List.map_set]
  | bools l =>
    have h' : (match boolE a with
      | some x => some (SyC.bools (l.set j x))
      | none => none) = some c' := h
    split at h'
    case h_2 => cases h'
    rename_i x hx; injection h' with h'; subst h'
    rw [boolE_ok hx]; refine ⟨rfl, rfl, ?_⟩; show (l.set j x).map _ = (l.map _).set j _; rw [List.map_set]
  | strs l =>
    have h' : (match strE a with
      | some x => some (SyC.strs (l.set j x))
      | none => none) = some c' := h
    split at h'
    case h_2 => cases h'
    rename_i x hx; injection h' with h'; subst h'
    rw [strE_ok hx]; refine ⟨rfl, rfl, ?_⟩; show (l.set j x).map _ = (l.map _).set j _; rw [List.map_set]
theorem flatMap_set {α : Type} {z : Nat} {g : α → List EV} (hg : ∀ a, (g a).length = z) : ∀ {l : List α} {j : Nat} {a : α}, j < l.length → (l.set j a).flatMap g = (l.flatMap g).take (j * z) ++ g a ++ (l.flatMap g).drop (j * z + z)
  | [], j, a, h => by simp at h
  | b :: l, 0, a, h => by
    rw [List.set_cons_zero, List.flatMap_cons, List.flatMap_cons, Nat.zero_mul, List.take_zero, List.nil_append, Nat.zero_add]; rw [List.drop_append, hg, Nat.sub_self, List.drop_zero, List.drop_of_length_le (by rw [hg]; exact Nat.le_refl _), List.nil_append]
  | b :: l, j + 1, a, h => by
    rw [List.set_cons_succ, List.flatMap_cons, List.flatMap_cons, flatMap_set hg (by simpa using h)]; have e1 : (j + 1) * z = z + j * z := by rw [Nat.succ_mul]; omega
    rw [e1, List.take_append, List.drop_append, hg, List.take_of_length_le (l := g b) (by rw [hg]; omega), List.drop_of_length_le (l := g b) (by rw [hg]; omega), show z + j * z - z = j * z by omega, show z + j * z + z - z = j * z + z by omega, List.nil_append]; simp only [List.append_assoc]
theorem putAt_eq {l cs : List EV} {off : Nat} (h : off + cs.length ≤ l.length) : Sx.putAt l off cs = l.take off ++ cs ++ l.drop (off + cs.length) := by
  apply List.ext_getElem?; intro j; rw [Sx.putAt_get h]
  by_cases h1 : j < off
  · rw [if_neg (by omega), List.append_assoc, List.getElem?_append_left (by simp; omega), List.getElem?_take, if_pos h1]
  · by_cases h2 : j < off + cs.length
    · rw [if_pos (by omega), List.append_assoc, List.getElem?_append_right (by simp; omega), List.getElem?_append_left (by simp; omega)]; congr 1; simp; omega
    · rw [if_neg (by omega), List.getElem?_append_right (by simp; omega), List.getElem?_drop]; congr 1; simp; omega
theorem SyC.setC_ok {c c' : SyC} {j f m : Nat} {cs : List EV} (h : c.setC j f m cs = some c') (hj : j < c.cnt) (hl : cs.length = m) : f + m ≤ c.cz ∧ allOne cs = true ∧ ∀ (γ : G) (vs : List Value), ECL γ (Sx.putAt c.enc (j * c.cz + f) cs) vs → ECL γ c'.enc vs := by
  unfold SyC.setC at h; rw [bc_eq] at h; split at h
  case isFalse => cases h
  rename_i hfm; have hfm : f + m ≤ c.cz := Nat.le_of_ble_eq_true hfm; split at h
  · rename_i sh l hb0; split at h
    case h_2 => cases h
    rename_i r' hr; obtain ⟨h1, bx, hbx, h2, h3, h4⟩ := recU_ok hr; rw [List.append_nil] at hbx; subst hbx; have hone : allOne cs = true := by rw [allOne_eq, List.all_eq_true]; exact h3
    have hfm : f + m ≤ sh.length := hfm; have hr' : r'.length = m := by rw [h1, List.length_take, List.length_drop]; omega
    refine ⟨hfm, hone, fun γ vs hv => ?_⟩; have hj : j < l.length := hj; have hlen : (l.flatMap (recE sh)).length = l.length * sh.length := recs_len sh l; have hjm : j * sh.length + sh.length ≤ l.length * sh.length := by rw [← Nat.succ_mul]; exact Nat.mul_le_mul_right _ hj
    have hcz : (SyC.recs sh l).cz = sh.length := rfl; rw [hcz] at hv
    -- the new row
    have row : ∀ r2 : List U, c' = .recs sh (l.set j r2) → recE sh r2 = (recE sh (l.getD j [])).take f ++ recE ((sh.drop f).take m) r' ++ (recE sh (l.getD j [])).drop (f + m) → ECL γ c'.enc vs := fun r2 e1 e2 => by
      subst e1; show ECL γ ((l.set j r2).flatMap (recE sh)) vs; rw [flatMap_set (fun a => recE_len sh a) hj, e2]; have hv : ECL γ (Sx.putAt (l.flatMap (recE sh)) (j * sh.length + f) cs) vs := hv; rw [putAt_eq (by rw [hlen, hl]; omega)] at hv
      -- the old row within the whole
      have hrow : ∀ q, q < sh.length → (l.flatMap (recE sh))[j * sh.length + q]? = (recE sh (l.getD j []))[q]? := fun q hq => by
        have := recs_get (sh := sh) (s := sh[q]) (f := q) (List.getElem?_eq_getElem hq) (l := l) hj; rw [this, recE_get (s := sh[q]) _ (List.getElem?_eq_getElem hq)]
      have e3 : (l.flatMap (recE sh)).take (j * sh.length) ++ (recE sh (l.getD j [])).take f = (l.flatMap (recE sh)).take (j * sh.length + f) := by
        apply List.ext_getElem?; intro q; rw [List.getElem?_take]
        by_cases hq : q < j * sh.length
        · rw [List.getElem?_append_left (by rw [List.length_take]; omega), List.getElem?_take, if_pos hq, if_pos (by omega)]
        · rw [List.getElem?_append_right (by rw [List.length_take]; omega), List.length_take, Nat.min_eq_left (by omega), List.getElem?_take]
          by_cases hq2 : q < j * sh.length + f
          · rw [if_pos hq2, if_pos (by omega)]; have := hrow (q - j * sh.length) (by omega); rw [← this]; congr 1; omega
          · rw [if_neg hq2, if_neg (by omega)]
      have e4 : (recE sh (l.getD j [])).drop (f + m) ++ (l.flatMap (recE sh)).drop (j * sh.length + sh.length) = (l.flatMap (recE sh)).drop (j * sh.length + f + m) := by
        apply List.ext_getElem?; intro q; rw [List.getElem?_drop]
        by_cases hq : q < sh.length - (f + m)
        · rw [List.getElem?_append_left (by rw [List.length_drop, recE_len]; exact hq), List.getElem?_drop]; have := hrow (f + m + q) (by omega); rw [← this]; congr 1; omega
        · rw [List.getElem?_append_right (by rw [List.length_drop, recE_len]; omega), List.length_drop, recE_len, List.getElem?_drop]; congr 1; omega
      rw [hl] at hv; have hl1 : ((l.flatMap (recE sh)).take (j * sh.length + f)).length = j * sh.length + f := by rw [List.length_take]; omega
      have k1 := hv.take (j * sh.length + f + m); have k2 := hv.drop (j * sh.length + f + m); have e5 : ((l.flatMap (recE sh)).take (j * sh.length + f) ++ cs).length = j * sh.length + f + m := by rw [List.length_append, hl1, hl]
      have k1 : ECL γ ((l.flatMap (recE sh)).take (j * sh.length + f) ++ cs) (vs.take (j * sh.length + f + m)) := by
        rwa [List.take_left' e5] at k1
      have k2 : ECL γ ((l.flatMap (recE sh)).drop (j * sh.length + f + m)) (vs.drop (j * sh.length + f + m)) := by
        rwa [List.drop_left' e5] at k2
      have k3 := k1.take (j * sh.length + f); have k4 := k1.drop (j * sh.length + f); rw [List.take_left' hl1] at k3; rw [List.drop_left' hl1] at k4; have k5 := (k3.append (h4 γ _ k4)).append k2; rw [List.take_append_drop, List.take_append_drop] at k5; rw [← e3, ← e4] at k5; simpa [List.append_assoc] using k5
    rw [bc_eq] at h; split at h
    · rename_i hm; have hm := Nat.eq_of_beq_eq_true hm; injection h with h'
      have hf0 : f = 0 := by omega
      refine row r' h'.symm ?_; subst hf0; rw [List.take_zero, List.nil_append, List.drop_zero, hm, List.take_length, Nat.zero_add, List.drop_of_length_le (by rw [recE_len]; exact Nat.le_refl _), List.append_nil]
    · injection h with h'
      refine row _ h'.symm ?_; have := putRow_enc (sh := sh) (r' := r') (f := f) (r := l.getD j []) (by rw [hr']; exact hfm); rw [hr'] at this; exact this
  · split at h
    case h_2 => cases h
    rename_i a; obtain ⟨h1, h2, h3⟩ := SyC.setB_ok h hj; have hm : m = 1 := by rw [← hl]; rfl
    have hf : f = 0 := by omega
    subst hf; refine ⟨hfm, by rw [allOne_eq]; simp [h2], fun γ vs hv => ?_⟩; rw [h1, Nat.mul_one, Nat.add_zero, set_putAt (by rw [SyC.enc_len, SyC.len_cz, h1]; omega)] at hv; rw [h3]; exact hv
end Go.Proofs.Ytooimphimnagaaa.Ev
namespace Go.Proofs.Ytooimphimnagaaa.Ev
open Go.RowKit
variable {P : Program} {γ γ' : G} {w0 : Bs} {w : World} {H H' : Tr EK} {n n' : Nat} {T : Tr EV} {tmps : Array Value} {o : Oper}


noncomputable def stE (i z j f m : Nat) (H1 : Tr EK) (cf : Bool) (cs : List EV) (n : Nat) : Option YR := match H1.get i with
  | some (.seq ty c nn) => match c.setC j f m cs with
    | some c' => bc (Nat.beq z c.cz) (bc (Nat.beq (llen cs) m) (bc (Nat.blt 0 m) (bc (Nat.ble i 65535) (some ⟨bc cf (Nat.blt j c.cnt) false, ⟨none, H1.put i (some (.seq ty c' nn)), n⟩⟩) none) none) none) none
    | none => none
  | _ => none
noncomputable def stA (i m : Nat) (c2 : SyC) (H : Tr EK) (n : Nat) : Option YR := match H.get i with
  | some (.seq ty c nn) => match c2.vals with
    | some _ => bc (Nat.beq c.cz 1) (bc (Nat.blt 0 m) (bc (Nat.ble i 65535) (some ⟨bc (Nat.beq c2.cnt m) (Nat.beq c.cnt m) false, ⟨none, H.put i (some (.seq ty c2 nn)), n⟩⟩) none) none) none
    | none => none
  | _ => none
noncomputable def stW (P : Program) (t : TypeId) (i off m : Nat) (b : EV) (H : Tr EK) (n : Nat) : Option YR := match H.get i with
  | some (.seq ty c nn) => match b with
    | .arr c2 => bc (Nat.beq off 0) (stA i m c2 H n) none
    | b => bc (Nat.beq m 1) (bc (Nat.beq c.cz 1) (stE i 1 off 0 m H true b.cells n) none) (match contC c.sh m b.cells with
      | some c2 => bc (Nat.beq off 0) (bc (Nat.beq c.cz 1) (bc (allOne b.cells) (bc (Nat.blt 0 m) (bc (Nat.ble i 65535) (some ⟨Nat.beq c.cnt m, ⟨none, H.put i (some (.seq ty c2 nn)), n⟩⟩) none) none) none) none) none
      | none => none)
  | _ => none
noncomputable def SyC.putW (c d : SyC) (g : Nat) : Option SyC := match (c.win 0 g).appS d with
  | some e => e.appS (c.win (Nat.add g d.cnt) c.cnt)
  | none => none

noncomputable def stF (i g m : Nat) (d : SyC) (H : Tr EK) (n : Nat) : Option YR := match H.get i with
  | some (.seq ty c nn) => match c.putW d g with
    | some c' => match d.vals with
      | some _ => match c.vals with
        | some _ => bc (Nat.blt 0 m) (bc (Nat.ble i 65535) (some ⟨bc (Nat.beq d.cnt m) (Nat.ble (Nat.add g m) c.cnt) false, ⟨none, H.put i (some (.seq ty c' nn)), n⟩⟩) none) none
        | none => none
      | none => none
    | none => none
  | _ => none

noncomputable def flatB (i z : Nat) (H : Tr EK) : Bool := match H.get i with
  | some (.seq _ c _) => bc (Nat.beq c.cz 1) (bc (Nat.beq z 1) false true) false
  | _ => false
noncomputable def zStore (P : Program) (T : Tr EV) (t : TypeId) (x y : Operand) (H : Tr EK) (n : Nat) : Option YR := match Sx.sizeB P t with
  | some m => match exVal T y with
    | some b => match exVal T x with
      | some (.ptrE i z j f) => match H.get i with
        | some (.cells _ _ _) => bc (Nat.beq (llen b.cells) m) (match exPut i (Nat.add (Nat.mul j z) f) b.cells H with
          | some H' => some ⟨true, ⟨none, H', n⟩⟩
          | none => none) none
        | some (.nest _ _ _ _ _ _ _) => stN i z j f m b H n
        | _ => bc (flatB i z H) (match b with
          | .arr d => stF i (Nat.add (Nat.mul j z) f) m d H n
          | b => stE i 1 (Nat.add (Nat.mul j z) f) 0 m H true b.cells n) (match frzL (frzE 6) b.cells H with
          | some (cf, cs, H1) => stE i z j f m H1 cf cs n
          | none => none)
      | some (.ptr i off) => stW P t i off m b H n
      | _ => none
    | none => none
  | none => none
theorem stE_ok (hH : HR γ w0 H n w) {t : TypeId} {x y : Operand} {i z j f m : Nat} {cf : Bool} {cs : List EV} {r : YR} (ho : o.op = .store t x y) (hp : EC γ (.ptrE i z j f) (opEval tmps x)) (hm : Sx.sizeB P t = some m) (hv : cf = true → ECL γ cs (opEval tmps y).cells.toList) (h : stE i z j f m H cf cs n = some r) (hc : r.c = true) : Gives P γ w0 w (execOp (opEval tmps) o) r.er.val r.er.H r.er.n := by
  unfold stE at h; split at h
  case h_2 => cases h
  rename_i ty c nn hg; split at h
  case h_2 => cases h
  rename_i c' hset; simp only [bc_eq] at h; split at h
  case isFalse => cases h
  rename_i h1; split at h
  case isFalse => cases h
  rename_i h2; split at h
  case isFalse => cases h
  rename_i h3; split at h
  case isFalse => cases h
  rename_i h4; injection h with h; subst h
  have hc : (if cf = true then Nat.blt j c.cnt else false) = true := hc
  split at hc
  case isFalse => cases hc
  rename_i hcf; have h1 := Nat.eq_of_beq_eq_true h1; subst h1; have h2 := Nat.eq_of_beq_eq_true h2; rw [llen_eq] at h2; have hj := blt_lt hc; have h3 := blt_lt h3; obtain ⟨g1, g2, g3⟩ := SyC.setC_ok hset hj h2; obtain ⟨b, k, hγ, he⟩ := ec_ptrE hp; have hjm : j * c.cz + c.cz ≤ c.cnt * c.cz := by rw [← Nat.succ_mul]; exact Nat.mul_le_mul_right _ hj
  have hlen := c.len_cz; exact store_seq hH ho he hγ h4 hg (by omega) hm (hv hcf) h2 g2 (by omega) g3
theorem stA_ok (hH : HR γ w0 H n w) {t : TypeId} {x y : Operand} {i m : Nat} {c2 : SyC} {r : YR} (ho : o.op = .store t x y) (hp : EC γ (.ptr i 0) (opEval tmps x)) (hm : Sx.sizeB P t = some m) (hv : EC γ (.arr c2) (opEval tmps y)) (h : stA i m c2 H n = some r) (hc : r.c = true) : Gives P γ w0 w (execOp (opEval tmps) o) r.er.val r.er.H r.er.n := by
  unfold stA at h; split at h
  case h_2 => cases h
  rename_i ty c nn hg; split at h
  case h_2 => cases h
  rename_i vs hvs; simp only [bc_eq] at h; split at h
  case isFalse => cases h
  rename_i h1; split at h
  case isFalse => cases h
  rename_i h3; split at h
  case isFalse => cases h
  rename_i h4; injection h with h; subst h
  have hc : (if Nat.beq c2.cnt m = true then Nat.beq c.cnt m else false) = true := hc
  split at hc
  case isFalse => cases hc
  rename_i h2; have h1 := Nat.eq_of_beq_eq_true h1; have h2 := Nat.eq_of_beq_eq_true h2; have h3 := blt_lt h3; have hc := Nat.eq_of_beq_eq_true hc; obtain ⟨b, k, hγ, he⟩ := ec_ptr hp; obtain ⟨q1, q2⟩ := SyC.vals_len hvs; have hlen := c.len_cz; have hlen2 := c2.len_cz; rw [h1] at hlen; rw [q2] at hlen2; have hl : c2.enc.length = m := by rw [c2.enc_len]; omega
  have hvc : ECL γ c2.enc (opEval tmps y).cells.toList := hv.cells; refine store_seq hH ho he hγ h4 hg (by omega) hm hvc hl c2.enc_one (by omega) fun γ vs hv => ?_; rw [putAt_eq (by rw [c.enc_len]; omega), List.take_zero, List.nil_append, List.drop_of_length_le (by rw [c.enc_len]; omega), List.append_nil] at hv; exact hv
theorem stW_ok (hH : HR γ w0 H n w) {t : TypeId} {x y : Operand} {i off m : Nat} {b : EV} {r : YR} (ho : o.op = .store t x y) (hp : EC γ (.ptr i off) (opEval tmps x)) (hm : Sx.sizeB P t = some m) (hv : EC γ b (opEval tmps y)) (h : stW P t i off m b H n = some r) (hc : r.c = true) : Gives P γ w0 w (execOp (opEval tmps) o) r.er.val r.er.H r.er.n := by
  have toE : ∀ z, z = 1 → EC γ (.ptrE i z off 0) (opEval tmps x) := fun z hz => by
    subst hz; obtain ⟨b, k, hγ, he⟩ := ec_ptr hp; rw [he]; have := EC.ptrE (γ := γ) i 1 off 0 b k hγ
    rwa [show off * 1 + 0 = off by omega] at this
  unfold stW at h; split at h
  case h_2 => cases h
  rename_i ty c nn hg; split at h
  · rename_i c2; rw [bc_eq] at h; split at h
    case isFalse => cases h
    rename_i h0; have h0 := Nat.eq_of_beq_eq_true h0; subst h0; exact stA_ok hH ho hp hm hv h hc
  · rename_i b hne; rw [bc_eq] at h; split at h
    · rename_i hm1; rw [bc_eq] at h; split at h
      case isFalse => cases h
      exact stE_ok hH ho (toE 1 rfl) hm (fun _ => hv.cells) h hc
    · split at h
      case h_2 => cases h
      rename_i c2 hcc; simp only [bc_eq] at h; split at h
      case isFalse => cases h
      rename_i h0; have h0 := Nat.eq_of_beq_eq_true h0; subst h0; split at h
      case isFalse => cases h
      rename_i h1; split at h
      case isFalse => cases h
      rename_i h2; split at h
      case isFalse => cases h
      rename_i h3; split at h
      case isFalse => cases h
      rename_i h4; injection h with h; subst h
      have h1 := Nat.eq_of_beq_eq_true h1; have h3 := blt_lt h3; have hc := Nat.eq_of_beq_eq_true hc; obtain ⟨g1, g2, g3, g4⟩ := contC_ok hcc; obtain ⟨bb, k, hγ, he⟩ := ec_ptr hp; have hlen := c.len_cz; rw [h1] at hlen; have hcz : c.sh.length = 1 := by rw [← c.cz_sh]; exact h1
      rw [hcz] at g3; refine store_seq hH ho he hγ h4 hg (by omega) hm hv.cells (by omega) h2 (by omega) fun γ vs hv => ?_; rw [putAt_eq (by rw [c.enc_len]; omega), List.take_zero, List.nil_append, List.drop_of_length_le (by rw [c.enc_len]; omega), List.append_nil] at hv; exact g4 γ vs hv
theorem SyC.win_enc {c : SyC} {vs : List Value} (h : c.vals = some vs) (g m : Nat) : (c.win g m).enc = (c.enc.drop g).take m := by
  rw [SyC.vals_enc (SyC.win_vals h g m), SyC.vals_enc h, List.map_take, List.map_drop]
theorem stF_ok (hH : HR γ w0 H n w) {t : TypeId} {x y : Operand} {i z j f m : Nat} {d : SyC} {r : YR} (ho : o.op = .store t x y) (hp : EC γ (.ptrE i z j f) (opEval tmps x)) (hm : Sx.sizeB P t = some m) (hv : EC γ (.arr d) (opEval tmps y)) (h : stF i (Nat.add (Nat.mul j z) f) m d H n = some r) (hc : r.c = true) : Gives P γ w0 w (execOp (opEval tmps) o) r.er.val r.er.H r.er.n := by
  obtain ⟨b, k, hγ, he⟩ := ec_ptrE hp; unfold stF at h; rw [show Nat.add (Nat.mul j z) f = j * z + f from rfl] at h
  generalize j * z + f = g at h he; split at h
  case h_2 => cases h
  rename_i ty c nn hg; split at h
  case h_2 => cases h
  rename_i c' hset; split at h
  case h_2 => cases h
  rename_i vd hvd; split at h
  case h_2 => cases h
  rename_i vc hvc; simp only [bc_eq] at h; split at h
  case isFalse => cases h
  rename_i h3; split at h
  case isFalse => cases h
  rename_i h4; injection h with h; subst h
  have hc : (if Nat.beq d.cnt m = true then Nat.ble (Nat.add g m) c.cnt else false) = true := hc
  split at hc
  case isFalse => cases hc
  rename_i h2; have h2 := Nat.eq_of_beq_eq_true h2; have h3 := blt_lt h3; have hgm : g + m ≤ c.cnt := Nat.le_of_ble_eq_true hc; obtain ⟨_, q1⟩ := SyC.vals_len hvc; obtain ⟨_, q2⟩ := SyC.vals_len hvd; have hlen := c.len_cz; have hlen2 := d.len_cz; rw [q1] at hlen; rw [q2] at hlen2; have hl : d.enc.length = m := by rw [d.enc_len]; omega
  have hce : c.enc.length = c.cnt := by rw [c.enc_len]; omega
  have henc : c'.enc = c.enc.take g ++ d.enc ++ c.enc.drop (g + m) := by
    unfold SyC.putW at hset; split at hset
    case h_2 => cases hset
    rename_i e he2; rw [SyC.appS_enc hset, SyC.appS_enc he2, SyC.win_enc hvc, SyC.win_enc hvc, List.drop_zero, h2, List.take_of_length_le (i := c.cnt) (by rw [List.length_drop]; omega)]; rfl
  have hve : ECL γ d.enc (opEval tmps y).cells.toList := hv.cells; refine store_seq hH ho he hγ h4 hg (by omega) hm hve hl d.enc_one (by omega) fun γ vs hv => ?_; rw [putAt_eq (by omega), hl] at hv; rw [henc]; exact hv
theorem zStore_ok (hT : TOk γ T tmps) (hH : HR γ w0 H n w) {t : TypeId} {x y : Operand} {r : YR} (ho : o.op = .store t x y) (h : zStore P T t x y H n = some r) (hc : r.c = true) : Gives P γ w0 w (execOp (opEval tmps) o) r.er.val r.er.H r.er.n := by
  unfold zStore at h; split at h
  case h_2 => cases h
  rename_i m hm; split at h
  case h_2 => cases h
  rename_i b hy; split at h
  case h_3 => cases h
  · rename_i i z j f hx; split at h
    · rename_i ty cs full hg; rw [bc_eq] at h; split at h
      case isFalse => cases h
      rename_i hl; have hl := Nat.eq_of_beq_eq_true hl; rw [llen_eq] at hl; split at h
      case h_2 => cases h
      rename_i H' hp; injection h with h; subst h
      obtain ⟨bb, k, hγ, he⟩ := ec_ptrE (exVal_ok hT hx); exact store_at hH ho he hγ hm (exVal_ok hT hy).cells hl hp
    · exact stN_ok hH ho (exVal_ok hT hx) hm (exVal_ok hT hy) h hc
    · rw [bc_eq] at h; split at h
      case isTrue =>
        have toE : EC γ (.ptrE i 1 (Nat.add (Nat.mul j z) f) 0) (opEval tmps x) := by
          obtain ⟨bb, k, hγ, he⟩ := ec_ptrE (exVal_ok hT hx); rw [he]; have := EC.ptrE (γ := γ) i 1 (j * z + f) 0 bb k hγ
          rwa [show (j * z + f) * 1 + 0 = j * z + f by omega] at this
        split at h
        · exact stF_ok hH ho (exVal_ok hT hx) hm (exVal_ok hT hy) h hc
        · exact stE_ok hH ho toE hm (fun _ => (exVal_ok hT hy).cells) h hc
      split at h
      case h_2 => cases h
      rename_i cf cs H1 hf; have hcf : cf = true := by
        unfold stE at h; split at h
        case h_2 => cases h
        split at h
        case h_2 => cases h
        simp only [bc_eq] at h; split at h
        case isFalse => cases h
        split at h
        case isFalse => cases h
        split at h
        case isFalse => cases h
        split at h
        case isFalse => cases h
        injection h with h; subst h
        have hc : (if cf = true then _ else false) = true := hc
        split at hc
        · assumption
        · cases hc
      obtain ⟨γ1, g1, g2, g3⟩ := frzL_ok (f := frzE 6) (fun hH ha h hc => frzE_ok hH ha h hc) hH (exVal_ok hT hy).cells hf hcf; obtain ⟨γ2, w2, k1, k2, k3⟩ := stE_ok g2 ho ((exVal_ok hT hx).mono g1) hm (fun _ => g3) h hc; exact ⟨γ2, w2, g1.trans k1, k2, k3⟩
  · rename_i i off hx; exact stW_ok hH ho (exVal_ok hT hx) hm (exVal_ok hT hy) h hc

def SrcOk (γ : G) (w : World) (d : SyC) (vx : Value) : Prop := (0 < d.len → ∃ a ca ns, vx = .slice (some a) d.cnt ca ∧ ECL γ d.enc ns ∧ ns.length = d.len ∧ ∀ q u, ns[q]? = some u → w.cell? (a.add q) = some u) ∧ (d.cnt = 0 → vx = .slice none 0 0 ∨ ∃ a c, vx = .slice (some a) 0 c)
theorem lst_src (hH : HR γ w0 H n w) {d : SyC} {vx : Value} (h : EC γ (.lst d) vx) : SrcOk γ w d vx := by
  have hu := ec_lst h; generalize hR : U.l d.rows = R at hu
  cases hu with
  | empty _ _ a c h0 hc hn =>
    have h0 : d.rows = [] := by rw [← hR] at h0; exact h0
    have hcnt : d.cnt = 0 := by rw [d.cnt_eq, h0]; rfl
    cases a with
    | none => exact ⟨fun hl => by rw [d.len_cz, hcnt, Nat.zero_mul] at hl; omega, fun _ => .inl (by rw [hn rfl])⟩
    | some a => exact ⟨fun hl => by rw [d.len_cz, hcnt, Nat.zero_mul] at hl; omega, fun _ => .inr ⟨a, c, rfl⟩⟩
  | list _ _ k off c arr hk hl hc hs hall =>
    have hu : UOk γ.fz (.list d.sh) R (.slice (some ⟨k, off, none⟩) R.list.length c) := .list _ _ k off c arr hk hl hc hs hall; rw [← hR] at hu hl hs hall ⊢; have hrl : (U.l d.rows).list.length = d.cnt := d.cnt_eq.symm; rw [hrl] at hl hs ⊢; refine ⟨fun hpos => ⟨⟨k, off, none⟩, c, (arr.toList.drop off).take d.len, rfl, ?_, ?_, fun q u hq => ?_⟩, fun h0 => .inr ⟨_, c, by rw [h0]⟩⟩
    · have hlen : ((arr.toList.drop off).take d.len).length = d.len := by
        rw [List.length_take, List.length_drop, d.len_cz, d.cz_sh]; have : off + d.cnt * d.sh.length ≤ arr.toList.length := by simpa using hs
        omega
      refine ⟨by rw [d.enc_len, hlen], fun q a x ha hx => ?_⟩; have hcz : 0 < d.cz := by
        rcases Nat.eq_zero_or_pos d.cz with e | e
        · rw [d.len_cz, e, Nat.mul_zero] at hpos; omega
        · exact e
      have hq : q < d.len := by rw [← d.enc_len]; exact (List.getElem?_eq_some_iff.1 ha).1
      have hdm : (q / d.cz) * d.cz + q % d.cz = q := by rw [Nat.mul_comm]; exact Nat.div_add_mod q d.cz
      have hj : q / d.cz < d.cnt := by rw [Nat.div_lt_iff_lt_mul hcz, ← d.len_cz]; exact hq
      have hf : q % d.cz < d.cz := Nat.mod_lt _ hcz; have henc := SyC.cellE_enc hj hf; rw [hdm, ha] at henc; injection henc with henc; subst henc
      have hfs : q % d.cz < d.sh.length := by rw [← d.cz_sh]; exact hf
      rw [List.getElem?_take, if_pos hq, List.getElem?_drop, Array.getElem?_toList] at hx; have := hall (q / d.cz) (q % d.cz) d.sh[q % d.cz] x (by show q / d.cz < d.rows.length; rw [← d.cnt_eq]; exact hj) (List.getElem?_eq_getElem hfs) (by rw [← d.cz_sh, hdm]; exact hx); have h2 := this.ec; have h3 : (d.sh[q % d.cz]).ev (((U.l d.rows).list.getD (q / d.cz) []).getD (q % d.cz) (.i 0)) = d.cellE (q / d.cz) (q % d.cz) := SyC.ev_cellE (by rw [← d.cnt_eq]; exact hj) (List.getElem?_eq_getElem hfs); rw [h3] at h2; exact h2
    · rw [List.length_take, List.length_drop, d.len_cz, d.cz_sh]; have : off + d.cnt * d.sh.length ≤ arr.toList.length := by simpa using hs
      omega
    · rw [List.getElem?_take] at hq; split at hq
      case isFalse => cases hq
      rw [List.getElem?_drop, Array.getElem?_toList] at hq; obtain ⟨ty, fz, g4⟩ := (hH.fzk.at' k arr hk).1; have : (⟨k, off, none⟩ : Addr).add q = ⟨k, off + q, none⟩ := by simp [Addr.add]
      rw [this]; simp [World.cell?, g4, hq]
theorem seq_src (hH : HR γ w0 H n w) {j z len : Nat} {nn nn' : Bool} {ty : TypeId} {d : SyC} {vx : Value} (hg : H.get j = some (.seq ty d nn')) (hx : EC γ (.slO j z len nn) vx) (hl : len = d.cnt) (hz : z = d.cz) : SrcOk γ w d vx := by
  subst hl; subst hz
  cases hx with
  | slO _ _ _ _ _ hs =>
    cases nn with
    | false =>
      obtain ⟨rfl, h0⟩ := hs.1 rfl; exact ⟨fun hp => (by rw [d.len_cz, h0, Nat.zero_mul] at hp; omega), fun _ => .inl rfl⟩
    | true =>
      obtain ⟨b, m, cp, e1, rfl, e3, e4, e5⟩ := hs.2 rfl; refine ⟨fun hp => ?_, fun h0 => .inr ⟨_, cp, by rw [h0]⟩⟩; obtain ⟨b2, m2, hγ2, _, ca, hb, hsz, hle, hcl⟩ := hH.hp j _ hg (notNil_of_len hp); rw [e1] at hγ2; simp only [Option.some.injEq, Prod.mk.injEq] at hγ2; obtain ⟨rfl, rfl⟩ := hγ2; refine ⟨_, cp, _, rfl, hcl, by rw [← hcl.1, d.enc_len], fun q u hq => ?_⟩; rw [Pl.at_add, Nat.zero_add, (cell_of hb).1, ← Array.getElem?_toList]; rw [List.getElem?_take] at hq; split at hq
      · rw [List.getElem?_drop] at hq; exact hq
      · cases hq
theorem app_src (hT : TOk γ T tmps) (hH : HR γ w0 H n w) {t ty : TypeId} {ei : EI} (hei : elemInfo P t = some ei) {i z len : Nat} {nn nn' : Bool} {vs vx : Value} {c c' d : SyC} (hs : EC γ (.slO i z len nn) vs) (hg : H.get i = some (.seq ei.e c nn')) (h1 : z = ei.z) (hz1 : z = c.cz) (hz2 : z = d.cz) (h5 : Nat.ble i 65535 = true) (h6 : Nat.ble n 65535 = true) (hlen : len = c.cnt) (hroom : len + d.cnt ≤ 65536) (hnn : nn' = true ∨ nn = false) (happ : c'.enc = c.enc ++ d.enc) (hx : SrcOk γ w d vx) :
    ∃ γ' w' v', GLe γ γ' ∧ HR γ' w0 ((H.put i none).put n (some (.seq ei.e c' (bc nn true (Nat.blt 0 d.cnt))))) (Nat.succ n) w' ∧ (Builtin.append_ #[t, t] ty #[vs, vx]).run P w = .ok v' w' ∧ EC γ' (.slO n z (len + d.cnt) (bc nn true (Nat.blt 0 d.cnt))) v' := by
  have hlen' : len * z = c.len := by rw [hlen, hz1, c.len_cz]
  by_cases hm : 0 < d.cnt
  · have hb : Nat.blt 0 d.cnt = true := by unfold Nat.blt; exact Nat.ble_eq_true_of_le hm
    have hbb : bc nn true (Nat.blt 0 d.cnt) = true := by rw [hb]; cases nn <;> rfl
    rw [hbb]; have hzp : 0 < z := by
      obtain ⟨_, _, _, _, _, hsz, _, hpos, _⟩ := elemInfo_ok hei; omega
    have hdl : 0 < d.len := by rw [d.len_cz, ← hz2]; exact Nat.mul_pos hm hzp
    obtain ⟨a, ca, ns, rfl, g2, g3, g4⟩ := hx.1 hdl; exact yAppN_ok (ty := ty) (ca := ca) hT hH hei hs hg h1 hm h5 h6 d.enc_one hlen' hroom hnn happ g2 (by rw [g3, d.len_cz, ← hz2, h1]) g4
  · have hm0 : d.cnt = 0 := by omega
    have hbb : bc nn true (Nat.blt 0 d.cnt) = nn := by rw [hm0]; cases nn <;> rfl
    rw [hbb, hm0]; have hd0 : d.enc = [] := List.eq_nil_of_length_eq_zero (by rw [d.enc_len, d.len_cz, hm0, Nat.zero_mul]); rw [hd0, List.append_nil] at happ; obtain ⟨hu, inf, zv, hi, _⟩ := elemInfo_ok hei; have hvx := hx.2 hm0
    cases nn with
    | false =>
      obtain ⟨rfl, hl0⟩ := slO_nil hs; refine ⟨γ, w, .slice none 0 0, GLe.refl γ, ((hH.drop h5).more.nilSeq h6 ?_), append_none hu hi (Nat.le_refl _) hvx, .slO n z _ false _ ⟨fun _ => ⟨rfl, by omega⟩, fun e => by cases e⟩⟩; rw [happ]; exact List.eq_nil_of_length_eq_zero (by rw [c.enc_len, ← hlen', hl0, Nat.zero_mul])
    | true =>
      have hnn' : nn' = true := by
        rcases hnn with h | h
        · exact h
        · cases h
      subst hnn'
      cases hs with
      | slO _ _ _ _ _ hs =>
      obtain ⟨b, m, cp, e1, rfl, e3, e4, e5⟩ := hs.2 rfl; have hnil : ¬ (EK.seq ei.e c true).Nil := fun e => by cases e.1
      obtain ⟨b2, m2, g1, g2, g3⟩ := hH.hp i _ hg hnil; rw [e1] at g1; simp only [Option.some.injEq, Prod.mk.injEq] at g1; obtain ⟨rfl, rfl⟩ := g1; have hle := G.upd_le (p := (b, m)) (hH.fresh n (Nat.le_refl _)); have g4 : (EK.seq ei.e c' true).ok (γ.upd n (b, m)) b m w := by
        have := EK.ok_mono hle rfl g3; obtain ⟨ca, q1, q2, q3, q4⟩ := this; exact ⟨ca, q1, q2, by rw [happ]; exact q3, by rw [happ]; exact q4⟩
      exact ⟨γ.upd n (b, m), w, _, hle, hH.pass h6 h5 hg e1 b m _ (.inl rfl) (fun _ _ _ => rfl) (Nat.le_refl _) (hH.lt i _ e1) rfl rfl rfl g4 hnil, append_none hu hi e3 hvx, .slO n z _ true _ ⟨(fun e => by cases e), fun _ => ⟨b, m, cp, G.upd_same, rfl, e3, e4, e5⟩⟩⟩
end Go.Proofs.Ytooimphimnagaaa.Ev
namespace Go.Proofs.Ytooimphimnagaaa.Ev
open Go.RowKit
variable {P : Program} {γ γ' : G} {w0 : Bs} {w : World} {H H' : Tr EK} {n n' : Nat} {T : Tr EV} {tmps : Array Value} {o : Oper}

theorem bcC {a b : Bool} (h : bc a b false = true) : a = true ∧ b = true := by
  rw [bc_eq] at h; split at h
  · exact ⟨by assumption, h⟩
  · cases h

noncomputable def zeroRow (sh : List Sh) (zs : List Value) : Option (List U) := match recsU sh 1 (zs.map .v) with
  | some [r] => some r
  | _ => none
theorem zeroCellsE_add (zs : List Value) (k : Nat) : zeroCellsE zs (zs.length + k) = zs.map .v ++ zeroCellsE zs k := by
  unfold zeroCellsE; rw [List.range_add, List.map_append, List.map_map]; congr 1
  · apply List.ext_getElem?; intro j; rw [List.getElem?_map, List.getElem?_map]
    by_cases hj : j < zs.length
    · rw [List.getElem?_range hj, List.getElem?_eq_getElem hj]; simp [Nat.mod_eq_of_lt hj, hj]
    · rw [List.getElem?_eq_none (by simp; omega), List.getElem?_eq_none (by omega)]; rfl
  · apply List.map_congr_left; intro j _; show EV.v (zs.toArray[(zs.length + j) % zs.toArray.size]!) = _; rw [List.size_toArray, Nat.add_mod_left]
theorem zeroRows {sh : List Sh} {zs : List Value} {r0 : List U} (h : zeroRow sh zs = some r0) {γ : G} : ∀ (m : Nat) (vs : List Value), ECL γ (zeroCellsE zs (m * zs.length)) vs → ECL γ ((List.replicate m r0).flatMap (recE sh)) vs
  | 0, vs, hv => by
    have e : zeroCellsE zs (0 * zs.length) = [] := by rw [Nat.zero_mul]; rfl
    rw [e] at hv; exact hv
  | m + 1, vs, hv => by
    unfold zeroRow at h; have h0 := h; split at h
    case h_2 => cases h
    rename_i r hr; injection h with h; subst h
    rw [Nat.succ_mul, Nat.add_comm, zeroCellsE_add] at hv; have hl : (zs.map EV.v).length = zs.length := List.length_map ..; have h1 := hv.take zs.length; have h2 := hv.drop zs.length; rw [List.take_left' hl] at h1; rw [List.drop_left' hl] at h2; have h3 := (recsU_ok hr).2.2.2.2 γ _ h1; have h4 := zeroRows h0 m _ h2; have h5 := h3.append h4; rw [List.take_append_drop] at h5; simpa [List.replicate_succ] using h5

noncomputable def zMakeR (P : Program) (T : Tr EV) (t : TypeId) (len cap : Operand) (H : Tr EK) (n : Nat) : Option YR := match elemInfo P t with
  | some ei => match Sx.zeroL P ei.e with
    | some zs => match shOf P 6 ei.e with
      | some sh => match zeroRow sh zs with
        | some r0 => match intOf (exVal T len) with
          | some l => match intOf (exVal T cap) with
            | some c => bc (Nat.beq ei.z zs.length) (bc (Nat.ble n 65535) (some ⟨bc (decide (0 ≤ l)) (bc (decide (l = c)) (decide (c ≤ 65536)) false) false, ⟨some (.sl n ei.z 0 l.toNat none), H.put n (some (.seq ei.e (mkC sh (List.replicate l.toNat r0)) true)), Nat.succ n⟩⟩) none) none
            | none => none
          | none => none
        | none => none
      | none => none
    | none => none
  | none => none
theorem zMakeR_ok (hT : TOk γ T tmps) (hH : HR γ w0 H n w) {t : TypeId} {len cap : Operand} {r : YR} (ho : o.op = .makeSlice t len cap) (h : zMakeR P T t len cap H n = some r) (hc : r.c = true) : Gives P γ w0 w (execOp (opEval tmps) o) r.er.val r.er.H r.er.n := by
  unfold zMakeR at h; split at h
  case h_2 => cases h
  rename_i ei hei; obtain ⟨hu, inf, zv, hi, hz, hsz, hzs, hpos, hby⟩ := elemInfo_ok hei; split at h
  case h_2 => cases h
  rename_i zs hzs2; obtain ⟨inf2, zv2, hi2, hzv2, hzl⟩ := zero_of hzs2; rw [hi] at hi2; injection hi2 with hi2; subst hi2
  rw [hz] at hzv2; injection hzv2 with hzv2; subst hzv2
  split at h
  case h_2 => cases h
  rename_i sh hsh; split at h
  case h_2 => cases h
  rename_i r0 hr0; split at h
  case h_2 => cases h
  rename_i l hl; split at h
  case h_2 => cases h
  rename_i c hcp; rw [bc_eq] at h; split at h
  case isFalse => cases h
  rename_i hz1; rw [bc_eq] at h; split at h
  case isFalse => cases h
  rename_i hnb; injection h with h; subst h
  have hc : bc (decide (0 ≤ l)) (bc (decide (l = c)) (decide (c ≤ 65536)) false) false = true := hc; obtain ⟨h1, hc⟩ := bcC hc; obtain ⟨h2, h3⟩ := bcC hc; have h1 := of_decide_eq_true h1; have h2 := of_decide_eq_true h2; have h3 := of_decide_eq_true h3; subst h2; have hz1 := Nat.eq_of_beq_eq_true hz1; obtain ⟨l, rfl⟩ := Int.eq_ofNat_of_zero_le h1; obtain ⟨κ, hlen⟩ := intOf_ok hT hl; obtain ⟨κ2, hcap⟩ := intOf_ok hT hcp; show Gives P γ w0 w _ (some (.sl n ei.z 0 (Int.toNat (l : Int)) none)) (H.put n (some (.seq ei.e (mkC sh (List.replicate (Int.toNat (l : Int)) r0)) true))) (Nat.succ n)
  rw [Int.toNat_natCast]; have hb2 := Nat.mul_le_mul hby (show l ≤ 65536 by omega); have h8 : inf.bytes * l ≤ 281474976710656 := Nat.le_trans hb2 (Nat.le_of_ble_eq_true rfl); have h9 : (inf.bytes : Int) * (l : Int) ≤ 281474976710656 := by rw [← Int.natCast_mul]; omega
  have hr := run_make (P := P) w t ei.e inf zv hu hi hz κ κ2 (l : Int) (l : Int) (by omega) (by omega) h9 (by omega); rw [Int.toNat_natCast, hsz] at hr; have hcl : (madeCells zv.cells (l * ei.z)).size = l * ei.z := by rw [size_madeCells]
  have hγn := hH.fresh n (Nat.le_refl _); have e1 : zv.cells.toList = zs := hzl; have hall : ∀ γ : G, ECL γ (mkC sh (List.replicate l r0)).enc (madeCells zv.cells (l * ei.z)).toList := fun γ => by
    rw [mkC_enc]; refine zeroRows hr0 l _ ?_; rw [← hz1]; unfold madeCells; have e2 : zv.cells = zs.toArray := by apply Array.ext'; simpa using e1
    rw [e2]; exact zeroCellsE_ok zs _
  have hlen2 : (mkC sh (List.replicate l r0)).enc.length = l * ei.z := by rw [(hall γ).1, Array.length_toList, hcl]
  have hHn : HR (γ.upd n (⟨w.heap.size, 0⟩, l * ei.z)) w0 (H.put n (some (.seq ei.e (mkC sh (List.replicate l r0)) true))) (Nat.succ n) (w.alloc (.cells (madeCells zv.cells (l * ei.z)) ei.e)) := hH.new hnb (.cells (madeCells zv.cells (l * ei.z)) ei.e) (l * ei.z) (.seq ei.e (mkC sh (List.replicate l r0)) true) rfl rfl rfl rfl
    ⟨madeCells zv.cells (l * ei.z), .of (by show (w.heap.push _)[_]? = _; simp), by rw [hcl]; simp, by rw [hlen2]; omega, by
      rw [List.drop_zero, hlen2, List.take_of_length_le (by rw [Array.length_toList, hcl]; omega)]; exact hall _⟩
  refine ⟨γ.upd n (⟨w.heap.size, 0⟩, l * ei.z), w.alloc (.cells (madeCells zv.cells (l * ei.z)) ei.e), G.upd_le hγn, hHn, .slice (some ⟨w.heap.size, 0, none⟩) l l, ?_, ?_⟩
  · have hex : execOp (opEval tmps) o = (do pure (Next.value (← Instr.makeSlice t (.int κ l) (.int κ2 l))) : Sem Next) := by unfold execOp; rw [ho]; simp only [hlen, hcap]
    rw [hex]; exact run_v hr
  · exact .sl n ei.z 0 l none ⟨w.heap.size, 0⟩ (l * ei.z) l G.upd_same (Nat.le_refl _) (by unfold maxLen; omega) (by omega) (fun k e => by cases e) (fun _ => by omega)

noncomputable def SyC.drop (c : SyC) (k : Nat) : SyC := match c with
  | .ints q l => .ints q (l.drop k)
  | .bools l => .bools (l.drop k)
  | .strs l => .strs (l.drop k)
  | .recs sh l => .recs sh (l.drop k)
theorem recs_drop (sh : List Sh) (l : List (List U)) (k : Nat) : (l.drop k).flatMap (recE sh) = (l.flatMap (recE sh)).drop (k * sh.length) := by
  induction l generalizing k with
  | nil => simp
  | cons r l ih =>
    cases k with
    | zero => simp
    | succ k =>
      have e : (recE sh r).drop ((k + 1) * sh.length) = [] := List.drop_of_length_le (by rw [recE_len, Nat.succ_mul]; omega); rw [List.drop_succ_cons, List.flatMap_cons, ih, List.drop_append, e, recE_len, Nat.succ_mul, Nat.add_sub_cancel, List.nil_append]
theorem SyC.drop_enc2 (c : SyC) (k : Nat) : (c.drop k).enc = c.enc.drop (k * c.cz) := by
  cases c with
  | ints q l => show (l.drop k).map _ = (l.map _).drop (k * 1); rw [List.map_drop, Nat.mul_one]
  | bools l => show (l.drop k).map _ = (l.map _).drop (k * 1); rw [List.map_drop, Nat.mul_one]
  | strs l => show (l.drop k).map _ = (l.map _).drop (k * 1); rw [List.map_drop, Nat.mul_one]
  | recs sh l => exact recs_drop sh l k
theorem SyC.drop_cz (c : SyC) (k : Nat) : (c.drop k).cz = c.cz := by cases c <;> rfl
theorem SyC.take_cz2 (c : SyC) (k : Nat) : (c.take k).cz = c.cz := by cases c <;> rfl
theorem SyC.drop_cnt (c : SyC) (k : Nat) : (c.drop k).cnt = c.cnt - k := by
  cases c <;> exact List.length_drop
theorem SyC.take_cnt2 (c : SyC) (k : Nat) : (c.take k).cnt = min k c.cnt := by
  cases c <;> exact List.length_take


noncomputable def cpSrc (a : EV) (H : Tr EK) : Option (Bool × SyC × Nat) := match a with
  | .lst d => some (true, d, d.cnt)
  | .sl j z off len none => match H.get j with
    | some (.seq _ d true) => bc (Nat.beq z d.cz) (bc (Nat.ble j 65535) (some (bc (Nat.beq (off / z * z) off) (Nat.ble (off / z + len) d.cnt) false, (d.drop (off / z)).take len, len)) none) none
    | _ => none
  | _ => none
noncomputable def cpAll (c d : SyC) (lo k : Nat) : Option SyC := match (c.take lo).appS (d.take k) with
  | some e => e.appS (c.drop (lo + k))
  | none => none
noncomputable def zCopy (P : Program) (T : Tr EV) (args : List Operand) (ats : List TypeId) (H : Tr EK) (n : Nat) : Option YR := match args with
  | [x, y] => match ats with
    | [t, _] => match elemInfo P t with
      | some ei => match exVal T x with
        | some (.sl i z off len none) => match H.get i with
          | some (.seq ty c true) => match exVal T y with
            | some b => match cpSrc b H with
              | some (c1, d, m) => match cpAll c d (off / z) (min m len) with
                | some c' => bc (Nat.beq z ei.z) (bc (Nat.beq z c.cz) (bc (Nat.beq z d.cz) (bc (Nat.ble i 65535)
                    (some ⟨bc c1 (bc (Nat.beq (off / z * z) off) (Nat.ble (off / z + min m len) c.cnt) false) false, ⟨some (.v (.int .i64 (Int.ofNat (min m len)))), H.put i (some (.seq ty c' true)), n⟩⟩) none) none) none) none
                | none => none
              | none => none
            | none => none
          | _ => none
        | _ => none
      | none => none
    | _ => none
  | _ => none
theorem cpSrc_ok (hH : HR γ w0 H n w) {a : EV} {vx : Value} {c1 : Bool} {d : SyC} {m : Nat} (ha : EC γ a vx) (h : cpSrc a H = some (c1, d, m)) (hc : c1 = true) : d.cnt = m ∧ SrcOk γ w d vx := by
  unfold cpSrc at h; split at h
  · rename_i d'; simp only [Option.some.injEq, Prod.mk.injEq] at h; obtain ⟨_, rfl, rfl⟩ := h; exact ⟨rfl, lst_src hH ha⟩
  · rename_i j z off len; split at h
    case h_2 => cases h
    rename_i ty d' hg; rw [bc_eq] at h; split at h
    case isFalse => cases h
    rename_i hz; rw [bc_eq] at h; split at h
    case isFalse => cases h
    rename_i hj; simp only [Option.some.injEq, Prod.mk.injEq] at h; obtain ⟨rfl, rfl, rfl⟩ := h; obtain ⟨k1, k2⟩ := bcC hc; have k1 := Nat.eq_of_beq_eq_true k1; have k2 := Nat.le_of_ble_eq_true k2; have hz := Nat.eq_of_beq_eq_true hz; have hcnt : ((d'.drop (off / z)).take len).cnt = len := by rw [SyC.take_cnt2, SyC.drop_cnt]; omega
    have hcz : ((d'.drop (off / z)).take len).cz = z := by rw [SyC.take_cz2, SyC.drop_cz, hz]
    refine ⟨hcnt, ?_⟩; have henc : ((d'.drop (off / z)).take len).enc = (d'.enc.drop off).take (len * z) := by
      rw [SyC.take_enc2, SyC.drop_enc2, SyC.drop_cz, ← hz, k1]
    have hnil : ¬ (EK.seq ty d' true).Nil := fun e => by cases e.1
    cases ha with
    | sl _ _ _ _ _ b mm cp q1 q2 q3 q4 q5 q6 =>
      obtain ⟨b2, m2, hγ2, _, ca, hb, hsz, hle, hcl⟩ := hH.hp j _ hg hnil; rw [q1] at hγ2; simp only [Option.some.injEq, Prod.mk.injEq] at hγ2; obtain ⟨rfl, rfl⟩ := hγ2; have hlz : off + len * z ≤ d'.enc.length := by
        rw [d'.enc_len, d'.len_cz, ← hz]; have := Nat.mul_le_mul_right z k2; rw [Nat.add_mul, k1] at this; exact this
      refine ⟨fun _ => ⟨b.at off, cp, ((((ca.toList.drop b.s).take d'.enc.length).drop off).take (len * z)), by rw [hcnt], ?_, ?_, fun q u hq => ?_⟩, fun h0 => .inr ⟨_, cp, by rw [← hcnt, h0]⟩⟩
      · rw [henc]; have := (hcl.drop off).take (len * z); exact this
      · rw [← (show ((d'.drop (off / z)).take len).enc.length = _ from SyC.enc_len _), henc]
        have := ((hcl.drop off).take (len * z)).1; exact this.symm
      · rw [List.getElem?_take] at hq; split at hq
        case isFalse => cases hq
        rename_i hql; rw [List.getElem?_drop, List.getElem?_take] at hq; split at hq
        case isFalse => cases hq
        rw [List.getElem?_drop] at hq; rw [Pl.at_add, (cell_of hb).1, ← Array.getElem?_toList]; exact hq
  · cases h
theorem cpAll_enc {c d c' : SyC} {lo k : Nat} (h : cpAll c d lo k = some c') (hz : d.cz = c.cz) (hk : k ≤ d.cnt) : c'.enc = Sx.putAt c.enc (lo * c.cz) ((d.take k).enc) := by
  unfold cpAll at h; split at h
  case h_2 => cases h
  rename_i e he; have h1 := SyC.appS_enc he; have h2 := SyC.appS_enc h; rw [h2, h1, SyC.take_enc2 c, SyC.drop_enc2]; unfold Sx.putAt; rw [SyC.enc_len (d.take k), SyC.len_cz, SyC.take_cnt2, SyC.take_cz2, hz, Nat.min_eq_left hk, Nat.add_mul]
theorem zCopy_ok (hT : TOk γ T tmps) (hH : HR γ w0 H n w) {args : Array Operand} {ats : Array TypeId} {r : YR} (ho : o.op = .call { callee := .builtin .copy, args := args, argTypes := ats }) (h : zCopy P T args.toList ats.toList H n = some r) (hc : r.c = true) :
    Gives P γ w0 w (execOp (opEval tmps) o) r.er.val r.er.H r.er.n := by
  unfold zCopy at h; split at h
  case h_2 => cases h
  rename_i x y hargs; split at h
  case h_2 => cases h
  rename_i t u hats; split at h
  case h_2 => cases h
  rename_i ei hei; obtain ⟨hu, inf, zv, hi, hz, hsz, hzs, hpos, hby⟩ := elemInfo_ok hei; split at h
  case h_2 => cases h
  rename_i i z off len hx; split at h
  case h_2 => cases h
  rename_i ty c hg; split at h
  case h_2 => cases h
  rename_i b hy; split at h
  case h_2 => cases h
  rename_i c1 d m hsrc; split at h
  case h_2 => cases h
  rename_i c' hall; rw [bc_eq] at h; split at h
  case isFalse => cases h
  rename_i e1; rw [bc_eq] at h; split at h
  case isFalse => cases h
  rename_i e2; rw [bc_eq] at h; split at h
  case isFalse => cases h
  rename_i e3; rw [bc_eq] at h; split at h
  case isFalse => cases h
  rename_i hib; injection h with h; subst h
  obtain ⟨k1, hc⟩ := bcC hc; obtain ⟨k2, k3⟩ := bcC hc; have k2 := Nat.eq_of_beq_eq_true k2; have k3 := Nat.le_of_ble_eq_true k3; have e1 := Nat.eq_of_beq_eq_true e1; have e2 := Nat.eq_of_beq_eq_true e2; have e3 := Nat.eq_of_beq_eq_true e3; obtain ⟨hm, hs⟩ := cpSrc_ok hH (exVal_ok hT hy) hsrc k1; have hnil : ¬ (EK.seq ty c true).Nil := fun e => by cases e.1
  have hdl : d.len = m * z := by rw [d.len_cz, hm, ← e3]
  have hkm : min m len ≤ d.cnt := by omega
  -- the source's cells
  have hsrc2 : ∃ xs, ECL γ (d.take (min m len)).enc xs ∧ (Builtin.firstCells inf.size (min m len) (opEval tmps y)).run P w = .ok xs.toArray w ∧ (∃ sa cp, opEval tmps y = .slice sa m cp) := by
    by_cases h0 : 0 < m
    · obtain ⟨a, ca, ns, hv, g2, g3, g4⟩ := hs.1 (by rw [hdl]; exact Nat.mul_pos h0 (by omega)); refine ⟨ns.take (min m len * z), by rw [SyC.take_enc2, ← e3]; exact g2.take _, ?_, ⟨_, _, by rw [hv, hm]⟩⟩; rw [hv]; refine run_firstCells_some (P := P) w inf.size (min m len) a d.cnt ca _ ?_ fun j u hj => ?_
      · have : min m len * z ≤ m * z := Nat.mul_le_mul_right _ (by omega); rw [List.length_take, g3, hdl, hsz, ← e1]; omega
      · rw [List.getElem?_take] at hj; split at hj
        · exact g4 j u hj
        · cases hj
    · have h0 : m = 0 := by omega
      have hk0 : min m len = 0 := by omega
      refine ⟨[], ?_, ?_, ?_⟩
      · rw [hk0, SyC.take_enc2, Nat.zero_mul]; exact ECL.nil _
      · rw [hk0]; rcases hs.2 (by omega) with hv | ⟨a, cp, hv⟩
        · rw [hv]; rfl
        · rw [hv]; exact run_firstCells_some (P := P) w inf.size 0 a 0 cp [] (by simp) (by simp)
      · rcases hs.2 (by omega) with hv | ⟨a, cp, hv⟩
        · exact ⟨_, _, by rw [hv, h0]⟩
        · exact ⟨_, _, by rw [hv, h0]⟩
  obtain ⟨xs, hxs, hfc, sa, cp2, hyv⟩ := hsrc2
  -- the block as plain cells
  have hcs := hH.recast hib hg hnil (k := .cells ty c.enc false) (fun b m => seq_cells); have hgc : (H.put i (some (EK.cells ty c.enc false))).get i = some (.cells ty c.enc false) := by rw [Tr.get_put hib, if_pos rfl]
  obtain ⟨b1, m1, q1, hγ1, hx1, _⟩ := ec_sl (exVal_ok hT hx); have henc := cpAll_enc hall (by omega) hkm; have hoff : off / z * c.cz = off := by rw [← e2, k2]
  rw [hoff] at henc; have hlen1 : ((d.take (min m len)).enc).length = min m len * z := by rw [SyC.enc_len, SyC.len_cz, SyC.take_cnt2, SyC.take_cz2, ← e3, Nat.min_eq_left hkm]
  have hput : exPutL i off (d.take (min m len)).enc (H.put i (some (.cells ty c.enc false))) = some ((H.put i (some (.cells ty c.enc false))).put i (some (.cells ty (Sx.putAt c.enc off (d.take (min m len)).enc) false))) := by
    unfold exPutL cellsAt; rw [hgc]; show bc _ _ _ = _; rw [bc_eq, if_pos, bc_eq, if_pos, bc_eq, if_pos hib]
    · rw [SyC.enc_one]
    · refine Nat.ble_eq_true_of_le ?_; rw [llen_eq, llen_eq, hlen1, SyC.enc_len, SyC.len_cz, ← e2]; have : (off / z + min m len) * z ≤ c.cnt * z := Nat.mul_le_mul_right _ k3; rw [Nat.add_mul, k2] at this; exact this
  obtain ⟨g1, g2⟩ := exPutL_ok (P := P) hcs hxs hput hγ1; have g3 : HR γ w0 (H.put i (some (.seq ty c' true))) n (w.setCells b1.k (b1.s + off) xs) := by
    have hg3 : ((H.put i (some (EK.cells ty c.enc false))).put i (some (.cells ty (Sx.putAt c.enc off (d.take (min m len)).enc) false))).get i = some (.cells ty (Sx.putAt c.enc off (d.take (min m len)).enc) false) := by rw [Tr.get_put hib, if_pos rfl]
    have := g1.recast hib (k := .seq ty c' true) hg3 id fun b m => cells_seq henc.symm; refine this.congr fun j k hj => ?_; rw [Tr.get_put hib] at hj ⊢; split at hj
    · rename_i e; rw [if_pos e]; exact hj
    · rename_i e; rw [if_neg e, Tr.get_put hib, if_neg e, Tr.get_put hib, if_neg e]; exact hj
  have ha2 : args = #[x, y] := by apply Array.ext'; simpa using hargs
  have ha3 : ats = #[t, u] := by apply Array.ext'; simpa using hats
  subst ha2; subst ha3; refine ⟨γ, _, GLe.refl γ, g3, .int .i64 (min m len : Nat), ?_, .v _⟩; have hcp : (Builtin.copy_ #[t, u] o.type #[opEval tmps x, opEval tmps y]).run P w = .ok (.int .i64 (min m len : Nat)) (w.setCells b1.k (b1.s + off) xs) := by
    rw [hyv] at hfc; rw [hx1, hyv]; unfold Builtin.copy_; simp only [Sem.run_bind, run_underlying hu, Result.andThen_ok, Builtin.lenOf, Sem.run_pure, sizeOf, typeInfo, List.getElem?_toArray, List.getElem?_cons_zero, List.getElem?_cons_succ]; have hmin : Nat.min m len = min m len := rfl; simp [hi, hmin, hfc, g2, goInt]
  simp [execOp, ho, resolve, invoke, builtin, hcp]
end Go.Proofs.Ytooimphimnagaaa.Ev
namespace Go.Proofs.Ytooimphimnagaaa.Ev
open Go.RowKit
variable {P : Program} {γ γ' : G} {w0 : Bs} {w : World} {H H' : Tr EK} {n n' : Nat} {T : Tr EV} {tmps : Array Value} {o : Oper}


noncomputable def bsArr (P : Program) (T : Tr EV) (t : TypeId) (len : Nat) (parts : Array (Nat × Operand)) : Option (Bool × TypeId × Nat × SyC) := match elemOf P t with
  | some e => match Sx.zeroL P e with
    | some _ => match Sx.sizeB P e with
      | some m => match parts.toList with
        | [p] => match exVal T p.2 with
          | some (.arr d) => match d.vals with
            | some _ => bc (Nat.beq len 1) (bc (Nat.beq p.1 0) (bc (Nat.blt 0 m) (bc (Nat.ble m 65536) (some (Nat.beq d.cnt m, e, m, d)) none) none) none) none
            | none => none
          | _ => none
        | _ => none
      | none => none
    | none => none
  | none => none
theorem bsArr_core {t : TypeId} {len : Nat} {parts : Array (Nat × Operand)} {c : Bool} {e : TypeId} {m : Nat} {d : SyC} (h : bsArr P T t len parts = some (c, e, m, d)) (hc : c = true) : len = 1 ∧ bsCore P T t len parts = some (e, m, d.enc) ∧ d.enc.length = m ∧ d.cz = 1 := by
  unfold bsArr at h; split at h
  case h_2 => cases h
  rename_i e' he; split at h
  case h_2 => cases h
  rename_i zs hzs; split at h
  case h_2 => cases h
  rename_i m' hm; split at h
  case h_2 => cases h
  rename_i p hp; split at h
  case h_2 => cases h
  rename_i d' hd; split at h
  case h_2 => cases h
  rename_i vs hvs; rw [bc_eq] at h; split at h
  case isFalse => cases h
  rename_i h1; rw [bc_eq] at h; split at h
  case isFalse => cases h
  rename_i h2; rw [bc_eq] at h; split at h
  case isFalse => cases h
  rename_i h3; rw [bc_eq] at h; split at h
  case isFalse => cases h
  rename_i h4; simp only [Option.some.injEq, Prod.mk.injEq] at h; obtain ⟨rfl, rfl, rfl, rfl⟩ := h; have h1 := Nat.eq_of_beq_eq_true h1; have h2 := Nat.eq_of_beq_eq_true h2; subst h1; have hcm := Nat.eq_of_beq_eq_true hc; obtain ⟨_, hz⟩ := SyC.vals_len hvs; have hl : d'.enc.length = m' := by rw [d'.enc_len, d'.len_cz, hz]; omega
  refine ⟨rfl, ?_, hl, hz⟩; obtain ⟨p1, p2⟩ := p; have h2 : p1 = 0 := h2; subst h2; have hps : exParts T parts.toList = some [(0, .arr d')] := by
    rw [hp]; show (match exVal T p2 with
      | some a => match exParts T [] with
        | some r => some ((0, a) :: r)
        | none => none
      | none => none) = _
    rw [hd]; rfl
  unfold bsCore; rw [he]; simp only [hzs, hm, hps]; have e1 : Nat.mul 1 m' = m' := Nat.one_mul m'; rw [e1]; have hzl : (zeroCellsE zs m').length = m' := by unfold zeroCellsE; simp
  have hf : fillE (fun i => some (Nat.mul i m', m')) [(0, .arr d')] (zeroCellsE zs m') = some d'.enc := by
    show bc (Nat.beq (llen d'.enc) m') (bc (Nat.ble (Nat.add (Nat.mul 0 m') m') (llen (zeroCellsE zs m'))) (some (Sx.putAt (zeroCellsE zs m') (Nat.mul 0 m') d'.enc)) none) none = _; rw [llen_eq, llen_eq, hl, hzl, show Nat.mul 0 m' = 0 from Nat.zero_mul m', show Nat.add 0 m' = m' from Nat.zero_add m']
    rw [bc_eq, if_pos (Nat.beq_refl m'), bc_eq, if_pos (Nat.ble_eq_true_of_le (Nat.le_refl m')), putAt_eq (by omega), List.take_zero, List.nil_append, List.drop_of_length_le (by omega), List.append_nil]
  rw [hf]; rw [bc_eq, if_pos h3, bc_eq, if_pos h4]; rfl
noncomputable def zBuildF (P : Program) (T : Tr EV) (t : TypeId) (len : Nat) (parts : Array (Nat × Operand)) (H : Tr EK) (n : Nat) : Option YR := match bsArr P T t len parts with
  | some (c, e, m, d) => bc (Nat.ble n 65535) (some ⟨c, ⟨some (.slO n m 1 true), H.put n (some (.seq e d true)), Nat.succ n⟩⟩) none
  | none => none
theorem zBuildF_ok (hT : TOk γ T tmps) (hH : HR γ w0 H n w) {t : TypeId} {len : Nat} {parts : Array (Nat × Operand)} {r : YR} (ho : o.op = .buildSlice t len parts) (h : zBuildF P T t len parts H n = some r) (hc : r.c = true) : Gives P γ w0 w (execOp (opEval tmps) o) r.er.val r.er.H r.er.n := by
  unfold zBuildF at h; split at h
  case h_2 => cases h
  rename_i c e m d hb; rw [bc_eq] at h; split at h
  case isFalse => cases h
  rename_i hnb; injection h with h; subst h
  obtain ⟨rfl, hcore, hl, _⟩ := bsArr_core hb hc; obtain ⟨ca, hr, hcs, hs, _⟩ := bsCore_ok (γ := γ) hT ho hcore w; obtain ⟨γ2, w2, k1, k2, x, k3, k4⟩ := gives_new (P := P) (a := .slO n m 1 true) hH hnb hcs hr fun γ' e => .slO n m 1 true _ ⟨(fun e => by cases e), fun _ => ⟨⟨w.heap.size, 0⟩, ca.size, 1, e, rfl, Nat.le_refl _, by unfold maxLen; omega, .inl (by rw [hs])⟩⟩; exact ⟨γ2, w2, k1, k2.newSeq hnb fun γ vs hv => hv, x, k3, k4⟩

noncomputable def apF (ei : EI) (i z len : Nat) (nn : Bool) (d : SyC) (z2 len2 : Nat) (H : Tr EK) (n : Nat) : Option YR := match H.get i with
  | some (.seq ty c nn') => match c.appS d with
    | some c' => bc (Nat.beq z ei.z) (bc (Nat.beq z2 z) (bc (Nat.beq c.cz 1) (bc (Nat.beq ty ei.e) (bc (Nat.ble i 65535) (bc (Nat.ble n 65535)
        (some ⟨bc (Nat.beq (Nat.mul len z) c.cnt) (bc (Nat.beq (Nat.mul len2 z) d.cnt) (bc (Nat.blt 0 len2) (bc (Nat.ble (len + len2) 65536) (bc nn' true (bc nn false true)) false) false) false) false, ⟨some (.slO n z (len + len2) true), (H.put i none).put n (some (.seq ty c' true)), Nat.succ n⟩⟩) none) none) none) none) none) none
    | none => none
  | _ => none
theorem seq_srcF (hH : HR γ w0 H n w) {j z len : Nat} {nn nn' : Bool} {ty : TypeId} {d : SyC} {vx : Value} (hg : H.get j = some (.seq ty d nn')) (hx : EC γ (.slO j z len nn) vx) (hl : 0 < len) (hd : 0 < d.len) : ∃ a ca ns, vx = .slice (some a) len ca ∧ ECL γ d.enc ns ∧ ns.length = d.len ∧ ∀ q u, ns[q]? = some u → w.cell? (a.add q) = some u := by
  cases hx with
  | slO _ _ _ _ _ hs =>
    cases nn with
    | false => have := (hs.1 rfl).2; omega
    | true =>
      obtain ⟨b, m, cp, e1, rfl, e3, e4, e5⟩ := hs.2 rfl; obtain ⟨b2, m2, hγ2, _, ca, hb, hsz, hle, hcl⟩ := hH.hp j _ hg (notNil_of_len hd); rw [e1] at hγ2; simp only [Option.some.injEq, Prod.mk.injEq] at hγ2; obtain ⟨rfl, rfl⟩ := hγ2; refine ⟨_, cp, _, rfl, hcl, by rw [← hcl.1, d.enc_len], fun q u hq => ?_⟩; rw [Pl.at_add, Nat.zero_add, (cell_of hb).1, ← Array.getElem?_toList]; rw [List.getElem?_take] at hq; split at hq
      · rw [List.getElem?_drop] at hq; exact hq
      · cases hq
theorem SyC.appS_cz {c d e : SyC} (h : c.appS d = some e) : e.cz = c.cz ∧ d.cz = c.cz := by
  cases c with
  | ints k l => cases d with
    | ints q m =>
      have h' : bc (decide (k = q)) (some (SyC.ints k (l ++ m))) none = some e := h; rw [bc_eq] at h'; split at h'
      case isFalse => cases h'
      injection h' with h'; subst h'
      exact ⟨rfl, rfl⟩
    | _ => cases h
  | bools l => cases d with
    | bools m => injection (show some (SyC.bools (l ++ m)) = some e from h) with h'; subst h'; exact ⟨rfl, rfl⟩
    | _ => cases h
  | strs l => cases d with
    | strs m => injection (show some (SyC.strs (l ++ m)) = some e from h) with h'; subst h'; exact ⟨rfl, rfl⟩
    | _ => cases h
  | recs sh l => cases d with
    | recs sh' m =>
      have h' : bc (shsEq sh sh') (some (SyC.recs sh (l ++ m))) none = some e := h; rw [bc_eq] at h'; split at h'
      case isFalse => cases h'
      rename_i hs; injection h' with h'; subst h'
      exact ⟨rfl, by rw [shsEq_ok hs]; rfl⟩
    | _ => cases h
theorem apF_ok (hT : TOk γ T tmps) (hH : HR γ w0 H n w) {t ty : TypeId} {ei : EI} (hei : elemInfo P t = some ei) {i z len j z2 len2 : Nat} {nn nn2 nn3 : Bool} {ty2 : TypeId} {vs vx : Value} {d : SyC} {r : YR} (hs : EC γ (.slO i z len nn) vs) (hgj : H.get j = some (.seq ty2 d nn3)) (hx : EC γ (.slO j z2 len2 nn2) vx) (h : apF ei i z len nn d z2 len2 H n = some r) (hc : r.c = true) :
    ∃ γ' w' v', GLe γ γ' ∧ HR γ' w0 r.er.H r.er.n w' ∧ (Builtin.append_ #[t, t] ty #[vs, vx]).run P w = .ok v' w' ∧ ∃ a, r.er.val = some a ∧ EC γ' a v' := by
  unfold apF at h; split at h
  case h_2 => cases h
  rename_i ty' c nn' hg; split at h
  case h_2 => cases h
  rename_i c' happ; rw [bc_eq] at h; split at h
  case isFalse => cases h
  rename_i h1; rw [bc_eq] at h; split at h
  case isFalse => cases h
  rename_i h2; rw [bc_eq] at h; split at h
  case isFalse => cases h
  rename_i h3; rw [bc_eq] at h; split at h
  case isFalse => cases h
  rename_i h4; rw [bc_eq] at h; split at h
  case isFalse => cases h
  rename_i h5; rw [bc_eq] at h; split at h
  case isFalse => cases h
  rename_i h6; injection h with h; subst h
  obtain ⟨k1, hc⟩ := bcC hc; obtain ⟨k2, hc⟩ := bcC hc; obtain ⟨k3, hc⟩ := bcC hc; obtain ⟨k4, hc5⟩ := bcC hc; have h1 := Nat.eq_of_beq_eq_true h1; have h2 := Nat.eq_of_beq_eq_true h2; subst h2; have h3 := Nat.eq_of_beq_eq_true h3; have h4 := Nat.eq_of_beq_eq_true h4; subst h4; have k1 : len * z2 = c.cnt := Nat.eq_of_beq_eq_true k1; have k2 : len2 * z2 = d.cnt := Nat.eq_of_beq_eq_true k2; have k3 := blt_lt k3; have k4 := Nat.le_of_ble_eq_true k4; obtain ⟨_, hdz⟩ := SyC.appS_cz happ; have hzp : 0 < z2 := by
    obtain ⟨_, _, _, _, _, hsz, _, hpos, _⟩ := elemInfo_ok hei; omega
  have hdl : d.len = len2 * z2 := by rw [d.len_cz, hdz, h3, ← k2, Nat.mul_one]
  have hdp : 0 < d.len := by rw [hdl]; exact Nat.mul_pos k3 hzp
  obtain ⟨a, ca, ns, rfl, g1, g2, g3⟩ := seq_srcF hH hgj hx k3 hdp; have hnn : nn' = true ∨ nn = false := by
    cases nn' with
    | true => exact .inl rfl
    | false => cases nn with
      | false => exact .inr rfl
      | true => exact absurd hc5 (by decide)
  obtain ⟨γ', w', v', q1, q2, q3, q4⟩ := yAppN_ok (ty := ty) (ca := ca) hT hH hei hs hg h1 k3 h5 h6 d.enc_one (by rw [c.len_cz, h3, k1, Nat.mul_one]) k4 hnn (SyC.appS_enc happ) g1 (by rw [g2, hdl, h1]) g3; exact ⟨γ', w', v', q1, q2, q3, _, rfl, q4⟩

noncomputable def flatX (x : EV) (H : Tr EK) : Option SyC := match x with
  | .slO j z2 _ _ => match H.get j with
    | some (.seq _ d _) => bc (Nat.beq d.cz 1) (bc (Nat.beq z2 1) none (some d)) none
    | _ => none
  | _ => none

noncomputable def cutU (z cz : Nat) : Option Nat := bc (Nat.beq z cz) (some 1) (bc (Nat.beq cz 1) (some z) none)
theorem cutU_ok {z cz u : Nat} (h : cutU z cz = some u) : u * cz = z := by
  unfold cutU at h; rw [bc_eq] at h; split at h
  · rename_i e; injection h with h; subst h
    rw [Nat.one_mul]; exact (Nat.eq_of_beq_eq_true e).symm
  · rw [bc_eq] at h; split at h
    case isFalse => cases h
    rename_i e; injection h with h; subst h
    rw [Nat.eq_of_beq_eq_true e, Nat.mul_one]
noncomputable def zCutF (P : Program) (T : Tr EV) (t : TypeId) (x : Operand) (lo hi mx : Option Operand) (H : Tr EK) (n : Nat) : Option YR := match mx with
  | some _ => none
  | none => match exVal T x with
    | some (.slO i z len nn) => match H.get i with
      | some (.seq ty c nn') => match Sx.slZ P t with
        | some z' => match cutU z c.cz with
          | some u => bc (Nat.beq z z') (bc (Nat.ble i 65535) (match lo with
            | none => match hi with
              | none => none
              | some y => bc (Nat.beq z c.cz) none (match intOf (exVal T y) with
                | some k => some ⟨bc (decide (0 ≤ k)) (bc (Nat.ble k.toNat len) (Nat.beq (Nat.mul len u) c.cnt) false) false, ⟨some (.slO i z k.toNat nn), H.put i (some (.seq ty (c.take (k.toNat * u)) nn')), n⟩⟩
                | none => none)
            | some y => match hi with
              | some _ => none
              | none => match intOf (exVal T y) with
                | some k => bc (Nat.ble n 65535) (some ⟨bc nn (bc nn' (bc (decide (0 ≤ k)) (bc (Nat.ble k.toNat len) (Nat.beq (Nat.mul len u) c.cnt) false) false) false) false, ⟨some (.slO n z (len - k.toNat) true), (H.put i none).put n (some (.seq ty (c.drop (k.toNat * u)) true)), Nat.succ n⟩⟩) none
                | none => none) none) none
          | none => none
        | none => none
      | _ => none
    | _ => none
theorem zCutF_ok (hT : TOk γ T tmps) (hH : HR γ w0 H n w) {t : TypeId} {x : Operand} {lo hi mx : Option Operand} {r : YR} (ho : o.op = .slice t x lo hi mx) (h : zCutF P T t x lo hi mx H n = some r) (hc : r.c = true) : Gives P γ w0 w (execOp (opEval tmps) o) r.er.val r.er.H r.er.n := by
  unfold zCutF at h; split at h
  · cases h
  have hex : ∀ s : Value, opEval tmps x = s → execOp (opEval tmps) o = (do pure (Next.value (← Instr.sliceAt t s (lo.map (opEval tmps)) (hi.map (opEval tmps)) none)) : Sem Next) := fun s hs => by
    unfold execOp; rw [ho]; simp only [hs]; rfl
  split at h
  case h_2 => cases h
  rename_i i z len nn hx; split at h
  case h_2 => cases h
  rename_i ty c nn' hg; split at h
  case h_2 => cases h
  rename_i z' hz; split at h
  case h_2 => cases h
  rename_i u hu0; have hu1 := cutU_ok hu0; rw [bc_eq] at h; split at h
  case isFalse => cases h
  rename_i hzz; have hzz := Nat.eq_of_beq_eq_true hzz; subst hzz; rw [bc_eq] at h; split at h
  case isFalse => cases h
  rename_i hib; obtain ⟨e, inf, hu, hinf, hsz⟩ := Sx.slZ_spec hz; have hs := exVal_ok hT hx; generalize hxx : opEval tmps x = xx at hs; split at h
  · -- from the beginning
    split at h
    · cases h
    rename_i y; rw [bc_eq] at h; split at h
    case isTrue => cases h
    split at h
    case h_2 => cases h
    rename_i k hy; injection h with h; subst h
    obtain ⟨h1, hc⟩ := bcC hc; obtain ⟨h2, h3⟩ := bcC hc; have h1 := of_decide_eq_true h1; have h2 := Nat.le_of_ble_eq_true h2; have h3 : len * u = c.cnt := Nat.eq_of_beq_eq_true h3; obtain ⟨q, rfl⟩ := Int.eq_ofNat_of_zero_le h1; rw [Int.toNat_natCast] at h2; show Gives P γ w0 w _ (some (.slO i z (Int.toNat (q : Int)) nn)) (H.put i (some (.seq ty (c.take (Int.toNat (q : Int) * u)) nn'))) n; rw [Int.toNat_natCast]; have hH2 : HR γ w0 (H.put i (some (.seq ty (c.take (q * u)) nn'))) n w := hH.recastSeq hib hg ⟨_, SyC.take_enc2 _ _⟩
    cases hs with
    | slO _ _ _ _ _ hs =>
      cases nn with
      | false =>
        obtain ⟨rfl, hl⟩ := hs.1 rfl; subst hl; have hk0 : q = 0 := by omega
        subst hk0; refine gives_value (x := .slice none 0 0) ?_ (.slO i z 0 false _ ⟨fun _ => ⟨rfl, rfl⟩, fun e => by cases e⟩) hH2; rw [hex _ hxx]; refine run_v ?_; have hb := run_boundsI (P := P) hT (isS := true) (lo := none) (hi := some y) (len := 0) (cap := 0) (l := 0) (h := 0) rfl hy (Nat.le_refl _) (Nat.le_refl _) w; simp [Instr.sliceAt, Instr.slice, run_underlying hu, sizeOf, typeInfo, hinf, hsz]; simp at hb; simp [hb]
      | true =>
        obtain ⟨b, m, cp, hγ, rfl, hlc, hcm, hcz⟩ := hs.2 rfl; have hkc : q ≤ cp := by omega
        refine gives_value (x := .slice (some (b.at 0)) q cp) ?_ (.slO i z q true _ ⟨(fun e => by cases e), fun _ => ⟨b, m, cp, hγ, rfl, hkc, hcm, hcz⟩⟩) hH2; rw [hex _ hxx]; refine run_v ?_; have hb := run_boundsI (P := P) hT (isS := true) (lo := none) (hi := some y) (len := len) (cap := cp) (l := 0) (h := q) rfl hy (Nat.zero_le _) hkc w; simp at hb; simp [Instr.sliceAt, Instr.slice, run_underlying hu, hb, sizeOf, typeInfo, hinf, hsz, Pl.at_add]
  · -- up to the end
    rename_i y; split at h
    · cases h
    split at h
    case h_2 => cases h
    rename_i k hy; rw [bc_eq] at h; split at h
    case isFalse => cases h
    rename_i hnb; injection h with h; subst h
    obtain ⟨h5, hc⟩ := bcC hc; obtain ⟨h6, hc⟩ := bcC hc; obtain ⟨h1, hc⟩ := bcC hc; obtain ⟨h2, h3⟩ := bcC hc; subst h5; subst h6; have h1 := of_decide_eq_true h1; have h2 := Nat.le_of_ble_eq_true h2; have h3 : len * u = c.cnt := Nat.eq_of_beq_eq_true h3; obtain ⟨q, rfl⟩ := Int.eq_ofNat_of_zero_le h1; rw [Int.toNat_natCast] at h2; show Gives P γ w0 w _ (some (.slO n z (len - Int.toNat (q : Int)) true)) ((H.put i none).put n (some (.seq ty (c.drop (Int.toNat (q : Int) * u)) true))) (Nat.succ n); rw [Int.toNat_natCast]
    cases hs with
    | slO _ _ _ _ _ hs =>
      obtain ⟨b, m, cp, hγ, rfl, hlc, hcm, hcz⟩ := hs.2 rfl; have hnil : ¬ (EK.seq ty c true).Nil := fun e => by cases e.1
      obtain ⟨b2, m2, g1, g2, ca, g3, g4, g5, g6⟩ := hH.hp i _ hg hnil; rw [hγ] at g1; simp only [Option.some.injEq, Prod.mk.injEq] at g1; obtain ⟨rfl, rfl⟩ := g1; have hb := run_boundsI (P := P) hT (isS := true) (lo := some y) (hi := none) (len := len) (cap := cp) (l := q) (h := len) hy rfl h2 hlc w; have henc : (c.drop (q * u)).enc = c.enc.drop (q * z) := by rw [SyC.drop_enc2, Nat.mul_assoc, hu1]
      have hel : c.enc.length = len * z := by rw [c.enc_len, c.len_cz, ← h3, Nat.mul_assoc, hu1]
      have hrun : (execOp (opEval tmps) o).run P w = .ok (.value (.slice (if cp = q then some (b.at 0) else some (b.at (q * z))) (len - q) (cp - q))) w := by
        rw [hex _ hxx]; refine run_v ?_; simp at hb; simp [Instr.sliceAt, Instr.slice, run_underlying hu, hb, sizeOf, typeInfo, hinf, hsz, Pl.at_add]
      by_cases hcq : cp = q
      · subst hcq; have hl : len = cp := by omega
        subst hl; rw [if_pos rfl, Nat.sub_self] at hrun; rw [Nat.sub_self]; have h0 : (c.drop (len * u)).enc = [] := by rw [henc]; exact List.drop_of_length_le (by omega)
        refine ⟨γ.upd n (b, m), w, G.upd_le (hH.fresh n (Nat.le_refl _)), ?_, _, hrun, .slO n z 0 true _ ⟨(fun e => by cases e), fun _ => ⟨b, m, 0, G.upd_same, rfl, Nat.le_refl _, Nat.zero_le _, .inr rfl⟩⟩⟩; exact hH.pass hnb hib hg hγ b m _ (.inl rfl) (fun _ _ _ => rfl) (Nat.le_refl _) (hH.lt i _ hγ) rfl rfl rfl ⟨ca, g3, g4, by rw [h0]; exact Nat.zero_le _, by rw [h0]; exact ECL.nil _⟩ hnil
      · rw [if_neg hcq] at hrun; have hcz : cp * z = m := hcz.resolve_right (by omega); have hqm : q * z ≤ m := by rw [← hcz]; exact Nat.mul_le_mul_right _ (by omega)
        refine ⟨γ.upd n (⟨b.k, b.s + q * z⟩, m - q * z), w, G.upd_le (hH.fresh n (Nat.le_refl _)), ?_, _, hrun, .slO n z (len - q) true _ ⟨(fun e => by cases e), fun _ => ⟨⟨b.k, b.s + q * z⟩, m - q * z, cp - q, G.upd_same, rfl, by omega, by omega, .inl (by rw [Nat.sub_mul, hcz])⟩⟩⟩; refine hH.pass hnb hib hg hγ ⟨b.k, b.s + q * z⟩ (m - q * z) _ (.inl rfl) (fun _ _ _ => rfl) (Nat.le_refl _) (hH.lt i _ hγ) rfl rfl rfl ⟨ca, g3, by show ca.size = b.s + q * z + (m - q * z); omega, by rw [henc, List.length_drop]; omega, ?_⟩ hnil; show ECL _ _ ((ca.toList.drop (b.s + q * z)).take _)
        have h7 := (g6.drop (q * z)).mono (G.upd_le (p := ((⟨b.k, b.s + q * z⟩ : Pl), m - q * z)) (hH.fresh n (Nat.le_refl _))); rw [List.drop_take, List.drop_drop] at h7; rw [henc, List.length_drop]; exact h7
end Go.Proofs.Ytooimphimnagaaa.Ev
namespace Go.Proofs.Ytooimphimnagaaa.Ev
open Go.RowKit
variable {P : Program} {γ γ' : G} {w0 : Bs} {w : World} {H H' : Tr EK} {n n' : Nat} {T : Tr EV} {tmps : Array Value} {o : Oper}



noncomputable def apS (ei : EI) (i z len : Nat) (nn : Bool) (d : SyC) (c1 : Bool) (H : Tr EK) (n : Nat) : Option YR := match H.get i with
  | some (.seq ty c nn') => match c.appS d with
    | some c' => bc (Nat.beq z ei.z) (bc (Nat.beq z c.cz) (bc (Nat.beq z d.cz) (bc (Nat.beq ty ei.e) (bc (Nat.ble i 65535) (bc (Nat.ble n 65535)
        (some ⟨bc c1 (bc (Nat.beq len c.cnt) (bc (Nat.ble (len + d.cnt) 65536) (bc nn' true (bc nn false true)) false) false) false, ⟨some (.slO n z c'.cnt (bc nn true (Nat.blt 0 d.cnt))), (H.put i none).put n (some (.seq ty c' (bc nn true (Nat.blt 0 d.cnt)))), Nat.succ n⟩⟩) none) none) none) none) none) none
    | none => none
  | _ => none

noncomputable def apN (ei : EI) (i z len : Nat) (nn : Bool) (m : Nat) (news : List EV) (H : Tr EK) (n : Nat) : Option YR := match frzL (frzE 6) news H with
  | some (cf, news', H1) => match H1.get i with
    | some (.seq ty c nn') => match c.app m news' with
      | some c' => bc (Nat.beq z ei.z) (bc (Nat.beq z c.cz) (bc (Nat.beq ty ei.e) (bc (Nat.blt 0 m) (bc (Nat.ble i 65535) (bc (Nat.ble n 65535)
          (some ⟨bc cf (bc (Nat.beq len c.cnt) (bc (Nat.ble (len + m) 65536) (bc nn' true (bc nn false true)) false) false) false, ⟨some (.slO n z c'.cnt true), (H1.put i none).put n (some (.seq ty c' true)), Nat.succ n⟩⟩) none) none) none) none) none) none
      | none => none
    | _ => none
  | none => none
noncomputable def apX (ei : EI) (i z len : Nat) (nn : Bool) (x : EV) (H : Tr EK) (n : Nat) : Option YR := match x with
  | .lst d => apS ei i z len nn d true H n
  | .slO j z2 len2 _ => match H.get j with
    | some (.seq _ d _) => bc (Nat.beq z2 d.cz) (apS ei i z len nn d (Nat.beq len2 d.cnt) H n) (apF ei i z len nn d z2 len2 H n)
    | _ => none
  | x => match newsOf H ei.z x with
    | some (m, news) => apN ei i z len nn m news H n
    | none => none

noncomputable def apR (ei : EI) (i v j f y z len : Nat) (x : EV) (H : Tr EK) (n : Nat) : Option YR := match H.get i with
  | some (.nest me ty sh rows v' ho nn) => match lget sh f with
    | some (.list sh') => match newsOf H ei.z x with
      | some (m, news) => match (mkC sh' ((rows.getD j []).getD f (.i 0)).list).app m news with
        | some c' => bc (Nat.beq y (llen sh)) (bc (Nat.beq z ei.z) (bc (Nat.beq z (llen sh')) (bc (Nat.beq (ty.2.getD f 0) ei.e) (bc (Nat.blt 0 m) (bc (Nat.ble i 65535) (bc (Nat.ble (Nat.succ n) 65535)
            (some ⟨bc (Nat.beq v v') (bc (Nat.blt j rows.length) (bc (notIn j f ho) (bc (Nat.beq len ((rows.getD j []).getD f (.i 0)).list.length) (Nat.ble (len + m) 65536) false) false) false) false,
              ⟨some (.slO (Nat.succ n) z c'.cnt true), ((H.put i (some (.nest me ty sh rows v' ((j, f) :: ho) nn))).put n none).put (Nat.succ n) (some (.seq ei.e c' true)), Nat.succ (Nat.succ n)⟩⟩) none) none) none) none) none) none) none
        | none => none
      | none => none
    | _ => none
  | _ => none

noncomputable def apRS (ei : EI) (i v j f y z len : Nat) (d : SyC) (cx : Bool) (H : Tr EK) (n : Nat) : Option YR := match H.get i with
  | some (.nest me ty sh rows v' ho nn) => match lget sh f with
    | some (.list sh') => match (mkC sh' ((rows.getD j []).getD f (.i 0)).list).appS d with
        | some c' => bc (Nat.beq y (llen sh)) (bc (Nat.beq z ei.z) (bc (Nat.beq z (llen sh')) (bc (Nat.beq (ty.2.getD f 0) ei.e) (bc (Nat.beq z d.cz) (bc (Nat.ble i 65535) (bc (Nat.ble (Nat.succ n) 65535)
            (some ⟨bc (Nat.beq v v') (bc (Nat.blt j rows.length) (bc (notIn j f ho) (bc (Nat.beq len ((rows.getD j []).getD f (.i 0)).list.length) (bc cx (bc (Nat.blt 0 d.cnt) (Nat.ble (len + d.cnt) 65536) false) false) false) false) false) false,
              ⟨some (.slO (Nat.succ n) z c'.cnt true), ((H.put i (some (.nest me ty sh rows v' ((j, f) :: ho) nn))).put n none).put (Nat.succ n) (some (.seq ei.e c' true)), Nat.succ (Nat.succ n)⟩⟩) none) none) none) none) none) none) none
        | none => none
    | _ => none
  | _ => none
noncomputable def apRX (ei : EI) (i v j f y z len : Nat) (x : EV) (H : Tr EK) (n : Nat) : Option YR := match x with
  | .slO j2 z2 len2 _ => match H.get j2 with
    | some (.seq _ d _) => bc (Nat.beq z2 d.cz) (apRS ei i v j f y z len d (Nat.beq len2 d.cnt) H n) none
    | _ => none
  | x => apR ei i v j f y z len x H n
noncomputable def zApp (P : Program) (t : TypeId) (s x : EV) (H : Tr EK) (n : Nat) : Option YR := match elemInfo P t with
  | some ei => match s with
    | .slO i z len nn => apX ei i z len nn x H n
    | .row i v j f y z len => apRX ei i v j f y z len x H n
    | .v (.slice none 0 0) => match flatX x H with
      | some d => bc (Nat.ble n 65535) (apX ei n ei.z 0 false x (H.put n (some (.seq ei.e (d.take 0) false))) (Nat.succ n)) none
      | none => match shOf P 6 ei.e with
        | some sh => bc (Nat.ble n 65535) (apX ei n ei.z 0 false x (H.put n (some (.seq ei.e (mkC sh []) false))) (Nat.succ n)) none
        | none => none
    | _ => none
  | none => none
theorem SyC.appS_cnt {c d e : SyC} (h : c.appS d = some e) : e.cnt = c.cnt + d.cnt := by
  cases c with
  | ints k l => cases d with
    | ints q m =>
      have h' : bc (decide (k = q)) (some (SyC.ints k (l ++ m))) none = some e := h; rw [bc_eq] at h'; split at h'
      case isFalse => cases h'
      injection h' with h'; subst h'
      exact List.length_append
    | _ => cases h
  | bools l => cases d with
    | bools m => injection (show some (SyC.bools (l ++ m)) = some e from h) with h'; subst h'; exact List.length_append
    | _ => cases h
  | strs l => cases d with
    | strs m => injection (show some (SyC.strs (l ++ m)) = some e from h) with h'; subst h'; exact List.length_append
    | _ => cases h
  | recs sh l => cases d with
    | recs sh' m =>
      have h' : bc (shsEq sh sh') (some (SyC.recs sh (l ++ m))) none = some e := h; rw [bc_eq] at h'; split at h'
      case isFalse => cases h'
      injection h' with h'; subst h'
      exact List.length_append
    | _ => cases h
theorem SyC.app_cnt {c c' : SyC} {m : Nat} {ax : List EV} (h : c.app m ax = some c') : c'.cnt = c.cnt + m := by
  unfold SyC.app at h; split at h
  case h_2 => cases h
  rename_i rs hrs; have h1 := (recsU_ok hrs).1; split at h <;> (injection h with h; subst h)
  · show (_ ++ rs.map _).length = _; rw [List.length_append, List.length_map, h1]; rfl
  · show (_ ++ rs.map _).length = _; rw [List.length_append, List.length_map, h1]; rfl
  · show (_ ++ rs.map _).length = _; rw [List.length_append, List.length_map, h1]; rfl
  · show (_ ++ rs).length = _; rw [List.length_append, h1]; rfl
theorem nn_cases {nn nn' : Bool} (h : bc nn' true (bc nn false true) = true) : nn' = true ∨ nn = false := by
  cases nn with
  | false => exact .inr rfl
  | true =>
    cases nn' with
    | true => exact .inl rfl
    | false => cases h
theorem bcT {a b : Bool} (h : bc a b false = true) : a = true ∧ b = true := by
  rw [bc_eq] at h; split at h
  · exact ⟨by assumption, h⟩
  · cases h
theorem apS_ok (hT : TOk γ T tmps) (hH : HR γ w0 H n w) {t ty : TypeId} {ei : EI} (hei : elemInfo P t = some ei) {i z len : Nat} {nn : Bool} {vs vx : Value} {d : SyC} {c1 : Bool} {r : YR} (hs : EC γ (.slO i z len nn) vs) (hx : c1 = true → SrcOk γ w d vx) (h : apS ei i z len nn d c1 H n = some r) (hc : r.c = true) :
    ∃ γ' w' v', GLe γ γ' ∧ HR γ' w0 r.er.H r.er.n w' ∧ (Builtin.append_ #[t, t] ty #[vs, vx]).run P w = .ok v' w' ∧ ∃ a, r.er.val = some a ∧ EC γ' a v' := by
  unfold apS at h; split at h
  case h_2 => cases h
  rename_i ty' c nn' hg; split at h
  case h_2 => cases h
  rename_i c' happ; rw [bc_eq] at h; split at h
  case isFalse => cases h
  rename_i h1; rw [bc_eq] at h; split at h
  case isFalse => cases h
  rename_i h2; rw [bc_eq] at h; split at h
  case isFalse => cases h
  rename_i h3; rw [bc_eq] at h; split at h
  case isFalse => cases h
  rename_i h4; rw [bc_eq] at h; split at h
  case isFalse => cases h
  rename_i h5; rw [bc_eq] at h; split at h
  case isFalse => cases h
  rename_i h6; injection h with h; subst h
  obtain ⟨k1, hc1⟩ := bcT hc; obtain ⟨k2, hc2⟩ := bcT hc1; obtain ⟨k3, hc3⟩ := bcT hc2; have h4 := Nat.eq_of_beq_eq_true h4; subst h4; obtain ⟨γ', w', v', q1, q2, q3, q4⟩ := app_src (ty := ty) hT hH hei hs hg (Nat.eq_of_beq_eq_true h1) (Nat.eq_of_beq_eq_true h2) (Nat.eq_of_beq_eq_true h3) h5 h6 (Nat.eq_of_beq_eq_true k2) (Nat.le_of_ble_eq_true k3) (nn_cases hc3) (SyC.appS_enc happ) (hx k1); exact ⟨γ', w', v', q1, q2, q3, _, rfl, by rw [SyC.appS_cnt happ, ← Nat.eq_of_beq_eq_true k2]; exact q4⟩
theorem apN_ok (hT : TOk γ T tmps) (hH : HR γ w0 H n w) {t ty : TypeId} {ei : EI} (hei : elemInfo P t = some ei) {i z len : Nat} {nn : Bool} {vs : Value} {m : Nat} {news : List EV} {r : YR} (hs : EC γ (.slO i z len nn) vs) {a : Addr} {ca : Nat} {ns : List Value} (hcn : ECL γ news ns) (hnl : ns.length = m * ei.z) (hnc : ∀ j u, ns[j]? = some u → w.cell? (a.add j) = some u) (h : apN ei i z len nn m news H n = some r) (hc : r.c = true) :
    ∃ γ' w' v', GLe γ γ' ∧ HR γ' w0 r.er.H r.er.n w' ∧ (Builtin.append_ #[t, t] ty #[vs, .slice (some a) m ca]).run P w = .ok v' w' ∧ ∃ a, r.er.val = some a ∧ EC γ' a v' := by
  unfold apN at h; split at h
  case h_2 => cases h
  rename_i cf news' H1 hf; split at h
  case h_2 => cases h
  rename_i ty' c nn' hg; split at h
  case h_2 => cases h
  rename_i c' happ; rw [bc_eq] at h; split at h
  case isFalse => cases h
  rename_i h1; rw [bc_eq] at h; split at h
  case isFalse => cases h
  rename_i h2; rw [bc_eq] at h; split at h
  case isFalse => cases h
  rename_i h3; rw [bc_eq] at h; split at h
  case isFalse => cases h
  rename_i h4; rw [bc_eq] at h; split at h
  case isFalse => cases h
  rename_i h5; rw [bc_eq] at h; split at h
  case isFalse => cases h
  rename_i h6; injection h with h; subst h
  obtain ⟨k1, hc1⟩ := bcT hc; obtain ⟨k2, hc2⟩ := bcT hc1; obtain ⟨k3, hc3⟩ := bcT hc2; have h3 := Nat.eq_of_beq_eq_true h3; subst h3; obtain ⟨γ1, g1, g2, g3⟩ := frzL_ok (f := frzE 6) (fun hH ha h hc => frzE_ok hH ha h hc) hH hcn hf k1; obtain ⟨bx, happ', hone, hbx⟩ := SyC.app_ok happ; have h7 : allOne bx = true := by
    have e1 : c'.enc = c.enc ++ bx := happ'; have := c'.enc_one; rw [e1, allOne_eq, List.all_append] at this; rw [allOne_eq]; simp only [Bool.and_eq_true] at this; exact this.2
  have hlz : len * z = c.len := by rw [Nat.eq_of_beq_eq_true k2, Nat.eq_of_beq_eq_true h2, c.len_cz]
  obtain ⟨γ', w', v', q1, q2, q3, q4⟩ := yAppN_ok (ty := ty) (ca := ca) (hT.mono g1) g2 hei (hs.mono g1) hg (Nat.eq_of_beq_eq_true h1) (blt_lt h4) h5 h6 h7 hlz (Nat.le_of_ble_eq_true k3) (nn_cases hc3) happ' (hbx γ1 ns g3) hnl hnc; exact ⟨γ', w', v', g1.trans q1, q2, q3, _, rfl, by rw [SyC.app_cnt happ, ← Nat.eq_of_beq_eq_true k2]; exact q4⟩
theorem apX_ok (hT : TOk γ T tmps) (hH : HR γ w0 H n w) {t ty : TypeId} {ei : EI} (hei : elemInfo P t = some ei) {i z len : Nat} {nn : Bool} {x : EV} {vs vx : Value} {r : YR} (hs : EC γ (.slO i z len nn) vs) (hx : EC γ x vx) (h : apX ei i z len nn x H n = some r) (hc : r.c = true) :
    ∃ γ' w' v', GLe γ γ' ∧ HR γ' w0 r.er.H r.er.n w' ∧ (Builtin.append_ #[t, t] ty #[vs, vx]).run P w = .ok v' w' ∧ ∃ a, r.er.val = some a ∧ EC γ' a v' := by
  unfold apX at h; split at h
  · exact apS_ok hT hH hei hs (fun _ => lst_src hH hx) h hc
  · rename_i j z2 len2 nn2; split at h
    case h_2 => cases h
    rename_i ty2 d nn3 hg; rw [bc_eq] at h; split at h
    case isFalse => exact apF_ok hT hH hei hs hg hx h hc
    rename_i hz; exact apS_ok hT hH hei hs (fun hl => seq_src hH hg hx (Nat.eq_of_beq_eq_true hl) (Nat.eq_of_beq_eq_true hz)) h hc
  · split at h
    case h_2 => cases h
    rename_i m news hnw; obtain ⟨a, ca, ns, rfl, hcn, hnl, hnc⟩ := newsOf_ok hH hx hnw; exact apN_ok hT hH hei hs hcn hnl hnc h hc
theorem apR_ok (hT : TOk γ T tmps) (hH : HR γ w0 H n w) {t ty : TypeId} {ei : EI} (hei : elemInfo P t = some ei) {i v j f y z len : Nat} {x : EV} {vs vx : Value} {r : YR} (hs : EC γ (.row i v j f y z len) vs) (hx : EC γ x vx) (h : apR ei i v j f y z len x H n = some r) (hc : r.c = true) :
    ∃ γ' w' v', GLe γ γ' ∧ HR γ' w0 r.er.H r.er.n w' ∧ (Builtin.append_ #[t, t] ty #[vs, vx]).run P w = .ok v' w' ∧ ∃ a, r.er.val = some a ∧ EC γ' a v' := by
  unfold apR at h; split at h
  case h_2 => cases h
  rename_i me ty2 sh rows v' ho nn hg; split at h
  case h_2 => cases h
  rename_i sh' hf; rw [lget_eq] at hf; split at h
  case h_2 => cases h
  rename_i m news hnw; split at h
  case h_2 => cases h
  rename_i c' happ; rw [bc_eq] at h; split at h
  case isFalse => cases h
  rename_i k1; rw [bc_eq] at h; split at h
  case isFalse => cases h
  rename_i k2; rw [bc_eq] at h; split at h
  case isFalse => cases h
  rename_i k3; rw [bc_eq] at h; split at h
  case isFalse => cases h
  rename_i k4; rw [bc_eq] at h; split at h
  case isFalse => cases h
  rename_i k5; rw [bc_eq] at h; split at h
  case isFalse => cases h
  rename_i hi; rw [bc_eq] at h; split at h
  case isFalse => cases h
  rename_i hn1; injection h with h; subst h
  have hcx : bc (Nat.beq v v') (bc (Nat.blt j rows.length) (bc (notIn j f ho) (bc (Nat.beq len ((rows.getD j []).getD f (.i 0)).list.length) (Nat.ble (len + m) 65536) false) false) false) false = true := hc; rw [bc_eq] at hcx; split at hcx
  case isFalse => cases hcx
  rename_i c1; rw [bc_eq] at hcx; split at hcx
  case isFalse => cases hcx
  rename_i c2; rw [bc_eq] at hcx; split at hcx
  case isFalse => cases hcx
  rename_i c3; rw [bc_eq] at hcx; split at hcx
  case isFalse => cases hcx
  rename_i c4; have k1 := Nat.eq_of_beq_eq_true k1; rw [llen_eq] at k1; have k2 := Nat.eq_of_beq_eq_true k2; have k3 := Nat.eq_of_beq_eq_true k3; rw [llen_eq] at k3; have k4 := Nat.eq_of_beq_eq_true k4; have k5 := blt_lt k5; have c1 := Nat.eq_of_beq_eq_true c1; have c2 := blt_lt c2; have c3 := notIn_ok c3; have c4 := Nat.eq_of_beq_eq_true c4; have hroom := Nat.le_of_ble_eq_true hcx; have hnb : Nat.ble n 65535 = true := Nat.ble_eq_true_of_le (by have := Nat.le_of_ble_eq_true hn1; omega); subst c1; subst k1
  have hnil : ¬ (EK.nest me ty2 sh rows v ho nn).Nil := fun e => by rw [e.2] at c2; simp at c2
  obtain ⟨hme, _⟩ := hH.fzk.nst.me i me ty2 sh rows v ho nn hg; have hme := hme.symm; subst hme; obtain ⟨a, ca, ns, rfl, hcn, hnl, hnc⟩ := newsOf_ok hH hx hnw; obtain ⟨bx, happ', hone, hbx⟩ := SyC.app_ok happ; have h7 : allOne bx = true := by
    have e1 : c'.enc = (mkC sh' ((rows.getD j []).getD f (.i 0)).list).enc ++ bx := happ'; have := c'.enc_one; rw [e1, allOne_eq, List.all_append] at this; rw [allOne_eq]; simp only [Bool.and_eq_true] at this; exact this.2
  have hcnt := SyC.app_cnt happ; rw [mkC_cnt] at hcnt; have hlz : len * z = (mkC sh' ((rows.getD j []).getD f (.i 0)).list).len := by rw [SyC.len_cz, mkC_cz, mkC_cnt, c4, k3]
  have fin : ∀ (γ1 : G) (w1 : World) (e0 : Option EK), HR γ1 w0 ((((H.put i (some (.nest i ty2 sh rows v ((j, f) :: ho) nn))).put n e0).put n none).put (Nat.succ n) (some (.seq ei.e c' true))) (Nat.succ (Nat.succ n)) w1 → HR γ1 w0 (((H.put i (some (.nest i ty2 sh rows v ((j, f) :: ho) nn))).put n none).put (Nat.succ n) (some (.seq ei.e c' true))) (Nat.succ (Nat.succ n)) w1 := fun γ1 w1 e0 h1 => h1.congr fun q kq hq => by
    rw [Tr.get_put hn1] at hq ⊢; split at hq
    · rename_i e; rw [if_pos e]; exact hq
    · rename_i e; rw [if_neg e]; rw [Tr.get_put hnb] at hq ⊢; split at hq
      · cases hq
      · rename_i e2; rw [if_neg e2, Tr.get_put hnb, if_neg e2]; exact hq
  rw [← c4] at hcnt
  cases hs with
  | row _ _ _ _ _ _ _ _ hs =>
  rcases hs with ⟨rfl, hl0⟩ | ⟨k, m0, c, g1, rfl, g2, g3, g4⟩
  · have hL : ((rows.getD j []).getD f (.i 0)).list = [] := List.eq_nil_of_length_eq_zero (by rw [← c4]; exact hl0); rw [hL] at happ' hlz; have he : (mkC sh' []).enc = [] := by rw [mkC_enc]; rfl
    obtain ⟨b2, m2, e1, e2, ci, e3, e4, e5, e6⟩ := hH.hp _ _ hg hnil; have hfl : f < sh.length := (List.getElem?_eq_some_iff.1 hf).1; have h1 := hH.toHole hi hg hnil e1 (j := j) (f := f) hfl (w' := w) (fun _ _ => rfl) rfl rfl rfl rfl fun c0 hc0 => ⟨c0, hc0, rfl, fun _ _ => rfl⟩; have h2 := h1.more.nilSeq (ty := ei.e) (c := mkC sh' []) hnb he
    obtain ⟨γ', w', v', q1, q2, q3, q4⟩ := yAppN_ok (ty := ty) (ca := ca) hT h2 hei (i := n) (z := z) (len := len) (nn := false) (.slO n z len false _ ⟨fun _ => ⟨rfl, hl0⟩, fun e => by cases e⟩) (by rw [Tr.get_put hnb, if_pos rfl]) k2 k5 hnb hn1 h7 hlz hroom (.inr rfl) happ' (hbx γ ns hcn) hnl hnc; exact ⟨γ', w', v', q1, fin γ' w' _ q2, q3, _, rfl, by rw [hcnt]; exact q4⟩
  · have g5 : c * z ≤ m0.2 := by
      rcases g4 with g4 | g4
      · omega
      · rw [g4]; omega
    have hzc : ((rows.getD j []).getD f (.i 0)).list.length * sh'.length ≤ m0.2 := by rw [← c4, ← k3]; exact Nat.le_trans (Nat.mul_le_mul_right _ g2) g5
    obtain ⟨hle, h1⟩ := hH.rowOut hi hnb hg c2 hf c3 g1 fun arr ha hh => row_seq ha hzc hh; rw [k4] at h1; obtain ⟨γ', w', v', q1, q2, q3, q4⟩ := yAppN_ok (ty := ty) (ca := ca) (hT.mono hle) h1 hei (i := n) (z := z) (len := len) (nn := true) (.slO n z len true _ ⟨(fun e => by cases e), fun _ => ⟨⟨k, m0.1⟩, m0.2, c, G.upd_same, by unfold Pl.at; rfl, g2, g3, g4⟩⟩) (by rw [Tr.get_put hnb, if_pos rfl]) k2 k5 hnb hn1 h7 hlz hroom (.inl rfl) happ' (hbx _ ns (hcn.mono hle)) hnl hnc; exact ⟨γ', w', v', hle.trans q1, fin γ' w' _ q2, q3, _, rfl, by rw [hcnt]; exact q4⟩
theorem SrcOk.mono {d : SyC} {vx : Value} (hle : GLe γ γ') (h : SrcOk γ w d vx) : SrcOk γ' w d vx :=
  ⟨fun h0 => let ⟨a, ca, ns, h1, h2, h3⟩ := h.1 h0; ⟨a, ca, ns, h1, h2.mono hle, h3⟩, h.2⟩
theorem apRS_ok (hT : TOk γ T tmps) (hH : HR γ w0 H n w) {t ty : TypeId} {ei : EI} (hei : elemInfo P t = some ei) {i v j f y z len : Nat} {d : SyC} {cx : Bool} {vs vx : Value} {r : YR} (hs : EC γ (.row i v j f y z len) vs) (hx : cx = true → SrcOk γ w d vx) (h : apRS ei i v j f y z len d cx H n = some r) (hc : r.c = true) :
    ∃ γ' w' v', GLe γ γ' ∧ HR γ' w0 r.er.H r.er.n w' ∧ (Builtin.append_ #[t, t] ty #[vs, vx]).run P w = .ok v' w' ∧ ∃ a, r.er.val = some a ∧ EC γ' a v' := by
  unfold apRS at h; split at h
  case h_2 => cases h
  rename_i me ty2 sh rows v' ho nn hg; split at h
  case h_2 => cases h
  rename_i sh' hf; rw [lget_eq] at hf; split at h
  case h_2 => cases h
  rename_i c' happ; rw [bc_eq] at h; split at h
  case isFalse => cases h
  rename_i k1; rw [bc_eq] at h; split at h
  case isFalse => cases h
  rename_i k2; rw [bc_eq] at h; split at h
  case isFalse => cases h
  rename_i k3; rw [bc_eq] at h; split at h
  case isFalse => cases h
  rename_i k4; rw [bc_eq] at h; split at h
  case isFalse => cases h
  rename_i k5; rw [bc_eq] at h; split at h
  case isFalse => cases h
  rename_i hi; rw [bc_eq] at h; split at h
  case isFalse => cases h
  rename_i hn1; injection h with h; subst h
  have hcx : bc (Nat.beq v v') (bc (Nat.blt j rows.length) (bc (notIn j f ho) (bc (Nat.beq len ((rows.getD j []).getD f (.i 0)).list.length) (bc cx (bc (Nat.blt 0 d.cnt) (Nat.ble (len + d.cnt) 65536) false) false) false) false) false) false = true := hc; rw [bc_eq] at hcx; split at hcx
  case isFalse => cases hcx
  rename_i c1; rw [bc_eq] at hcx; split at hcx
  case isFalse => cases hcx
  rename_i c2; rw [bc_eq] at hcx; split at hcx
  case isFalse => cases hcx
  rename_i c3; rw [bc_eq] at hcx; split at hcx
  case isFalse => cases hcx
  rename_i c4; obtain ⟨c5, hcx⟩ := bcT hcx; obtain ⟨c6, hcx⟩ := bcT hcx; have k1 := Nat.eq_of_beq_eq_true k1; rw [llen_eq] at k1; have k2 := Nat.eq_of_beq_eq_true k2; have k3 := Nat.eq_of_beq_eq_true k3; rw [llen_eq] at k3; have k4 := Nat.eq_of_beq_eq_true k4; have k5 := Nat.eq_of_beq_eq_true k5; have c1 := Nat.eq_of_beq_eq_true c1; have c2 := blt_lt c2; have c3 := notIn_ok c3; have c4 := Nat.eq_of_beq_eq_true c4; have hroom := Nat.le_of_ble_eq_true hcx; have hnb : Nat.ble n 65535 = true := Nat.ble_eq_true_of_le (by have := Nat.le_of_ble_eq_true hn1; omega); subst c1; subst k1
  have hnil : ¬ (EK.nest me ty2 sh rows v ho nn).Nil := fun e => by rw [e.2] at c2; simp at c2
  obtain ⟨hme, _⟩ := hH.fzk.nst.me i me ty2 sh rows v ho nn hg; have hme := hme.symm; subst hme; have hsrc := hx c5; have happ' := SyC.appS_enc happ; have hcnt := SyC.appS_cnt happ; rw [mkC_cnt] at hcnt; have hbt : Nat.blt 0 d.cnt = true := c6
  have fin : ∀ (γ1 : G) (w1 : World) (e0 : Option EK), HR γ1 w0 ((((H.put i (some (.nest i ty2 sh rows v ((j, f) :: ho) nn))).put n e0).put n none).put (Nat.succ n) (some (.seq ei.e c' true))) (Nat.succ (Nat.succ n)) w1 → HR γ1 w0 (((H.put i (some (.nest i ty2 sh rows v ((j, f) :: ho) nn))).put n none).put (Nat.succ n) (some (.seq ei.e c' true))) (Nat.succ (Nat.succ n)) w1 := fun γ1 w1 e0 h1 => h1.congr fun q kq hq => by
    rw [Tr.get_put hn1] at hq ⊢; split at hq
    · rename_i e; rw [if_pos e]; exact hq
    · rename_i e; rw [if_neg e]; rw [Tr.get_put hnb] at hq ⊢; split at hq
      · cases hq
      · rename_i e2; rw [if_neg e2, Tr.get_put hnb, if_neg e2]; exact hq
  rw [← c4] at hcnt
  cases hs with
  | row _ _ _ _ _ _ _ _ hs =>
  rcases hs with ⟨rfl, hl0⟩ | ⟨k, m0, c, g1, rfl, g2, g3, g4⟩
  · have hL : ((rows.getD j []).getD f (.i 0)).list = [] := List.eq_nil_of_length_eq_zero (by rw [← c4]; exact hl0); rw [hL] at happ'; have he : (mkC sh' []).enc = [] := by rw [mkC_enc]; rfl
    obtain ⟨b2, m2, e1, e2, ci, e3, e4, e5, e6⟩ := hH.hp _ _ hg hnil; have hfl : f < sh.length := (List.getElem?_eq_some_iff.1 hf).1; have h1 := hH.toHole hi hg hnil e1 (j := j) (f := f) hfl (w' := w) (fun _ _ => rfl) rfl rfl rfl rfl fun c0 hc0 => ⟨c0, hc0, rfl, fun _ _ => rfl⟩; have h2 := h1.more.nilSeq (ty := ei.e) (c := mkC sh' []) hnb he
    obtain ⟨γ', w', v', q1, q2, q3, q4⟩ := app_src (ty := ty) hT h2 hei (i := n) (z := z) (len := len) (nn := false) (.slO n z len false _ ⟨fun _ => ⟨rfl, hl0⟩, fun e => by cases e⟩) (by rw [Tr.get_put hnb, if_pos rfl]) k2 (by rw [mkC_cz]; exact k3) k5 hnb hn1 (by rw [mkC_cnt, hl0]; rfl) hroom (.inr rfl) happ' hsrc; rw [show bc false true (Nat.blt 0 d.cnt) = true from hbt] at q2 q4
    exact ⟨γ', w', v', q1, fin γ' w' _ q2, q3, _, rfl, by rw [hcnt]; exact q4⟩
  · have g5 : c * z ≤ m0.2 := by
      rcases g4 with g4 | g4
      · omega
      · rw [g4]; omega
    have hzc : ((rows.getD j []).getD f (.i 0)).list.length * sh'.length ≤ m0.2 := by rw [← c4, ← k3]; exact Nat.le_trans (Nat.mul_le_mul_right _ g2) g5
    obtain ⟨hle, h1⟩ := hH.rowOut hi hnb hg c2 hf c3 g1 fun arr ha hh => row_seq ha hzc hh; rw [k4] at h1; obtain ⟨γ', w', v', q1, q2, q3, q4⟩ := app_src (ty := ty) (hT.mono hle) h1 hei (i := n) (z := z) (len := len) (nn := true) (.slO n z len true _ ⟨(fun e => by cases e), fun _ => ⟨⟨k, m0.1⟩, m0.2, c, G.upd_same, by unfold Pl.at; rfl, g2, g3, g4⟩⟩) (by rw [Tr.get_put hnb, if_pos rfl]) k2 (by rw [mkC_cz]; exact k3) k5 hnb hn1 (by rw [mkC_cnt]; exact c4) hroom (.inl rfl) happ' (hsrc.mono hle); exact ⟨γ', w', v', hle.trans q1, fin γ' w' _ q2, q3, _, rfl, by rw [hcnt]; exact q4⟩
theorem apRX_ok (hT : TOk γ T tmps) (hH : HR γ w0 H n w) {t ty : TypeId} {ei : EI} (hei : elemInfo P t = some ei) {i v j f y z len : Nat} {x : EV} {vs vx : Value} {r : YR} (hs : EC γ (.row i v j f y z len) vs) (hx : EC γ x vx) (h : apRX ei i v j f y z len x H n = some r) (hc : r.c = true) :
    ∃ γ' w' v', GLe γ γ' ∧ HR γ' w0 r.er.H r.er.n w' ∧ (Builtin.append_ #[t, t] ty #[vs, vx]).run P w = .ok v' w' ∧ ∃ a, r.er.val = some a ∧ EC γ' a v' := by
  unfold apRX at h; split at h
  · split at h
    case h_2 => cases h
    rename_i ty2 d nn3 hg; rw [bc_eq] at h; split at h
    case isFalse => cases h
    rename_i hz; exact apRS_ok hT hH hei hs (fun hl => seq_src hH hg hx (Nat.eq_of_beq_eq_true hl) (Nat.eq_of_beq_eq_true hz)) h hc
  · exact apR_ok hT hH hei hs hx h hc
theorem zApp_ok (hT : TOk γ T tmps) (hH : HR γ w0 H n w) {t ty : TypeId} {s x : EV} {vs vx : Value} {r : YR} (hs : EC γ s vs) (hx : EC γ x vx) (h : zApp P t s x H n = some r) (hc : r.c = true) :
    ∃ γ' w' v', GLe γ γ' ∧ HR γ' w0 r.er.H r.er.n w' ∧ (Builtin.append_ #[t, t] ty #[vs, vx]).run P w = .ok v' w' ∧ ∃ a, r.er.val = some a ∧ EC γ' a v' := by
  unfold zApp at h; split at h
  case h_2 => cases h
  rename_i ei hei; split at h
  case h_4 => cases h
  · exact apX_ok hT hH hei hs hx h hc
  · exact apRX_ok hT hH hei hs hx h hc
  · have e := ec_v hs; subst e; split at h
    · rename_i d hd; rw [bc_eq] at h; split at h
      case isFalse => cases h
      rename_i hn; have he : (d.take 0).enc = [] := by rw [SyC.take_enc2, Nat.zero_mul]; rfl
      exact apX_ok hT (hH.more.nilSeq hn he) hei (.slO n ei.z 0 false _ ⟨fun _ => ⟨rfl, rfl⟩, fun e => by cases e⟩) hx h hc
    split at h
    case h_2 => cases h
    rename_i sh hsh; rw [bc_eq] at h; split at h
    case isFalse => cases h
    rename_i hn; have he : (mkC sh []).enc = [] := by rw [mkC_enc]; rfl
    exact apX_ok hT (hH.more.nilSeq hn he) hei (.slO n ei.z 0 false _ ⟨fun _ => ⟨rfl, rfl⟩, fun e => by cases e⟩) hx h hc

noncomputable def zeroC (zs : List Value) (l : Nat) : Option SyC := match zs with
  | [.int k x] => bc (decide (x = 0)) (some (.ints k (zerosL l))) none
  | [.bool b] => bc b none (some (.bools (List.replicate l false)))
  | [.string s] => bc (Nat.beq s.size 0) (some (.strs (List.replicate l ByteArray.empty))) none
  | _ => none
theorem zeroCells_one (v : Value) (m l : Nat) (h : l ≤ m) : (zeroCellsE [v] m).take l = List.replicate l (.v v) := by
  unfold zeroCellsE; apply List.ext_getElem?; intro j; rw [List.getElem?_take, List.getElem?_map, List.getElem?_replicate]
  by_cases hj : j < l
  · rw [if_pos hj, if_pos hj, List.getElem?_range (by omega)]; simp [Nat.mod_one]
  · rw [if_neg hj, if_neg hj]
theorem zeroC_ok {zs : List Value} {l : Nat} {c : SyC} (h : zeroC zs l = some c) : ∃ v, zs = [v] ∧ c.enc = List.replicate l (.v v) := by
  unfold zeroC at h; split at h
  · rename_i k x; rw [bc_eq] at h; split at h
    case isFalse => cases h
    rename_i hx; have hx := of_decide_eq_true hx; subst hx; injection h with h; subst h
    refine ⟨_, rfl, ?_⟩; show (List.replicate l (0 : Int)).map _ = _; rw [List.map_replicate]
  · rename_i b; rw [bc_eq] at h; split at h
    case isTrue => cases h
    rename_i hb; have hb : b = false := by simpa using hb
    subst hb; injection h with h; subst h
    refine ⟨_, rfl, ?_⟩; show (List.replicate l false).map _ = _; rw [List.map_replicate]
  · rename_i s; rw [bc_eq] at h; split at h
    case isFalse => cases h
    rename_i hs; have hs := Nat.eq_of_beq_eq_true hs; have hs : s = ByteArray.empty := by
      obtain ⟨d⟩ := s; have hd : d.size = 0 := hs; have : d = #[] := Array.eq_empty_of_size_eq_zero hd; subst this; rfl
    subst hs; injection h with h; subst h
    refine ⟨_, rfl, ?_⟩; show (List.replicate l ByteArray.empty).map _ = _; rw [List.map_replicate]
  · cases h

noncomputable def makeC (P : Program) (T : Tr EV) (t : TypeId) (len cap : Operand) : Option (Bool × TypeId × SyC × Nat) := match elemInfo P t with
  | some ei => match Sx.zeroL P ei.e with
    | some zs => match intOf (exVal T len) with
      | some l => match intOf (exVal T cap) with
        | some c => match zeroC zs l.toNat with
          | some cc => bc (Nat.beq ei.z 1) (some (bc (decide (0 ≤ l)) (bc (decide (l ≤ c)) (decide (c ≤ 65536)) false) false, ei.e, cc, cc.cnt)) none
          | none => none
        | none => none
      | none => none
    | none => none
  | none => none
theorem makeC_ok (hT : TOk γ T tmps) {t : TypeId} {len cap : Operand} {r : Bool × TypeId × SyC × Nat} (ho : o.op = .makeSlice t len cap) (h : makeC P T t len cap = some r) (hc : r.1 = true) :
    ∃ (arr : Array Value), r.2.2.2 ≤ arr.size ∧ arr.size ≤ 65536 ∧ (∀ w : World, (execOp (opEval tmps) o).run P w = .ok (.value (.slice (some ⟨w.heap.size, 0, none⟩) r.2.2.2 arr.size)) (w.alloc (.cells arr r.2.1))) ∧ ∀ γ : G, ECL γ r.2.2.1.enc (arr.toList.take r.2.2.2) ∧ r.2.2.1.enc.length = r.2.2.2 := by
  unfold makeC at h; split at h
  case h_2 => cases h
  rename_i ei hei; obtain ⟨hu, inf, zv, hi, hz, hsz, hzs, hpos, hby⟩ := elemInfo_ok hei; split at h
  case h_2 => cases h
  rename_i zs hzs2; obtain ⟨inf2, zv2, hi2, hzv2, hzl⟩ := zero_of hzs2; rw [hi] at hi2; injection hi2 with hi2; subst hi2
  rw [hz] at hzv2; injection hzv2 with hzv2; subst hzv2
  split at h
  case h_2 => cases h
  rename_i l hl; split at h
  case h_2 => cases h
  rename_i c hcp; split at h
  case h_2 => cases h
  rename_i cc hcc; rw [bc_eq] at h; split at h
  case isFalse => cases h
  rename_i hz1; injection h with h; subst h
  obtain ⟨h1, hc⟩ := bcT hc; obtain ⟨h2, hc⟩ := bcT hc; have h1 := of_decide_eq_true h1; have h2 := of_decide_eq_true h2; have h3 := of_decide_eq_true hc; have hz1 := Nat.eq_of_beq_eq_true hz1; obtain ⟨v, hv, henc⟩ := zeroC_ok hcc; subst hv; obtain ⟨l, rfl⟩ := Int.eq_ofNat_of_zero_le h1; obtain ⟨c, rfl⟩ := Int.eq_ofNat_of_zero_le (show 0 ≤ c by omega); rw [Int.toNat_natCast] at henc; have hcnt : cc.cnt = l := by
    have e1 : cc.enc.length = l := by rw [henc]; simp
    rw [cc.enc_len, cc.len_cz] at e1; have e2 : cc.cz = 1 := by
      have hv2 := hcc; unfold zeroC at hv2; split at hv2
      · rw [bc_eq] at hv2; split at hv2
        · injection hv2 with hv2; rw [← hv2]; rfl
        · cases hv2
      · rw [bc_eq] at hv2; split at hv2
        · cases hv2
        · injection hv2 with hv2; rw [← hv2]; rfl
      · rw [bc_eq] at hv2; split at hv2
        · injection hv2 with hv2; rw [← hv2]; rfl
        · cases hv2
      · cases hv2
    rw [e2, Nat.mul_one] at e1; exact e1
  obtain ⟨κ, hlen⟩ := intOf_ok hT hl; obtain ⟨κ2, hcap⟩ := intOf_ok hT hcp; have hb2 := Nat.mul_le_mul hby (show c ≤ 65536 by omega); have h8 : inf.bytes * c ≤ 281474976710656 := Nat.le_trans hb2 (Nat.le_of_ble_eq_true rfl); have h9 : (inf.bytes : Int) * (c : Int) ≤ 281474976710656 := by rw [← Int.natCast_mul]; omega
  have hr := fun w => run_makeSlice (P := P) w t ei.e inf zv hu hi hz κ κ2 (l : Int) (c : Int) (by omega) (by omega) (by rw [hsz, Int.toNat_natCast, hz1]; omega) h9 (by omega); have e1 : zv.cells = #[v] := by
    have : zv.cells.toList = [v] := hzl; apply Array.ext'; simpa using this
  have hcl : (madeCells zv.cells (c * ei.z)).size = c := by rw [size_madeCells, hz1, Nat.mul_one]
  refine ⟨madeCells zv.cells (c * ei.z), ?_, by rw [hcl]; omega, fun w => ?_, fun γ => ?_⟩
  · show cc.cnt ≤ _; rw [hcl, hcnt]; omega
  · show _ = Result.ok (Next.value (.slice _ cc.cnt _)) _; rw [hcl, hcnt]; have hex : execOp (opEval tmps) o = (do pure (Next.value (← Instr.makeSlice t (.int κ l) (.int κ2 c))) : Sem Next) := by unfold execOp; rw [ho]; simp only [hlen, hcap]
    rw [hex]; refine run_v ?_; rw [hr w, hsz]; simp
  · show ECL γ cc.enc (List.take cc.cnt _) ∧ cc.enc.length = cc.cnt; rw [hcnt]; have hall : ECL γ (zeroCellsE [v] (c * ei.z)) (madeCells zv.cells (c * ei.z)).toList := by unfold madeCells; rw [e1]; exact zeroCellsE_ok [v] _
    have := hall.take l; rw [zeroCells_one v _ l (by rw [hz1]; omega), ← henc] at this; exact ⟨this, by rw [henc]; simp⟩

noncomputable def shL (s : Sh) : Bool := match s with
  | .list _ => true
  | _ => false

noncomputable def zeroU (s : Sh) : U := match s with
  | .int _ => .i 0
  | .bool => .b false
  | .str => .s ByteArray.empty
  | .list _ => .l []
noncomputable def zeroV (s : Sh) : Value := match s with
  | .int k => .int k 0
  | .bool => .bool false
  | .str => .string ByteArray.empty
  | .list _ => .slice none 0 0

noncomputable def rowT (P : Program) (t : TypeId) : Option (List TypeId) := match P.underlying t with
  | some (.slice e) => some [e]
  | some (.struct fs) => some (fs.toList.map fun f => match P.underlying f.type with
    | some (.slice e) => e
    | _ => 0)
  | _ => none
noncomputable def zMakeN (P : Program) (T : Tr EV) (t : TypeId) (len cap : Operand) (H : Tr EK) (n : Nat) : Option YR := match elemInfo P t with
  | some ei => match shOf P 6 ei.e with
    | some sh => bc (List.rec false (fun s _ ih => bc (shL s) true ih) sh) (match Sx.zeroL P ei.e with
      | some zs => match rowT P ei.e with
        | some ts => match intOf (exVal T len) with
          | some l => match intOf (exVal T cap) with
            | some c => bc (eqL eqV0 zs (sh.map zeroV)) (bc (Nat.beq ei.z zs.length) (bc (Nat.ble n 65535) (some ⟨bc (decide (0 ≤ l)) (bc (decide (l = c)) (decide (c ≤ 65536)) false) false, ⟨some (.slO n ei.z l.toNat true), H.put n (some (.nest n (ei.e, ts) sh (List.replicate l.toNat (sh.map zeroU)) 0 [] true)), Nat.succ n⟩⟩) none) none) none
            | none => none
          | none => none
        | none => none
      | none => none) none
    | none => none
  | none => none
theorem zMakeN_ok (hT : TOk γ T tmps) (hH : HR γ w0 H n w) {t : TypeId} {len cap : Operand} {r : YR} (ho : o.op = .makeSlice t len cap) (h : zMakeN P T t len cap H n = some r) (hc : r.c = true) : Gives P γ w0 w (execOp (opEval tmps) o) r.er.val r.er.H r.er.n := by
  unfold zMakeN at h; split at h
  case h_2 => cases h
  rename_i ei hei; obtain ⟨hu, inf, zv, hi, hz, hsz, hzs, hpos, hby⟩ := elemInfo_ok hei; split at h
  case h_2 => cases h
  rename_i sh hsh; rw [bc_eq] at h; split at h
  case isFalse => cases h
  split at h
  case h_2 => cases h
  rename_i zs hzs2; obtain ⟨inf2, zv2, hi2, hzv2, hzl⟩ := zero_of hzs2; rw [hi] at hi2; injection hi2 with hi2; subst hi2
  rw [hz] at hzv2; injection hzv2 with hzv2; subst hzv2
  split at h
  case h_2 => cases h
  rename_i ts hts; split at h
  case h_2 => cases h
  rename_i l hl; split at h
  case h_2 => cases h
  rename_i c hcp; rw [bc_eq] at h; split at h
  case isFalse => cases h
  rename_i hze; rw [bc_eq] at h; split at h
  case isFalse => cases h
  rename_i hz1; rw [bc_eq] at h; split at h
  case isFalse => cases h
  rename_i hnb; injection h with h; subst h
  have hc : bc (decide (0 ≤ l)) (bc (decide (l = c)) (decide (c ≤ 65536)) false) false = true := hc; obtain ⟨h1, hc⟩ := bcC hc; obtain ⟨h2, h3⟩ := bcC hc; have h1 := of_decide_eq_true h1; have h2 := of_decide_eq_true h2; have h3 := of_decide_eq_true h3; subst h2; have hze := eqL_ok eqV0_ok hze; have hz1 := Nat.eq_of_beq_eq_true hz1; obtain ⟨l, rfl⟩ := Int.eq_ofNat_of_zero_le h1; obtain ⟨κ, hlen⟩ := intOf_ok hT hl; obtain ⟨κ2, hcap⟩ := intOf_ok hT hcp
  show Gives P γ w0 w _ (some (.slO n ei.z (Int.toNat (l : Int)) true)) (H.put n (some (.nest n (ei.e, ts) sh (List.replicate (Int.toNat (l : Int)) (sh.map zeroU)) 0 [] true))) (Nat.succ n); rw [Int.toNat_natCast]; have hb2 := Nat.mul_le_mul hby (show l ≤ 65536 by omega); have h8 : inf.bytes * l ≤ 281474976710656 := Nat.le_trans hb2 (Nat.le_of_ble_eq_true rfl); have h9 : (inf.bytes : Int) * (l : Int) ≤ 281474976710656 := by rw [← Int.natCast_mul]; omega
  have hr := run_make (P := P) w t ei.e inf zv hu hi hz κ κ2 (l : Int) (l : Int) (by omega) (by omega) h9 (by omega); rw [Int.toNat_natCast, hsz] at hr; have hcl : (madeCells zv.cells (l * ei.z)).size = l * ei.z := by rw [size_madeCells]
  have hγn := hH.fresh n (Nat.le_refl _); have e1 : zv.cells.toList = zs := hzl; have hzz : sh.length = ei.z := by rw [hz1, hze, List.length_map]
  have hcs : zv.cells.size = ei.z := by rw [← Array.length_toList, e1, ← hz1]
  have hrw : ∀ v q, γ.rw n v q = none := fun v q => by
    cases e : γ.rw n v q with
    | none => rfl
    | some p =>
      obtain ⟨b, hb⟩ := hH.fzk.nst.rwg n v q p e; rw [hγn] at hb; cases hb
  have hcell : ∀ j f s, j < l → sh[f]? = some s → (madeCells zv.cells (l * ei.z))[j * ei.z + f]? = some (zeroV s) := fun j f s hj hf => by
    have hfl : f < ei.z := by rw [← hzz]; exact (List.getElem?_eq_some_iff.1 hf).1
    have hlt : j * ei.z + f < l * ei.z := by
      have := Nat.mul_le_mul_right ei.z (show j + 1 ≤ l from hj)
      rw [Nat.succ_mul] at this; omega
    unfold madeCells; rw [Array.getElem?_map, Array.getElem?_range, if_pos hlt]; have hmod : (j * ei.z + f) % ei.z = f := by rw [Nat.mul_comm, Nat.mul_add_mod, Nat.mod_eq_of_lt hfl]
    show some (zv.cells[(j * ei.z + f) % zv.cells.size]!) = some (zeroV s); rw [hcs, hmod]; have h5 : zs[f]? = some (zeroV s) := by rw [hze, List.getElem?_map, hf]; rfl
    rw [← e1, Array.getElem?_toList] at h5; congr 1; rw [Array.getElem!_eq_getD, Array.getD_eq_getD_getElem?, h5]; rfl
  have hHn : HR (γ.upd n (⟨w.heap.size, 0⟩, l * ei.z)) w0 (H.put n (some (.cells ei.e ((madeCells zv.cells (l * ei.z)).toList.map .v) true))) (Nat.succ n) (w.alloc (.cells (madeCells zv.cells (l * ei.z)) ei.e)) := hH.new hnb (.cells (madeCells zv.cells (l * ei.z)) ei.e) (l * ei.z) (.cells ei.e ((madeCells zv.cells (l * ei.z)).toList.map .v) true) rfl rfl rfl rfl
    ⟨madeCells zv.cells (l * ei.z), .of (by show (w.heap.push _)[_]? = _; simp), by rw [hcl]; simp, by rw [List.length_map, Array.length_toList, hcl]; exact Nat.le_refl _, fun _ => by rw [List.length_map, Array.length_toList, hcl], by
      rw [List.drop_zero, List.length_map, List.take_of_length_le (Nat.le_refl _)]; exact ECL.vals _ _⟩
  have hg : (H.put n (some (EK.cells ei.e ((madeCells zv.cells (l * ei.z)).toList.map .v) true))).get n = some (.cells ei.e ((madeCells zv.cells (l * ei.z)).toList.map .v) true) := by rw [Tr.get_put hnb, if_pos rfl]
  have hN := hHn.toNest hnb hg id (fun v q => hrw v q) (ty := (ei.e, ts)) (sh := sh) (rows := List.replicate l (sh.map zeroU)) fun b m hk => by
    obtain ⟨ca, q1, q2, q3, q4, q5⟩ := hk; have q4 := q4 rfl; rw [List.length_map, Array.length_toList, hcl] at q4 q5; refine ⟨ca, q1, q2, by rw [List.length_replicate, hzz]; omega, fun j f s hj hf _ => ⟨zeroV s, ?_, ?_⟩⟩
    · rw [List.length_replicate] at hj; have h5 := hcell j f s hj hf; have hlt : j * ei.z + f < l * ei.z := by rw [← hcl]; exact (Array.getElem?_eq_some_iff.1 h5).1
      rw [hzz]; have h6 : ((madeCells zv.cells (l * ei.z)).toList.map EV.v)[j * ei.z + f]? = some (.v (zeroV s)) := by rw [List.getElem?_map, Array.getElem?_toList, h5]; rfl
      obtain ⟨y, hy, hcy⟩ := q5.at h6; rw [List.getElem?_take, if_pos hlt, List.getElem?_drop, Array.getElem?_toList] at hy; rw [hy, ec_v hcy]
    · rw [List.length_replicate] at hj; have e3 : ((List.replicate l (sh.map zeroU)).getD j []).getD f (.i 0) = zeroU s := by
        rw [List.getD_eq_getElem?_getD (l := List.replicate l (sh.map zeroU)), List.getElem?_replicate, if_pos hj]; show (sh.map zeroU).getD f (.i 0) = zeroU s; rw [List.getD_eq_getElem?_getD, List.getElem?_map, hf]; rfl
      rw [e3]
      cases s with
      | list sh' => exact .inl ⟨hrw _ _, rfl, rfl⟩
      | int k => exact .v _
      | bool => exact .v _
      | str => exact .v _
  refine ⟨γ.upd n (⟨w.heap.size, 0⟩, l * ei.z), w.alloc (.cells (madeCells zv.cells (l * ei.z)) ei.e), G.upd_le hγn, hN.congr fun q kq hq => ?_, .slice (some ⟨w.heap.size, 0, none⟩) l l, ?_, ?_⟩
  · rw [Tr.get_put hnb] at hq ⊢; split at hq
    · rename_i e; rw [if_pos e]; exact hq
    · rename_i e; rw [if_neg e, Tr.get_put hnb, if_neg e]; exact hq
  · have hex : execOp (opEval tmps) o = (do pure (Next.value (← Instr.makeSlice t (.int κ l) (.int κ2 l))) : Sem Next) := by unfold execOp; rw [ho]; simp only [hlen, hcap]
    rw [hex]; exact run_v hr
  · exact .slO n ei.z l true _ ⟨(fun e => by cases e), fun _ => ⟨⟨w.heap.size, 0⟩, l * ei.z, l, G.upd_same, rfl, Nat.le_refl _, by unfold maxLen; omega, .inl rfl⟩⟩
noncomputable def zMake (P : Program) (T : Tr EV) (t : TypeId) (len cap : Operand) (H : Tr EK) (n : Nat) : Option YR := match makeC P T t len cap with
  | some (c, e, cc, l) => bc (Nat.ble n 65535) (some ⟨c, ⟨some (.slO n 1 l true), H.put n (some (.seq e cc true)), Nat.succ n⟩⟩) none
  | none => none

theorem new_seq {arr : Array Value} {e : TypeId} {cc : SyC} {l : Nat} (h : ECL γ cc.enc (arr.toList.take l) ∧ cc.enc.length = l) (hl : l ≤ arr.size) : (EK.seq e cc true).ok γ ⟨w.heap.size, 0⟩ arr.size (w.alloc (.cells arr e)) :=
  ⟨arr, .of (by show (w.heap.push _)[_]? = _; simp), (Nat.zero_add _).symm, by rw [h.2]; exact hl, by rw [List.drop_zero, h.2]; exact h.1⟩
theorem zMake_ok (hT : TOk γ T tmps) (hH : HR γ w0 H n w) {t : TypeId} {len cap : Operand} {r : YR} (ho : o.op = .makeSlice t len cap) (h : zMake P T t len cap H n = some r) (hc : r.c = true) : Gives P γ w0 w (execOp (opEval tmps) o) r.er.val r.er.H r.er.n := by
  unfold zMake at h; split at h
  case h_2 => cases h
  rename_i c e cc l hm; rw [bc_eq] at h; split at h
  case isFalse => cases h
  rename_i hnb; injection h with h; subst h
  obtain ⟨arr, h1, h2, h3, h4⟩ := makeC_ok hT ho hm hc; have h1 : l ≤ arr.size := h1; have hγn := hH.fresh n (Nat.le_refl _); refine ⟨γ.upd n (⟨w.heap.size, 0⟩, arr.size), w.alloc (.cells arr e), G.upd_le hγn, hH.new hnb (.cells arr e) arr.size (.seq e cc true) rfl rfl rfl rfl (new_seq (h4 _) h1), _, h3 w, ?_⟩; exact .slO n 1 l true _ ⟨(fun e => by cases e), fun _ => ⟨⟨w.heap.size, 0⟩, arr.size, arr.size, G.upd_same, rfl, h1, by unfold maxLen; omega, .inl (Nat.mul_one _)⟩⟩

noncomputable def zBuild (P : Program) (T : Tr EV) (t : TypeId) (len : Nat) (parts : Array (Nat × Operand)) (H : Tr EK) (n : Nat) : Option YR := match bsCore P T t len parts with
  | some (e, z, cs) => match shOf P 6 e with
    | some sh => match frzL (frzE 6) cs H with
      | some (cf, cs', H1) => match contC sh len cs' with
        | some c => bc (Nat.beq sh.length z) (bc (Nat.ble n 65535) (some ⟨cf, ⟨some (.slO n z len true), H1.put n (some (.seq e c true)), Nat.succ n⟩⟩) none) none
        | none => none
      | none => none
    | none => none
  | none => none
theorem zBuild_ok (hT : TOk γ T tmps) (hH : HR γ w0 H n w) {t : TypeId} {len : Nat} {parts : Array (Nat × Operand)} {r : YR} (ho : o.op = .buildSlice t len parts) (h : zBuild P T t len parts H n = some r) (hc : r.c = true) : Gives P γ w0 w (execOp (opEval tmps) o) r.er.val r.er.H r.er.n := by
  unfold zBuild at h; split at h
  case h_2 => cases h
  rename_i e z cs hb; split at h
  case h_2 => cases h
  rename_i sh hsh; split at h
  case h_2 => cases h
  rename_i cf cs' H1 hf; split at h
  case h_2 => cases h
  rename_i c hcc; rw [bc_eq] at h; split at h
  case isFalse => cases h
  rename_i hz; rw [bc_eq] at h; split at h
  case isFalse => cases h
  rename_i hnb; injection h with h; subst h
  obtain ⟨ca, hr, hcs, hs, hl⟩ := bsCore_ok (γ := γ) hT ho hb w; obtain ⟨γ1, g1, g2, g3⟩ := frzL_ok (f := frzE 6) (fun hH ha h hc => frzE_ok hH ha h hc) hH hcs hf hc; obtain ⟨γ2, w2, k1, k2, x, k3, k4⟩ := gives_new (P := P) (a := .slO n z len true) g2 hnb g3 hr fun γ' e => .slO n z len true _ ⟨(fun e => by cases e), fun _ => ⟨⟨w.heap.size, 0⟩, ca.size, len, e, rfl, Nat.le_refl _, by unfold maxLen; omega, .inl (by rw [hs])⟩⟩; exact ⟨γ2, w2, g1.trans k1, k2.newSeq hnb (contC_ok hcc).2.2.2, x, k3, k4⟩

noncomputable def zEmpty (P : Program) (t : TypeId) (len : Nat) (parts : Array (Nat × Operand)) (H : Tr EK) (n : Nat) : Option YR := match exBS0 P t len parts H n with
  | some _ => match elemInfo P t with
    | some ei => match shOf P 6 ei.e with
      | some sh => bc (Nat.ble n 65535) (some ⟨true, ⟨some (.slO n ei.z 0 true), H.put n (some (.seq ei.e (mkC sh []) true)), Nat.succ n⟩⟩) none
      | none => none
    | none => none
  | none => none
theorem zEmpty_ok (hH : HR γ w0 H n w) {t : TypeId} {len : Nat} {parts : Array (Nat × Operand)} {r : YR} (ho : o.op = .buildSlice t len parts) (h : zEmpty P t len parts H n = some r) : Gives P γ w0 w (execOp (opEval tmps) o) r.er.val r.er.H r.er.n := by
  unfold zEmpty at h; split at h
  case h_2 => cases h
  rename_i er her; split at h
  case h_2 => cases h
  rename_i ei hei; split at h
  case h_2 => cases h
  rename_i sh hsh; rw [bc_eq] at h; split at h
  case isFalse => cases h
  rename_i hnb; injection h with h; subst h
  have hg := exBS0_ok (tmps := tmps) hH ho her; unfold exBS0 at her; split at her
  case h_2 => cases her
  split at her
  case h_2 => cases her
  split at her
  case h_2 => cases her
  rename_i ei2 hei2; rw [hei] at hei2; injection hei2 with hei2; subst hei2
  rw [bc_eq, if_pos hnb] at her; injection her with her; subst her
  obtain ⟨γ', w', hle, hH2, x, hx, hcx⟩ := hg; have hgn : (H.put n (some (EK.cells ei.e [] true))).get n = some (.cells ei.e [] true) := by rw [Tr.get_put hnb, if_pos rfl]
  obtain ⟨b, m, e1, _, ca, _, _, _, e3, _⟩ := hH2.hp n _ hgn; have e3 := e3 rfl; refine ⟨γ', w', hle, hH2.newSeq hnb fun γ vs hv => (by rw [mkC_enc]; exact hv), x, hx, ?_⟩; show EC γ' (.slO n ei.z 0 true) x
  cases hcx with
  | sl _ _ _ _ _ b2 m2 c2 q1 q2 q3 q4 q5 q6 =>
    rw [e1] at q1; simp only [Option.some.injEq, Prod.mk.injEq] at q1; obtain ⟨rfl, rfl⟩ := q1; have := q5 _ rfl; subst this; exact .slO n ei.z 0 true _ ⟨(fun e => by cases e), fun _ => ⟨b, m, 0, e1, rfl, q2, q3, .inr rfl⟩⟩

noncomputable def zCutO (P : Program) (T : Tr EV) (t : TypeId) (x : Operand) (lo hi mx : Option Operand) (H : Tr EK) (n : Nat) : Option YR := match yCut P T t x lo hi mx H n with
  | some r => match r.er.val with
    | some (.slO i z _ nn) => match r.er.H.get i with
      | some (.seq _ c _) => some ⟨r.c, ⟨some (.slO i z c.cnt nn), r.er.H, r.er.n⟩⟩
      | _ => none
    | _ => none
  | none => none
theorem SyC.take_cnt (c : SyC) (k : Nat) : (c.take k).cnt = min k c.cnt := by
  cases c <;> exact List.length_take
theorem zCutO_ok (hT : TOk γ T tmps) (hH : HR γ w0 H n w) {t : TypeId} {x : Operand} {lo hi mx : Option Operand} {r : YR} (ho : o.op = .slice t x lo hi mx) (h : zCutO P T t x lo hi mx H n = some r) (hc : r.c = true) : Gives P γ w0 w (execOp (opEval tmps) o) r.er.val r.er.H r.er.n := by
  unfold zCutO at h; split at h
  case h_2 => cases h
  rename_i r0 hr; split at h
  case h_2 => cases h
  rename_i i z len nn hv; split at h
  case h_2 => cases h
  rename_i ty c nn' hg; injection h with h; subst h
  have hgv := yCut_ok hT hH ho hr hc; have e : len = c.cnt := by
    unfold yCut at hr; split at hr
    · cases hr
    split at hr
    · cases hr
    split at hr
    · cases hr
    split at hr
    case h_2 => cases hr
    split at hr
    case h_2 => cases hr
    rename_i c0 _ _; split at hr
    case h_2 => cases hr
    rename_i k hk; split at hr
    case h_2 => cases hr
    rw [bc_eq] at hr; split at hr
    case isFalse => cases hr
    rw [bc_eq] at hr; split at hr
    case isFalse => cases hr
    rename_i hi; injection hr with hr; subst hr
    obtain ⟨_, h2⟩ := bcT hc; obtain ⟨h2, h3⟩ := bcT h2; have h2 := Nat.le_of_ble_eq_true h2; have h3 := Nat.eq_of_beq_eq_true h3; injection hv with hv
    injection hv with e1 e2 e3 e4
    subst e1; have hg : (Tr.put H _ _).get _ = some (EK.seq ty c nn') := hg; rw [Tr.get_put hi, if_pos rfl] at hg; injection hg with hg
    injection hg with g1 g2 g3
    rw [← g2, SyC.take_cnt]; omega
  rw [hv, e] at hgv; exact hgv

noncomputable def zAppZ (P : Program) (T : Tr EV) (x y : Operand) (t u : TypeId) (H : Tr EK) (n : Nat) : Option YR := match exVal T x with
  | some (.v (.slice none 0 0)) => match intOf (exVal T y) with
    | some m => match elemInfo P t with
      | some ei => match Sx.zeroL P ei.e with
        | some zs => match shOf P 6 ei.e with
          | some sh => match zeroRow sh zs with
            | some r0 => bc (isInt P u) (bc (Nat.beq ei.z zs.length) (bc (Nat.ble n 65535) (some ⟨bc (decide (0 < m)) (decide (m ≤ 4096)) false, ⟨some (.slO n ei.z m.toNat true), H.put n (some (.seq ei.e (mkC sh (List.replicate m.toNat r0)) true)), Nat.succ n⟩⟩) none) none) none
            | none => none
          | none => none
        | none => none
      | none => none
    | none => none
  | _ => none
theorem zAppZ_ok (hT : TOk γ T tmps) (hH : HR γ w0 H n w) {x y : Operand} {t u : TypeId} {r : YR} (ho : o.op = .call { callee := .builtin .append, args := #[x, y], argTypes := #[t, u] }) (h : zAppZ P T x y t u H n = some r) (hc : r.c = true) : Gives P γ w0 w (execOp (opEval tmps) o) r.er.val r.er.H r.er.n := by
  unfold zAppZ at h; split at h
  case h_2 => cases h
  rename_i hx; split at h
  case h_2 => cases h
  rename_i m hy; split at h
  case h_2 => cases h
  rename_i ei hei; split at h
  case h_2 => cases h
  rename_i zs hzs; split at h
  case h_2 => cases h
  rename_i sh hsh; split at h
  case h_2 => cases h
  rename_i r0 hr0; rw [bc_eq] at h; split at h
  case isFalse => cases h
  rename_i h1; rw [bc_eq] at h; split at h
  case isFalse => cases h
  rename_i h2; rw [bc_eq] at h; split at h
  case isFalse => cases h
  rename_i h4; injection h with h; subst h
  have hc : bc (decide (0 < m)) (decide (m ≤ 4096)) false = true := hc; obtain ⟨h5, h6⟩ := bcT hc; have h5 := of_decide_eq_true h5; have h6 := of_decide_eq_true h6; obtain ⟨m, rfl⟩ := Int.eq_ofNat_of_zero_le (show 0 ≤ m by omega); have h2 := Nat.eq_of_beq_eq_true h2; obtain ⟨kn, hkn⟩ := isInt_ok h1; obtain ⟨hu, inf, zv, hi, hz, hsz, hzsz, hpos, hby⟩ := elemInfo_ok hei; obtain ⟨inf2, zv2, hi2, hz2, hzl⟩ := zero_of hzs; rw [hi] at hi2; injection hi2 with hi2; subst hi2
  rw [hz] at hz2; injection hz2 with hz2; subst hz2
  have hb2 : m * inf.bytes ≤ 281474976710656 := Nat.le_trans (Nat.mul_le_mul (show m ≤ 4096 by omega) hby) (by decide); obtain ⟨κ, hyy⟩ := intOf_ok hT hy; obtain ⟨γ', w', hle, hH2, v, hv, hcv⟩ := appZ_gives hH ho (ec_v (exVal_ok hT hx)) hyy hu hkn hi hz (by simpa using hzl) hzsz (show 0 < m by omega) (by rw [hsz]; exact hpos) (show m ≤ 4096 by omega) hb2 h4; exact ⟨γ', w', hle, hH2.newSeq h4 (fun γ vs hvs => by rw [mkC_enc, Int.toNat_natCast]; exact zeroRows hr0 m vs (by rw [← h2]; exact hvs)), v, hv, sl_slO hcv⟩

noncomputable def bytesL (s : ByteArray) : List Int := s.data.toList.map fun b => Int.ofNat b.toNat
noncomputable def zToB (P : Program) (T : Tr EV) (src dst : TypeId) (x : Operand) (H : Tr EK) (n : Nat) : Option YR := match exVal T x with
  | some (.v (.string s)) => match elemOf P dst with
    | some e => bc (isStr P src) (bc (isU8 P e) (bc (Nat.ble n 65535) (some ⟨Nat.ble s.size 65536, ⟨some (.slO n 1 s.size true), H.put n (some (.seq e (.ints .u8 (bytesL s)) true)), Nat.succ n⟩⟩) none) none) none
    | none => none
  | _ => none
theorem zToB_ok (hT : TOk γ T tmps) (hH : HR γ w0 H n w) {src dst : TypeId} {x : Operand} {r : YR} (ho : o.op = .convert src dst x) (h : zToB P T src dst x H n = some r) (hc : r.c = true) : Gives P γ w0 w (execOp (opEval tmps) o) r.er.val r.er.H r.er.n := by
  unfold zToB at h; split at h
  case h_2 => cases h
  rename_i s hx; split at h
  case h_2 => cases h
  rename_i e he; rw [bc_eq] at h; split at h
  case isFalse => cases h
  rename_i h1; rw [bc_eq] at h; split at h
  case isFalse => cases h
  rename_i h2; rw [bc_eq] at h; split at h
  case isFalse => cases h
  rename_i h4; injection h with h; subst h
  have hc : Nat.ble s.size 65536 = true := hc; have hbl : llen (bytesE s) = s.size := by
    rw [llen_eq]; unfold bytesE; rw [List.length_map, Array.length_toList]; rfl
  have hex : exToB P T src dst x H n = some ⟨some (.sl n 1 0 (llen (bytesE s)) none), H.put n (some (.cells e (bytesE s) false)), Nat.succ n⟩ := by
    unfold exToB; rw [hx]; show (match elemOf P dst with | some e => _ | none => none) = _
    rw [he]; show bc _ _ _ = _; rw [bc_eq, if_pos h1, bc_eq, if_pos h2, hbl, bc_eq, if_pos hc, bc_eq, if_pos h4]
  obtain ⟨γ', w', hle, hH2, v, hv, hcv⟩ := exToB_ok hT hH ho hex; rw [hbl] at hcv; refine ⟨γ', w', hle, hH2.newSeq h4 (fun γ vs hvs => ?_), v, hv, sl_slO hcv⟩; have : (SyC.ints IntKind.u8 (bytesL s)).enc = bytesE s := by
    show (bytesL s).map _ = _; unfold bytesL bytesE; rw [List.map_map]; rfl
  rw [this]; exact hvs
noncomputable def zToBo (P : Program) (T : Tr EV) (o : Oper) (H : Tr EK) (n : Nat) : Option YR := match o.op with
  | .convert src dst x => zToB P T src dst x H n
  | _ => none
theorem zToBo_ok (hT : TOk γ T tmps) (hH : HR γ w0 H n w) {r : YR} (h : zToBo P T o H n = some r) (hc : r.c = true) : Gives P γ w0 w (execOp (opEval tmps) o) r.er.val r.er.H r.er.n := by
  unfold zToBo at h; split at h
  · rename_i src dst x ho; exact zToB_ok hT hH ho h hc
  · cases h
theorem zToBo_nd {r : YR} (h : zToBo P T o H n = some r) : notDefer o.op = true := by
  unfold zToBo at h; split at h
  · rename_i ho; rw [ho]; rfl
  · cases h

noncomputable def zAppOp (P : Program) (T : Tr EV) (args : List Operand) (ats : List TypeId) (H : Tr EK) (n : Nat) : Option YR := match args with
  | [x, y] => match ats with
    | [t, u] => bc (Nat.beq t u) (match exVal T x with
      | some a => match exVal T y with
        | some b => zApp P t a b H n
        | none => none
      | none => none) (zAppZ P T x y t u H n)
    | _ => none
  | _ => none
noncomputable def zOwn (P : Program) (T : Tr EV) (o : Oper) (H : Tr EK) (n : Nat) : Option YR := match o.op with
  | .alloc t => zAlloc P t H n
  | .box t x => zBox P T t x H n
  | .store t x y => zStore P T t x y H n
  | .slice t x lo hi mx => match zCutF P T t x lo hi mx H n with
    | some r => some r
    | none => zCutO P T t x lo hi mx H n
  | .makeSlice t len cap => match zMake P T t len cap H n with
    | some r => some r
    | none => match zMakeN P T t len cap H n with
      | some r => some r
      | none => zMakeR P T t len cap H n
  | .buildSlice t len parts => match yEmpty P t len parts H n with
    | some r => some r
    | none => match zEmpty P t len parts H n with
      | some r => some r
      | none => match zBuildF P T t len parts H n with
        | some r => some r
        | none => zBuild P T t len parts H n
  | .call c => match c.callee with
    | .builtin .append => zAppOp P T c.args.toList c.argTypes.toList H n
    | .builtin .copy => zCopy P T c.args.toList c.argTypes.toList H n
    | _ => none
  | _ => none
theorem zOwn_ok (hT : TOk γ T tmps) (hH : HR γ w0 H n w) {r : YR} (h : zOwn P T o H n = some r) (hc : r.c = true) : notDefer o.op = true ∧ Gives P γ w0 w (execOp (opEval tmps) o) r.er.val r.er.H r.er.n := by
  unfold zOwn at h; split at h
  · rename_i t ho; exact ⟨by rw [ho]; rfl, zAlloc_ok hH ho h⟩
  · rename_i t x ho; exact ⟨by rw [ho]; rfl, zBox_ok hT hH ho h⟩
  · rename_i t x y ho; exact ⟨by rw [ho]; rfl, zStore_ok hT hH ho h hc⟩
  · rename_i t x lo hi mx ho; refine ⟨by rw [ho]; rfl, ?_⟩; split at h
    · rename_i r' hr; injection h with h; subst h
      exact zCutF_ok hT hH ho hr hc
    · exact zCutO_ok hT hH ho h hc
  · rename_i t len cap ho; refine ⟨by rw [ho]; rfl, ?_⟩; split at h
    · rename_i r' hr; injection h with h; subst h
      exact zMake_ok hT hH ho hr hc
    · split at h
      · rename_i r' hr; injection h with h; subst h
        exact zMakeN_ok hT hH ho hr hc
      · exact zMakeR_ok hT hH ho h hc
  · rename_i t len parts ho; refine ⟨by rw [ho]; rfl, ?_⟩; split at h
    · rename_i r' hr; injection h with h; subst h
      exact yEmpty_ok hH ho hr
    · split at h
      · rename_i r' hr; injection h with h; subst h
        exact zEmpty_ok hH ho hr
      · split at h
        · rename_i r' hr; injection h with h; subst h
          exact zBuildF_ok hT hH ho hr hc
        · exact zBuild_ok hT hH ho h hc
  · rename_i c ho; refine ⟨by rw [ho]; rfl, ?_⟩; split at h
    case h_3 => cases h
    case h_2 =>
      rename_i hcal; obtain ⟨callee, args, ats⟩ := c; simp only at hcal h; subst hcal; exact zCopy_ok hT hH ho h hc
    rename_i hcal; obtain ⟨callee, args, ats⟩ := c; simp only at hcal h; subst hcal; unfold zAppOp at h; split at h
    case h_2 => cases h
    rename_i x y hargs; split at h
    case h_2 => cases h
    rename_i t u hats; have ha2 : args = #[x, y] := by apply Array.ext'; simpa using hargs
    have ha3 : ats = #[t, u] := by apply Array.ext'; simpa using hats
    subst ha2; subst ha3; rw [bc_eq] at h; split at h
    case isFalse => exact zAppZ_ok hT hH ho h hc
    rename_i htu; have htu := Nat.eq_of_beq_eq_true htu; subst htu; split at h
    case h_2 => cases h
    rename_i a ha; split at h
    case h_2 => cases h
    rename_i b hb; obtain ⟨γ', w', v', h1, h2, h3, av, h4, h5⟩ := zApp_ok (ty := o.type) hT hH (exVal_ok hT ha) (exVal_ok hT hb) h hc; refine ⟨γ', w', h1, h2, ?_⟩; rw [h4]; refine ⟨v', ?_, h5⟩; simp [execOp, ho, resolve, invoke, builtin, h3]
  · cases h
end Go.Proofs.Ytooimphimnagaaa.Ev
namespace Go.Proofs.Ytooimphimnagaaa.Ev
open Go.RowKit
variable {P : Program} {γ γ' : G} {w0 : Bs} {w : World} {H H' : Tr EK} {n n' : Nat} {T : Tr EV} {cs : List Frame} {fid : FuncId} {FT : Tr FI} {tmps : Array Value} {o : Oper}

abbrev ZS := Nat × TypeId × SyC × Bool

structure ZR where
  c : Bool
  a : EV
  K : List ZS
  n : Nat
abbrev ZCT := List EV → Option ZR
def zseqs (K : List ZS) : List (Nat × EK) := K.map fun p => (p.1, .seq p.2.1 p.2.2.1 p.2.2.2)
def ZCtOk (P : Program) (g : FuncId) (sp : ZCT) : Prop := ∀ (γ : G) (w : World) (us : Array Value) (ax : List EV) (r : ZR), sp ax = some r → r.c = true → ECL γ ax us.toList → (∀ i, γ i = none) → FzAt γ w →
  Calls P g us w fun e w' => ∃ γ' x, e = .returned x ∧ EC γ' r.a x ∧ HR γ' (Bs.ofG w γ) (mkT (zseqs r.K)) r.n w'

noncomputable def dataB (k : Nat) : EV → Bool := Nat.rec (fun _ => false) (fun _ ih a => match a with
  | .v _ => true
  | .lst _ => true
  | .arr _ => true
  | .agg l => allL ih l
  | .tup l => allL ih l
  | .fn _ l => allL ih l
  | _ => false) k
theorem EC.data : ∀ {k : Nat} {a : EV} {x : Value}, dataB k a = true → EC γ a x → (∀ k a, γ.fz k = some a → γ'.fz k = some a) → EC γ' a x
  | 0, a, x, h, _, _ => by cases h
  | k + 1, a, x, h, ha, hfz => by
    cases ha with
    | v x => exact .v x
    | lst c x hu => exact .lst c x (hu.mono hfz)
    | arr c vs hv => exact .arr c vs hv
    | agg l vs hl hh => exact .agg l vs hl fun j b y hb hy => (hh j b y hb hy).data (allL_ok (show allL (dataB k) l = true from h) b (List.mem_of_getElem? hb)) hfz
    | tup l vs hl hh => exact .tup l vs hl fun j b y hb hy => (hh j b y hb hy).data (allL_ok (show allL (dataB k) l = true from h) b (List.mem_of_getElem? hb)) hfz
    | fn f l vs hl hh => exact .fn f l vs hl fun j b y hb hy => (hh j b y hb hy).data (allL_ok (show allL (dataB k) l = true from h) b (List.mem_of_getElem? hb)) hfz
    | _ => cases h

noncomputable def scalB (k : Nat) : EV → Bool := Nat.rec (fun _ => false) (fun _ ih a => match a with
  | .v _ => true
  | .arr _ => true
  | .agg l => allL ih l
  | .tup l => allL ih l
  | _ => false) k
theorem EC.scal : ∀ {k : Nat} {a : EV} {x : Value}, scalB k a = true → EC γ a x → EC γ' a x
  | 0, a, x, h, _ => by cases h
  | k + 1, a, x, h, ha => by
    cases ha with
    | v x => exact .v x
    | arr c vs hv => exact .arr c vs hv
    | agg l vs hl hh => exact .agg l vs hl fun j b y hb hy => (hh j b y hb hy).scal (allL_ok (show allL (scalB k) l = true from h) b (List.mem_of_getElem? hb))
    | tup l vs hl hh => exact .tup l vs hl fun j b y hb hy => (hh j b y hb hy).scal (allL_ok (show allL (scalB k) l = true from h) b (List.mem_of_getElem? hb))
    | _ => cases h
theorem Sh.ev_data (s : Sh) (u : U) : dataB 1 (s.ev u) = true := by cases s <;> rfl
theorem SyC.enc_fz {c : SyC} {vs : List Value} (h : ECL γ c.enc vs) (hfz : ∀ k a, γ.fz k = some a → γ'.fz k = some a) : ECL γ' c.enc vs := by
  refine ⟨h.1, fun j a x ha hx => (h.2 j a x ha hx).data (k := 1) ?_ hfz⟩; have hm := List.mem_of_getElem? ha; rw [c.enc_rows] at hm; obtain ⟨r, _, hr⟩ := List.mem_flatMap.1 hm; obtain ⟨f, hf, rfl⟩ := List.getElem_of_mem hr; rw [recE_len] at hf; have := recE_get (s := c.sh[f]) (f := f) r (List.getElem?_eq_getElem hf); rw [List.getElem?_eq_getElem (by rw [recE_len]; exact hf)] at this; injection this with this
  rw [this]; exact Sh.ev_data _ _

noncomputable def shZ (n k : Nat) : EV → Option EV := Nat.rec (fun _ => none) (fun _ ih a => match a with
  | .v x => some (.v x)
  | .lst c => some (.lst c)
  | .arr c => some (.arr c)
  | .slO i z len nn => some (.slO (n + i) z len nn)
  | .tup l => match mapZ ih l with
    | some l => some (.tup l)
    | none => none
  | .agg l => match mapZ ih l with
    | some l => some (.agg l)
    | none => none
  | _ => none) k
where mapZ (f : EV → Option EV) (l : List EV) : Option (List EV) := List.rec (some []) (fun a _ ih => match f a with
  | some x => match ih with
    | some r => some (x :: r)
    | none => none
  | none => none) l
theorem mapZ_ok {f : EV → Option EV} : ∀ {l r : List EV}, shZ.mapZ f l = some r → r.length = l.length ∧ ∀ (j : Nat) (b : EV), r[j]? = some b → ∃ a, l[j]? = some a ∧ f a = some b
  | [], r, h => by
    injection (show some [] = some r from h) with h; subst h
    exact ⟨rfl, fun j b hb => by simp at hb⟩
  | a :: l, r, h => by
    have h' : (match f a with
      | some x => match shZ.mapZ f l with
        | some r => some (x :: r)
        | none => none
      | none => none) = some r := h
    split at h'
    case h_2 => cases h'
    rename_i x hx; split at h'
    case h_2 => cases h'
    rename_i r' hr; injection h' with h'; subst h'
    obtain ⟨h1, h2⟩ := mapZ_ok hr; refine ⟨by simp [h1], fun j b hb => ?_⟩
    cases j with
    | zero => simp at hb; subst hb; exact ⟨a, rfl, hx⟩
    | succ j => obtain ⟨c, h3, h4⟩ := h2 j b (by simpa using hb); exact ⟨c, by simpa using h3, h4⟩
theorem shZ_ok {n : Nat} : ∀ {k : Nat} {a a' : EV} {x : Value}, shZ n k a = some a' → EC γ a x → (∀ i, γ' (n + i) = γ i) → (∀ k a, γ.fz k = some a → γ'.fz k = some a) → EC γ' a' x
  | 0, a, a', x, h, _, _, _ => by cases h
  | k + 1, a, a', x, h, hc, hγ, hfz => by
    cases hc with
    | v x => injection (show some (EV.v x) = some a' from h) with h; subst h; exact .v x
    | lst c x hu => injection (show some (EV.lst c) = some a' from h) with h; subst h; exact .lst c x (hu.mono hfz)
    | arr c vs hv => injection (show some (EV.arr c) = some a' from h) with h; subst h; exact .arr c vs hv
    | slO i z len nn x hs =>
      injection (show some (EV.slO (n + i) z len nn) = some a' from h) with h; subst h
      exact .slO (n + i) z len nn x ⟨hs.1, fun q => let ⟨b, m, c, q1, q2⟩ := hs.2 q; ⟨b, m, c, by rw [hγ]; exact q1, q2⟩⟩
    | tup l vs hl hh =>
      have h' : (match shZ.mapZ (shZ n k) l with
        | some l => some (EV.tup l)
        | none => none) = some a' := h
      split at h'
      case h_2 => cases h'
      rename_i r hr; injection h' with h'; subst h'
      obtain ⟨g1, g2⟩ := mapZ_ok hr; refine .tup r vs (by omega) fun j b y hb hy => ?_; obtain ⟨b0, g3, g4⟩ := g2 j b hb; exact shZ_ok g4 (hh j b0 y g3 hy) hγ hfz
    | agg l vs hl hh =>
      have h' : (match shZ.mapZ (shZ n k) l with
        | some l => some (EV.agg l)
        | none => none) = some a' := h
      split at h'
      case h_2 => cases h'
      rename_i r hr; injection h' with h'; subst h'
      obtain ⟨g1, g2⟩ := mapZ_ok hr; refine .agg r vs (by omega) fun j b y hb hy => ?_; obtain ⟨b0, g3, g4⟩ := g2 j b hb; exact shZ_ok g4 (hh j b0 y g3 hy) hγ hfz
    | _ => cases h

def G.behindZ (γ : G) (n : Nat) (γ' : G) : G := ⟨fun j => if j < n then γ j else γ' (j - n), γ'.fz, γ.rw⟩
theorem G.behindZ_new (γ : G) (n : Nat) (γ' : G) (m : Nat) : γ.behindZ n γ' (n + m) = γ' m := by show (if n + m < n then γ (n + m) else γ' (n + m - n)) = _; rw [if_neg (by omega)]; congr 1; omega
noncomputable def putZ (n : Nat) (K : List ZS) (H : Tr EK) : Tr EK := List.rec H (fun p _ ih => Tr.put ih (n + p.1) (some (.seq p.2.1 p.2.2.1 p.2.2.2))) K
theorem putZ_get {n : Nat} {H : Tr EK} : ∀ {K : List ZS}, (∀ p, p ∈ K → n + p.1 ≤ 65535) → ∀ {j : Nat} {k : EK}, (putZ n K H).get j = some k → (∃ p, p ∈ K ∧ j = n + p.1 ∧ k = .seq p.2.1 p.2.2.1 p.2.2.2) ∨ H.get j = some k
  | [], _, j, k, h => .inr h
  | p :: K, hb, j, k, h => by
    have h' : (Tr.put (putZ n K H) (n + p.1) (some (.seq p.2.1 p.2.2.1 p.2.2.2))).get j = some k := h; rw [Tr.get_put (Nat.ble_eq_true_of_le (hb p (by simp)))] at h'; split at h'
    · injection h' with h'
      exact .inl ⟨p, by simp, by assumption, h'.symm⟩
    · rcases putZ_get (fun q hq => hb q (by simp [hq])) h' with ⟨q, h1, h2⟩ | h1
      · exact .inl ⟨q, by simp [h1], h2⟩
      · exact .inr h1

theorem fz_kept {γ0 : G} {H2 : Tr EK} {w' : World} (hz : γ0.fz = γ.fz) (ha : ∀ k a, γ.fz k = some a → ∃ (ty : TypeId) (fz : Nat × Nat), w.heap[k]? = some (.cells a ty fz)) (h : HR γ' (Bs.ofG w γ0) H2 n' w') : ∀ k a, γ.fz k = some a → γ'.fz k = some a := fun k a hk => by
  obtain ⟨a', ha'⟩ := h.fzk.base k (show ∃ a, γ0.fz k = some a from ⟨a, by rw [hz]; exact hk⟩); obtain ⟨⟨ty, fz, h1⟩, _, _⟩ := h.fzk.at' k a' ha'; obtain ⟨ty2, fz2, h2⟩ := ha k a hk; have hlt : k < w.heap.size := (Array.getElem?_eq_some_iff.1 h2).1; rw [h.stays.block k hlt] at h1; have h1 : w.heap[k]? = some (.cells a' ty fz) := h1; rw [h2] at h1; injection h1 with h1
  injection h1 with h1
  rw [ha', h1]
theorem HR.mergeZ (hH : HR γ w0 H n w) {γ0 : G} (hz : γ0.fz = γ.fz) {K : List ZS} {w' : World} (h : HR γ' (Bs.ofG w γ0) (mkT (zseqs K)) n' w') (hK : ∀ p, p ∈ K → (mkT (zseqs K)).get p.1 = some (.seq p.2.1 p.2.2.1 p.2.2.2)) (hb : ∀ p, p ∈ K → n + p.1 ≤ 65535) : GLe γ (γ.behindZ n γ') ∧ HR (γ.behindZ n γ') w0 (putZ n K H) (n + n') w' := by
  have hfz := fz_kept hz (fun k a hk => (hH.fzk.at' k a hk).1) h; have hle0 : ∀ i p, γ i = some p → (γ.behindZ n γ') i = some p := fun i p e => by
    show (if i < n then γ i else γ' (i - n)) = some p
    split
    · exact e
    · rw [hH.fresh i (by omega)] at e; cases e
  have hle : GLe γ (γ.behindZ n γ') := ⟨hle0, hfz, fun _ _ _ _ h => h⟩; refine ⟨hle, ?_⟩; have old : ∀ b : Nat, b < w.heap.size → w'.heap[b]? = w.heap[b]? := fun b hb => h.stays.block b hb; have hsz : w.heap.size ≤ w'.heap.size := h.stays.size
  have cls : ∀ j k, (putZ n K H).get j = some k → k.Nil ∨ (∃ b m, γ j = some (b, m) ∧ H.get j = some k ∧ ¬ k.Nil ∧ (γ.behindZ n γ') j = some (b, m) ∧ b.k < w.heap.size ∧ ¬ w0.F b.k ∧ k.ok (γ.behindZ n γ') b m w') ∨ (∃ q b m, j = n + q ∧ (mkT (zseqs K)).get q = some k ∧ ¬ k.Nil ∧ γ' q = some (b, m) ∧ (γ.behindZ n γ') j = some (b, m) ∧ w.heap.size ≤ b.k ∧ k.ok (γ.behindZ n γ') b m w') := fun j k hk => by
    by_cases hn : k.Nil
    · exact .inl hn
    right; rcases putZ_get hb hk with ⟨p, hp, rfl, rfl⟩ | hk
    · right; have hg := hK p hp; obtain ⟨b, m, e1, e2, e3⟩ := h.hp p.1 _ hg hn; obtain ⟨ca, q1, q2, q3, q4⟩ := e3; exact ⟨p.1, b, m, rfl, hg, hn, e1, (G.behindZ_new γ n γ' p.1).trans e1, Nat.le_of_not_lt e2, ca, q1, q2, q3, SyC.enc_fz q4 fun _ _ h => h⟩
    · left; obtain ⟨b, m, e1, e2, e3⟩ := hH.hp j k hk hn; exact ⟨b, m, e1, hk, hn, hle _ _ e1, hH.lt j _ e1, e2, EK.ok_mono hle (old _ (hH.lt j _ e1)) e3⟩
  have nst : ∀ j k, (putZ n K H).get j = some k → k.nestB = true → H.get j = some k := fun j k hk hb2 => by
    rcases putZ_get hb hk with ⟨p, hp, rfl, rfl⟩ | hk
    · cases hb2
    · exact hk
  refine ⟨fun j k hk => ?_, fun j l kj kl hj hl nj nl hne bj bl ej el => ?_, fun j hj => ?_, fun j hj => ?_, fun j p e => ?_, ?_, ⟨fun k a hk => ?_, fun k hk => ?_, fun i v q p e => ?_, fun i me ty sh rows v ho nn e => ?_, fun i me ty sh rows v ho nn e j f sh' hj hf hh k m hk => ?_⟩⟩
  · rcases cls j k hk with h1 | ⟨b, m, h1, h2, h3, h4, h5, h6, h7⟩ | ⟨q, b, m, h1, h2, h3, h4, h5, h6, h7⟩
    · exact .inl h1
    · exact .inr ⟨b, m, h4, h6, h7⟩
    · exact .inr ⟨b, m, h5, hH.notF h6, h7⟩
  · rcases cls j kj hj with h1 | ⟨b, m, h1, h2, h3, h4, h5, h6, h7⟩ | ⟨q, b, m, h1, h2, h3, h4, h5, h6, h7⟩
    · exact absurd h1 nj
    · rw [h4] at ej; injection ej with ej; subst ej
      rcases cls l kl hl with g1 | ⟨b', m', g1, g2, g3, g4, g5, g6, g7⟩ | ⟨q', b', m', g1, g2, g3, g4, g5, g6, g7⟩
      · exact absurd g1 nl
      · rw [g4] at el; injection el with el; subst el
        exact hH.inj0 j l kj kl h2 g2 h3 g3 hne _ _ h1 g1
      · rw [g5] at el; injection el with el; subst el
        show b.k ≠ b'.k; omega
    · rw [h5] at ej; injection ej with ej; subst ej
      rcases cls l kl hl with g1 | ⟨b', m', g1, g2, g3, g4, g5, g6, g7⟩ | ⟨q', b', m', g1, g2, g3, g4, g5, g6, g7⟩
      · exact absurd g1 nl
      · rw [g4] at el; injection el with el; subst el
        show b.k ≠ b'.k; omega
      · rw [g5] at el; injection el with el; subst el
        exact h.inj0 q q' kj kl h2 g2 h3 g3 (fun e => hne (by omega)) _ _ h4 g4
  · show (if j < n then γ j else γ' (j - n)) = none
    rw [if_neg (by omega)]; exact h.fresh _ (by omega)
  · obtain ⟨r1, r2⟩ := hH.rsv j hj; exact ⟨by show (if j < n then γ j else γ' (j - n)) = none; rw [if_pos r2]; exact r1, by omega⟩
  · have e : (if j < n then γ j else γ' (j - n)) = some p := e
    split at e
    · have := hH.lt j p e; omega
    · exact h.lt _ p e
  · refine ⟨h.stays.os.trans hH.stays.os, h.stays.tape.trans hH.stays.tape, h.stays.output.trans hH.stays.output, by have := hH.stays.size; omega, fun k hk => ?_⟩; have := hH.stays.size; have := w0.lt k hk; rw [old k (by omega)]; exact hH.stays.block k hk
  · have hk : γ'.fz k = some a := hk; obtain ⟨g1, g2, g3⟩ := h.fzk.at' k a hk; have side : (∃ a', γ.fz k = some a') ∨ w.heap.size ≤ k := g2.imp (fun ⟨a', e⟩ => ⟨a', by rw [← hz]; exact e⟩) fun e => Nat.le_of_not_lt e; refine ⟨g1, ?_, fun j kj b m hj nj ej => ?_⟩
    · rcases side with ⟨a', e⟩ | e
      · exact (hH.fzk.at' k a' e).2.1
      · exact .inr (hH.notF e)
    · rcases cls j kj hj with h1 | ⟨b', m', h1, h2, h3, h4, h5, h6, h7⟩ | ⟨q, b', m', h1, h2, h3, h4, h5, h6, h7⟩
      · exact absurd h1 nj
      · rw [h4] at ej; injection ej with ej; injection ej with e1 e2; subst e1
        rcases side with ⟨a', e⟩ | e
        · exact (hH.fzk.at' k a' e).2.2 j kj _ _ h2 h3 h1
        · omega
      · rw [h5] at ej; injection ej with ej; injection ej with e1 e2; subst e1
        exact g3 q kj _ _ h2 h3 h4
  · obtain ⟨a, ha⟩ := hH.fzk.base k hk; exact ⟨a, hfz k a ha⟩
  · obtain ⟨b, hb⟩ := hH.fzk.nst.rwg i v q p e; exact ⟨b, hle0 _ _ hb⟩
  · exact hH.fzk.nst.me i me ty sh rows v ho nn (nst i _ e rfl)
  · obtain ⟨q1, q2, q3, q4, arr, ty3, q5, q6, q7⟩ := hH.fzk.nst.at' i me ty sh rows v ho nn (nst i _ e rfl) j f sh' hj hf hh k m hk; have hkl := q5.lt; refine ⟨q1, ?_, fun i' ki b m' hi' ni ei => ?_, fun i2 me2 ty2 sh2 rows2 v2 ho2 nn2 e2 => q4 i2 me2 ty2 sh2 rows2 v2 ho2 nn2 (nst i2 _ e2 rfl), arr, ty3, q5.mono (old k hkl), q6, fun a g s ha hs => let ⟨x, hx, hc⟩ := q7 a g s ha hs; ⟨x, hx, hc.mono hle⟩⟩
    · cases e3 : γ'.fz k with
      | none => exact e3
      | some a =>
        rcases (h.fzk.at' k a e3).2.1 with ⟨a', e4⟩ | e4
        · rw [hz, q2] at e4; cases e4
        · exact absurd hkl e4
    · rcases cls i' ki hi' with h1 | ⟨b', m2, h1, h2, h3, h4, h5, h6, h7⟩ | ⟨q, b', m2, h1, h2, h3, h4, h5, h6, h7⟩
      · exact absurd h1 ni
      · rw [h4] at ei; injection ei with ei; injection ei with e1 e2; subst e1
        exact q3 i' ki _ _ h2 h3 h1
      · rw [h5] at ei; injection ei with ei; injection ei with e1 e2; subst e1
        omega

theorem HR.after (hH : HR γ w0 H n w) {w' : World} (h : Stays w w') : HR γ w0 H n w' := by
  refine ⟨fun i k hk => (hH.hp0 i k hk).imp id fun ⟨b, m, h1, h2, h3⟩ => ⟨b, m, h1, h2, EK.ok_mono (GLe.refl _) (h.block _ (hH.lt i _ h1)) h3⟩, hH.inj0, hH.fresh, hH.rsv, fun i p e => Nat.lt_of_lt_of_le (hH.lt i p e) h.size,
    ⟨h.os.trans hH.stays.os, h.tape.trans hH.stays.tape, h.output.trans hH.stays.output, Nat.le_trans hH.stays.size h.size, fun k hk => (h.block k (Nat.lt_of_lt_of_le (w0.lt k hk) hH.stays.size)).trans (hH.stays.block k hk)⟩, ⟨fun k a hk => ?_, hH.fzk.base, hH.fzk.nst.rwg, hH.fzk.nst.me, fun i me ty sh rows v ho nn e j f sh' hj hf hh k m hk => let ⟨q1, q2, q3, q4, arr, ty3, q5, q6, q7⟩ := hH.fzk.nst.at' i me ty sh rows v ho nn e j f sh' hj hf hh k m hk; ⟨q1, q2, q3, q4, arr, ty3, q5.mono (h.block k q5.lt), q6, q7⟩⟩⟩
  obtain ⟨⟨ty, fz, h1⟩, h2, h3⟩ := hH.fzk.at' k a hk; exact ⟨⟨ty, fz, (h.block k (Array.getElem?_eq_some_iff.1 h1).1).trans h1⟩, h2, h3⟩

noncomputable def zCallQ (sp : ZCT) (ax : List EV) (H : Tr EK) : Option (Bool × EV) := match frzL (frzE 6) ax H with
  | some (cf, ax', _) => bc (allL (dataB 6) ax') (match sp ax' with
    | some r => bc (scalB 4 r.a) (some (bc cf r.c false, r.a)) none
    | none => none) none
  | none => none
noncomputable def oneZ (n : Nat) (K : List ZS) : Bool := match K with
  | [] => true
  | [p] => Nat.ble (n + p.1) 65535
  | _ => false
noncomputable def zCallL (sp : ZCT) (ax : List EV) (H : Tr EK) (n : Nat) : Option (Bool × EV × Tr EK × Nat) := match frzL (frzE 6) ax H with
  | some (cf, ax', H1) => bc (allL (dataB 6) ax') (match sp ax' with
    | some r => match shZ n 6 r.a with
      | some a => bc (oneZ n r.K) (some (bc cf r.c false, a, putZ n r.K H1, n + r.n)) none
      | none => none
    | none => none) none
  | none => none
theorem oneZ_ok {n : Nat} {K : List ZS} (h : oneZ n K = true) : (∀ p, p ∈ K → (mkT (zseqs K)).get p.1 = some (.seq p.2.1 p.2.2.1 p.2.2.2)) ∧ ∀ p, p ∈ K → n + p.1 ≤ 65535 := by
  cases K with
  | nil => exact ⟨fun p hp => by simp at hp, fun p hp => by simp at hp⟩
  | cons p1 K =>
    cases K with
    | cons p2 K => cases h
    | nil =>
      have hone := Nat.le_of_ble_eq_true (show Nat.ble (n + p1.1) 65535 = true from h)
      refine ⟨fun p hp => ?_, fun p hp => by simp at hp; subst hp; exact hone⟩; simp at hp; subst hp; have h9 : Nat.ble p.1 65535 = true := Nat.ble_eq_true_of_le (by omega); show (bc (Nat.ble p.1 65535) (Tr.put .nil p.1 (some (EK.seq p.2.1 p.2.2.1 p.2.2.2))) .nil).get p.1 = _; rw [bc_eq, if_pos h9, Tr.get_put h9, if_pos rfl]
def G.dat (γ : G) : G := ⟨fun _ => none, γ.fz, fun _ _ _ => none⟩
theorem ECL.dat {ax : List EV} {us : List Value} (h : allL (dataB 6) ax = true) (ha : ECL γ ax us) : ECL γ.dat ax us := ⟨ha.1, fun j a x h1 h2 => (ha.2 j a x h1 h2).data (allL_ok h a (List.mem_of_getElem? h1)) fun _ _ h => h⟩
theorem zCallQ_ok {g : FuncId} {sp : ZCT} (hsp : ZCtOk P g sp) (hH : HR γ w0 H n w) {ax : List EV} {us : Array Value} (ha : ECL γ ax us.toList) {r : Bool × EV} (h : zCallQ sp ax H = some r) (hc : r.1 = true) : Calls P g us w fun e w' => ∃ γ' x, GLe γ γ' ∧ HR γ' w0 H n w' ∧ EC γ' r.2 x ∧ e = .returned x := by
  unfold zCallQ at h; split at h
  case h_2 => cases h
  rename_i cf ax' H1 hf; rw [bc_eq] at h; split at h
  case isFalse => cases h
  rename_i hd; split at h
  case h_2 => cases h
  rename_i q hq; rw [bc_eq] at h; split at h
  case isFalse => cases h
  rename_i hs; injection h with h; subst h
  obtain ⟨k1, k2⟩ := bcT hc; obtain ⟨γ1, g1, g2, g3⟩ := frzL_ok (f := frzE 6) (fun hH ha h hc => frzE_ok hH ha h hc) hH ha hf k1; refine (hsp γ1.dat w us ax' q hq k2 (g3.dat hd) (fun _ => rfl) g2.fzAt).mono ?_
  rintro e w' ⟨γ', x, rfl, p1, p2⟩
  have hst : Stays w w' := ⟨p2.stays.os, p2.stays.tape, p2.stays.output, p2.stays.size, p2.stays.block⟩; exact ⟨γ, x, GLe.refl γ, hH.after hst, p1.scal hs, rfl⟩
theorem zCallL_ok {g : FuncId} {sp : ZCT} (hsp : ZCtOk P g sp) (hH : HR γ w0 H n w) {ax : List EV} {us : Array Value} (ha : ECL γ ax us.toList) {r : Bool × EV × Tr EK × Nat} (h : zCallL sp ax H n = some r) (hc : r.1 = true) : Calls P g us w fun e w' => ∃ γ' x, GLe γ γ' ∧ HR γ' w0 r.2.2.1 r.2.2.2 w' ∧ EC γ' r.2.1 x ∧ e = .returned x := by
  unfold zCallL at h; split at h
  case h_2 => cases h
  rename_i cf ax' H1 hf; rw [bc_eq] at h; split at h
  case isFalse => cases h
  rename_i hd; split at h
  case h_2 => cases h
  rename_i q hq; split at h
  case h_2 => cases h
  rename_i a hsh; rw [bc_eq] at h; split at h
  case isFalse => cases h
  rename_i hone; injection h with h; subst h
  obtain ⟨k1, k2⟩ := bcT hc; obtain ⟨γ1, g1, g2, g3⟩ := frzL_ok (f := frzE 6) (fun hH ha h hc => frzE_ok hH ha h hc) hH ha hf k1; refine (hsp γ1.dat w us ax' q hq k2 (g3.dat hd) (fun _ => rfl) g2.fzAt).mono ?_
  rintro e w' ⟨γ', x, rfl, p1, p2⟩
  obtain ⟨o1, o2⟩ := oneZ_ok hone; obtain ⟨m1, m2⟩ := g2.mergeZ (γ0 := γ1.dat) rfl p2 o1 o2; exact ⟨γ1.behindZ n γ', x, g1.trans m1, m2, shZ_ok hsh p1 (fun i => G.behindZ_new γ1 n γ' i) fun _ _ h => h, rfl⟩
end Go.Proofs.Ytooimphimnagaaa.Ev
namespace Go.Proofs.Ytooimphimnagaaa.Ev
open Go.RowKit
variable {P : Program} {γ γ' : G} {w0 : Bs} {w : World} {H H' : Tr EK} {n n' : Nat} {T : Tr EV} {cs : List Frame} {fid : FuncId} {FT : Tr FI} {tmps : Array Value} {o : Oper} {α : Type}


noncomputable def lookN (ρ : List (Nat × Nat)) (i : Nat) : Option Nat := List.rec none (fun p _ ih => bc (Nat.beq p.1 i) (some p.2) ih) ρ
noncomputable def invN (ρ : List (Nat × Nat)) (j : Nat) : Option Nat := List.rec none (fun p _ ih => bc (Nat.beq p.2 j) (some p.1) ih) ρ
theorem lookN_mem {i j : Nat} : ∀ {ρ : List (Nat × Nat)}, lookN ρ i = some j → (i, j) ∈ ρ
  | [], h => by cases h
  | p :: ρ, h => by
    have h' : bc (Nat.beq p.1 i) (some p.2) (lookN ρ i) = some j := h; rw [bc_eq] at h'; split at h'
    · rename_i e; have e := Nat.eq_of_beq_eq_true e; injection h' with h'; subst e; subst h'; simp
    · simp [lookN_mem h']
theorem invN_mem {i j : Nat} : ∀ {ρ : List (Nat × Nat)}, invN ρ j = some i → (i, j) ∈ ρ
  | [], h => by cases h
  | p :: ρ, h => by
    have h' : bc (Nat.beq p.2 j) (some p.1) (invN ρ j) = some i := h; rw [bc_eq] at h'; split at h'
    · rename_i e; have e := Nat.eq_of_beq_eq_true e; injection h' with h'; subst e; subst h'; simp
    · simp [invN_mem h']
noncomputable def isSomeN (x : Option Nat) (i : Nat) : Bool := match x with
  | some j => Nat.beq i j
  | none => false
theorem isSomeN_ok {x : Option Nat} {i : Nat} (h : isSomeN x i = true) : x = some i := by
  unfold isSomeN at h; split at h
  · rw [Nat.eq_of_beq_eq_true h]
  · cases h

noncomputable def okN (ρ : List (Nat × Nat)) (N : Nat) : Bool := allL (fun p => bc (isSomeN (invN ρ p.2) p.1) (bc (isSomeN (lookN ρ p.1) p.2) (Nat.blt p.2 N) false) false) ρ
theorem okN_ok {ρ : List (Nat × Nat)} {N : Nat} (h : okN ρ N = true) {i j : Nat} (hm : (i, j) ∈ ρ) : invN ρ j = some i ∧ lookN ρ i = some j ∧ j < N := by
  have := allL_ok h (i, j) hm; rw [bc_eq, bc_eq] at this; split at this
  case isFalse => cases this
  rename_i h1; split at this
  case isFalse => cases this
  rename_i h2; exact ⟨isSomeN_ok h1, isSomeN_ok h2, blt_lt this⟩
noncomputable def G.ren (γ : G) (ρ : List (Nat × Nat)) : G := ⟨fun j => (invN ρ j).bind γ, γ.fz, fun j v q => (invN ρ j).bind fun i => γ.rw i v q⟩
theorem G.ren_look {ρ : List (Nat × Nat)} {N : Nat} (hρ : okN ρ N = true) {i j : Nat} (h : lookN ρ i = some j) : γ.ren ρ j = γ i := by
  show (invN ρ j).bind γ = γ i; rw [(okN_ok hρ (lookN_mem h)).1]; rfl
theorem G.ren_rwL {ρ : List (Nat × Nat)} {N : Nat} (hρ : okN ρ N = true) {i j : Nat} (h : lookN ρ i = some j) (v q : Nat) : (γ.ren ρ).rw j v q = γ.rw i v q := by
  show ((invN ρ j).bind fun i => γ.rw i v q) = γ.rw i v q; rw [(okN_ok hρ (lookN_mem h)).1]; rfl
theorem G.ren_rw {ρ : List (Nat × Nat)} (h : ∀ i v q p, γ.rw i v q = some p → ∃ b, γ i = some b) {j v q : Nat} {p : Nat × Nat × Nat} (e : (γ.ren ρ).rw j v q = some p) : ∃ b, γ.ren ρ j = some b := by
  have e : ((invN ρ j).bind fun i => γ.rw i v q) = some p := e; show ∃ b, (invN ρ j).bind γ = some b
  cases hi : invN ρ j with
  | none => rw [hi] at e; cases e
  | some i => rw [hi] at e; exact h i v q p e
theorem G.ren_some {ρ : List (Nat × Nat)} {j : Nat} {p : Pl × Nat} (h : γ.ren ρ j = some p) : ∃ i, (i, j) ∈ ρ ∧ γ i = some p := by
  have h : (invN ρ j).bind γ = some p := h
  cases hi : invN ρ j with
  | none => rw [hi] at h; cases h
  | some i => rw [hi] at h; exact ⟨i, invN_mem hi, h⟩

noncomputable def mapO {β : Type} (f : EV → Option β) (l : List EV) : Option (List β) := List.rec (some []) (fun a _ ih => match f a with
  | some x => match ih with
    | some r => some (x :: r)
    | none => none
  | none => none) l
theorem mapO_ok {β : Type} {f : EV → Option β} : ∀ {l : List EV} {r : List β}, mapO f l = some r → r.length = l.length ∧ ∀ (j : Nat) (b : β), r[j]? = some b → ∃ a, l[j]? = some a ∧ f a = some b
  | [], r, h => by
    have h' : some [] = some r := h; injection h' with h'; subst h'
    exact ⟨rfl, fun j b hb => by simp at hb⟩
  | a :: l, r, h => by
    have h' : (match f a with
      | some x => match mapO f l with
        | some r => some (x :: r)
        | none => none
      | none => none) = some r := h
    split at h'
    case h_2 => cases h'
    rename_i x hx; split at h'
    case h_2 => cases h'
    rename_i r' hr; injection h' with h'; subst h'
    obtain ⟨h1, h2⟩ := mapO_ok hr; refine ⟨by simp [h1], fun j b hb => ?_⟩
    cases j with
    | zero => simp at hb; subst hb; exact ⟨a, rfl, hx⟩
    | succ j => obtain ⟨c, h3, h4⟩ := h2 j b (by simpa using hb); exact ⟨c, by simpa using h3, h4⟩
noncomputable def withN (x : Option Nat) (f : Nat → EV) : Option EV := match x with
  | some j => some (f j)
  | none => none
noncomputable def withL (x : Option (List EV)) (f : List EV → EV) : Option EV := match x with
  | some l => some (f l)
  | none => none
noncomputable def renE (ρ : List (Nat × Nat)) (k : Nat) : EV → Option EV := Nat.rec (fun _ => none) (fun _ ih a => match a with
  | .v x => some (.v x)
  | .ptr i off => withN (lookN ρ i) fun j => .ptr j off
  | .sl i z off len cap => withN (lookN ρ i) fun j => .sl j z off len cap
  | .slE i z off => withN (lookN ρ i) fun j => .slE j z off
  | .slO i z len nn => withN (lookN ρ i) fun j => .slO j z len nn
  | .agg l => withL (mapO ih l) .agg
  | .tup l => withL (mapO ih l) .tup
  | .fn f l => withL (mapO ih l) (.fn f)
  | .mt f l => withL (mapO ih l) (.mt f)
  | .yl i => withN (lookN ρ i) .yl
  | .mp i => withN (lookN ρ i) .mp
  | .lst c => some (.lst c)
  | .lp c j f => some (.lp c j f)
  | .ptrE i z j f => withN (lookN ρ i) fun i' => .ptrE i' z j f
  | .row i v j f y z len => withN (lookN ρ i) fun i' => .row i' v j f y z len
  | .prow i v j f y z a g => withN (lookN ρ i) fun i' => .prow i' v j f y z a g
  | .arr c => some (.arr c)) k
theorem withN_ok {x : Option Nat} {f : Nat → EV} {a : EV} (h : withN x f = some a) : ∃ j, x = some j ∧ a = f j := by
  unfold withN at h; split at h
  · injection h with h; exact ⟨_, rfl, h.symm⟩
  · cases h
theorem withL_ok {x : Option (List EV)} {f : List EV → EV} {a : EV} (h : withL x f = some a) : ∃ l, x = some l ∧ a = f l := by
  unfold withL at h; split at h
  · injection h with h; exact ⟨_, rfl, h.symm⟩
  · cases h
theorem EC.ren {ρ : List (Nat × Nat)} {N : Nat} (hρ : okN ρ N = true) : ∀ {k : Nat} {a a' : EV} {x : Value}, renE ρ k a = some a' → EC γ a x → EC (γ.ren ρ) a' x
  | 0, a, a', x, h, _ => by cases h
  | k + 1, a, a', x, h, hc => by
    have key : ∀ (l r : List EV) (vs : List Value), mapO (renE ρ k) l = some r → l.length = vs.length → (∀ (j : Nat) (a : EV) (x : Value), l[j]? = some a → vs[j]? = some x → EC γ a x) → r.length = vs.length ∧ ∀ (j : Nat) (a : EV) (x : Value), r[j]? = some a → vs[j]? = some x → EC (γ.ren ρ) a x := fun l r vs hm hl hh => by
      obtain ⟨h1, h2⟩ := mapO_ok hm; refine ⟨by omega, fun j a x ha hx => ?_⟩; obtain ⟨b, h3, h4⟩ := h2 j a ha; exact EC.ren hρ h4 (hh j b x h3 hx)
    cases hc with
    | v x => injection (show some (EV.v x) = some a' from h) with h; subst h; exact .v x
    | lst c x hs => injection (show some (EV.lst c) = some a' from h) with h; subst h; exact .lst c x hs
    | lp c j f k off cp hs => injection (show some (EV.lp c j f) = some a' from h) with h; subst h; exact .lp c j f k off cp hs
    | arr c vs hv => injection (show some (EV.arr c) = some a' from h) with h; subst h; exact .arr c vs hv
    | ptrE i z j f b n hi =>
      obtain ⟨i', h1, rfl⟩ := withN_ok (show withN (lookN ρ i) (fun i' => .ptrE i' z j f) = some a' from h); exact .ptrE i' z j f b n (by rw [G.ren_look hρ h1]; exact hi)
    | row i v j f y z len x hs =>
      obtain ⟨i', h1, rfl⟩ := withN_ok (show withN (lookN ρ i) (fun i' => .row i' v j f y z len) = some a' from h); refine .row i' v j f y z len x ?_; rw [G.ren_rwL hρ h1]; exact hs
    | prow i v j f y z a g k m hs =>
      obtain ⟨i', h1, rfl⟩ := withN_ok (show withN (lookN ρ i) (fun i' => .prow i' v j f y z a g) = some a' from h); exact .prow i' v j f y z a g k m (by rw [G.ren_rwL hρ h1]; exact hs)
    | ptr i off b n hi =>
      obtain ⟨j, h1, rfl⟩ := withN_ok (show withN (lookN ρ i) (fun j => .ptr j off) = some a' from h); exact .ptr j off b n (by rw [G.ren_look hρ h1]; exact hi)
    | sl i z off len cap b n c hi hl hm hn hcc hu =>
      obtain ⟨j, h1, rfl⟩ := withN_ok (show withN (lookN ρ i) (fun j => .sl j z off len cap) = some a' from h); exact .sl j z off len cap b n c (by rw [G.ren_look hρ h1]; exact hi) hl hm hn hcc hu
    | slE i z off b n c off' hi hm hn =>
      obtain ⟨j, h1, rfl⟩ := withN_ok (show withN (lookN ρ i) (fun j => .slE j z off) = some a' from h); exact .slE j z off b n c off' (by rw [G.ren_look hρ h1]; exact hi) hm hn
    | slO i z len nn x hs =>
      obtain ⟨j, h1, rfl⟩ := withN_ok (show withN (lookN ρ i) (fun j => .slO j z len nn) = some a' from h); exact .slO j z len nn x ⟨hs.1, fun e => let ⟨b, m, c, q1, q2⟩ := hs.2 e; ⟨b, m, c, by rw [G.ren_look hρ h1]; exact q1, q2⟩⟩
    | agg l vs hl hh =>
      obtain ⟨r, h1, rfl⟩ := withL_ok (show withL (mapO (renE ρ k) l) .agg = some a' from h); obtain ⟨q1, q2⟩ := key l r vs h1 hl hh; exact .agg r vs q1 q2
    | tup l vs hl hh =>
      obtain ⟨r, h1, rfl⟩ := withL_ok (show withL (mapO (renE ρ k) l) .tup = some a' from h); obtain ⟨q1, q2⟩ := key l r vs h1 hl hh; exact .tup r vs q1 q2
    | fn f l vs hl hh =>
      obtain ⟨r, h1, rfl⟩ := withL_ok (show withL (mapO (renE ρ k) l) (.fn f) = some a' from h); obtain ⟨q1, q2⟩ := key l r vs h1 hl hh; exact .fn f r vs q1 q2
    | mt f l vs hl hh =>
      obtain ⟨r, h1, rfl⟩ := withL_ok (show withL (mapO (renE ρ k) l) (.mt f) = some a' from h); obtain ⟨q1, q2⟩ := key l r vs h1 hl hh; exact .mt f r vs q1 q2
    | yl i b n hi =>
      obtain ⟨j, h1, rfl⟩ := withN_ok (show withN (lookN ρ i) .yl = some a' from h); exact .yl j b n (by rw [G.ren_look hρ h1]; exact hi)
    | mp i b n hi =>
      obtain ⟨j, h1, rfl⟩ := withN_ok (show withN (lookN ρ i) .mp = some a' from h); exact .mp j b n (by rw [G.ren_look hρ h1]; exact hi)

theorem ev_fz {γ γ' : G} {s : Sh} {u : U} {x : Value} (h : EC γ (s.ev u) x) (hfz : ∀ k a, γ.fz k = some a → γ'.fz k = some a) : EC γ' (s.ev u) x := by
  cases s with
  | list sh => cases h with | lst _ _ h => exact .lst _ _ (h.mono hfz)
  | int k => cases h with | v => exact .v _
  | bool => cases h with | v => exact .v _
  | str => cases h with | v => exact .v _
noncomputable def renS (ρ : List (Nat × Nat)) (c : Option (Nat × Nat)) (a : EV) : Option EV := match c with
  | none => renE ρ 8 a
  | some (j, z) => match a with
    | .v (.slice none 0 0) => some (.slO j z 0 false)
    | a => renE ρ 8 a
theorem renS_ok {ρ : List (Nat × Nat)} {N : Nat} (hρ : okN ρ N = true) {c : Option (Nat × Nat)} {a a' : EV} {x : Value} (h : renS ρ c a = some a') (hc : EC γ a x) : EC (γ.ren ρ) a' x := by
  unfold renS at h; split at h
  · exact EC.ren hρ h hc
  · split at h
    · injection h with h; subst h
      rw [ec_v hc]; exact .slO _ _ 0 false _ ⟨fun _ => ⟨rfl, rfl⟩, fun e => by cases e⟩
    · exact EC.ren hρ h hc
abbrev SL := List (Nat × Option (Nat × Nat))
noncomputable def pickS (ρ : List (Nat × Nat)) (T : Tr EV) (l : SL) : Option (List (Nat × EV)) := List.rec (some []) (fun q _ ih => match T.get q.1 with
  | some a => match renS ρ q.2 a with
    | some a' => match ih with
      | some r => some ((q.1, a') :: r)
      | none => none
    | none => none
  | none => none) l
theorem pickS_ok {ρ : List (Nat × Nat)} {T : Tr EV} : ∀ {l : SL} {r : List (Nat × EV)}, pickS ρ T l = some r → ∀ s a', (s, a') ∈ r → ∃ c a, T.get s = some a ∧ renS ρ c a = some a'
  | [], r, h, s, a', hm => by
    have h' : some [] = some r := h; injection h' with h'; subst h'; simp at hm
  | q :: l, r, h, s, a', hm => by
    have h' : (match T.get q.1 with
      | some a => match renS ρ q.2 a with
        | some a' => match pickS ρ T l with
          | some r => some ((q.1, a') :: r)
          | none => none
        | none => none
      | none => none) = some r := h
    split at h'
    case h_2 => cases h'
    rename_i a ha; split at h'
    case h_2 => cases h'
    rename_i a2 ha2; split at h'
    case h_2 => cases h'
    rename_i r' hr; injection h' with h'; subst h'
    rcases List.mem_cons.1 hm with e | hm
    · injection e with e1 e2; subst e1; subst e2; exact ⟨q.2, a, ha, ha2⟩
    · exact pickS_ok hr s a' hm
noncomputable def renK (ρ : List (Nat × Nat)) (lk : List Nat) (k : EK) : Option EK := match k with
  | .seq ty c nn => some (.seq ty c nn)
  | .cells ty l full => match mapO (renE ρ 8) l with
    | some r => some (.cells ty r full)
    | none => none
  | .loop st pend fn N T ps ax bd dd => match pickS ρ T (lk.map fun s => (s, none)) with
    | some r => match lookN ρ dd with
      | some d => some (.loop st pend fn N (mkT r) ps ax bd d)
      | none => none
    | none => none
  | .dfr op => some (.dfr op)
  | .nest me ty sh rows v ho nn => match lookN ρ me with
    | some me' => some (.nest me' ty sh rows v ho nn)
    | none => none
  | .mpo es => some (.mpo es)
  | .mbox j => match lookN ρ j with
    | some j' => some (.mbox j')
    | none => none
  | _ => none
theorem renK_nest {ρ : List (Nat × Nat)} {lk : List Nat} {k : EK} {me : Nat} {ty : TypeId × List TypeId} {sh : List Sh} {rows : List (List U)} {v : Nat} {ho : List (Nat × Nat)} {nn : Bool} (h : renK ρ lk k = some (.nest me ty sh rows v ho nn)) : ∃ me0, k = .nest me0 ty sh rows v ho nn ∧ lookN ρ me0 = some me := by
  unfold renK at h; split at h
  · injection h with h; cases h
  · split at h
    · injection h with h; cases h
    · cases h
  · split at h
    · split at h
      · injection h with h; cases h
      · cases h
    · cases h
  · injection h with h; cases h
  · split at h
    · rename_i hl; injection h with h
      injection h with h1 h2 h3 h4 h5 h6 h7
      subst h1; subst h2; subst h3; subst h4; subst h5; subst h6; subst h7; exact ⟨_, rfl, hl⟩
    · cases h
  · injection h with h; cases h
  · split at h
    · injection h with h; cases h
    · cases h
  · cases h
theorem CellN.ren {ρ : List (Nat × Nat)} {N : Nat} (hρ : okN ρ N = true) {me me' v q : Nat} (hm : lookN ρ me = some me') {s : Sh} {u : U} {x : Value} (h : CellN γ me v q s u x) : CellN (γ.ren ρ) me' v q s u x := by
  cases s with
  | list sh =>
    rcases h with ⟨h1, h2⟩ | ⟨k, m, c, h1, h2⟩
    · exact .inl ⟨(G.ren_rwL hρ hm v q).trans h1, h2⟩
    · exact .inr ⟨k, m, c, (G.ren_rwL hρ hm v q).trans h1, h2⟩
  | int k => exact ev_fz h fun _ _ h => h
  | bool => exact ev_fz h fun _ _ h => h
  | str => exact ev_fz h fun _ _ h => h
theorem renK_ok {ρ : List (Nat × Nat)} {N : Nat} (hρ : okN ρ N = true) {lk : List Nat} {k k' : EK} {b : Pl} {m : Nat} (h : renK ρ lk k = some k') (hk : k.ok γ b m w) : k'.ok (γ.ren ρ) b m w := by
  unfold renK at h; split at h
  · injection h with h; subst h
    obtain ⟨c, h1, h2, h3, h4⟩ := hk; exact ⟨c, h1, h2, h3, SyC.enc_fz h4 fun _ _ h => h⟩
  · rename_i ty l full; split at h
    case h_2 => cases h
    rename_i r hr; injection h with h; subst h
    obtain ⟨c, h1, h2, h3, h4, h5⟩ := hk; obtain ⟨q1, q2⟩ := mapO_ok hr; refine ⟨c, h1, h2, by omega, fun e => by rw [q1]; exact h4 e, ?_⟩; rw [q1]; refine ⟨by rw [q1]; exact h5.1, fun j a x ha hx => ?_⟩; obtain ⟨a0, h6, h7⟩ := q2 j a ha; exact EC.ren hρ h7 (h5.2 j a0 x h6 hx)
  · split at h
    case h_2 => cases h
    rename_i r hr; split at h
    case h_2 => cases h
    rename_i d hd; injection h with h; subst h
    obtain ⟨tmps, dd, m2, h1, h2, h3, h4⟩ := hk; refine ⟨tmps, dd, m2, h1, h2, fun sl a hs => ?_, by rw [G.ren_look hρ hd]; exact h4⟩; obtain ⟨c, a0, q1, q2⟩ := pickS_ok hr sl a (mkT_get hs); obtain ⟨x, hx, hc⟩ := h3 sl a0 q1; exact ⟨x, hx, renS_ok hρ q2 hc⟩
  · injection h with h; subst h; exact hk
  · split at h
    case h_2 => cases h
    rename_i me' hme; injection h with h; subst h
    obtain ⟨c, h1, h2, h3, h4⟩ := hk; exact ⟨c, h1, h2, h3, fun j f s hj hf hh => let ⟨x, hx, hc⟩ := h4 j f s hj hf hh; ⟨x, hx, hc.ren hρ hme⟩⟩
  · injection h with h; subst h; exact hk
  · split at h
    case h_2 => cases h
    rename_i j' hj; injection h with h; subst h
    obtain ⟨h0, ty, mb, m, h1, h2⟩ := hk; exact ⟨h0, ty, mb, m, h1, by rw [G.ren_look hρ hj]; exact h2⟩
  · cases h
theorem renK_nil {ρ : List (Nat × Nat)} {lk : List Nat} {k k' : EK} (h : renK ρ lk k = some k') : k'.Nil ↔ k.Nil := by
  unfold renK at h; split at h
  · injection h with h; subst h; exact Iff.rfl
  · split at h
    · injection h with h; subst h; exact Iff.rfl
    · cases h
  · split at h
    · split at h
      · injection h with h; subst h; exact Iff.rfl
      · cases h
    · cases h
  · injection h with h; subst h; exact Iff.rfl
  · split at h
    · injection h with h; subst h; exact Iff.rfl
    · cases h
  · injection h with h; subst h; exact Iff.rfl
  · split at h
    · injection h with h; subst h; exact Iff.rfl
    · cases h
  · cases h

noncomputable def renI (ρ : List (Nat × Nat)) (x : IM) : Option IM := match x with
  | .it x => some (.it x)
  | .ops a l => some (.ops a l)
  | .inRF i => match lookN ρ i with
    | some j => some (.inRF j)
    | none => none
  | .endRF i => match lookN ρ i with
    | some j => some (.endRF j)
    | none => none
theorem renI_ok {ρ : List (Nat × Nat)} {N : Nat} (hρ : okN ρ N = true) {x y : IM} {i : Item} (h : renI ρ x = some y) (hi : IR γ x i) : IR (γ.ren ρ) y i := by
  cases hi with
  | it i => injection (show some (IM.it i) = some y from h) with h; subst h; exact .it _
  | ops a l idx hh => injection (show some (IM.ops a l) = some y from h) with h; subst h; exact .ops _ _ idx hh
  | inRF i b m hh =>
    unfold renI at h; simp only at h; split at h
    case h_2 => cases h
    rename_i j hj; injection h with h; subst h
    exact .inRF j b m (by rw [G.ren_look hρ hj]; exact hh)
  | endRF i b m hh =>
    unfold renI at h; simp only at h; split at h
    case h_2 => cases h
    rename_i j hj; injection h with h; subst h
    exact .endRF j b m (by rw [G.ren_look hρ hj]; exact hh)
noncomputable def renD (ρ : List (Nat × Nat)) (x : DE) : Option DE := match x with
  | .mk i => match lookN ρ i with
    | some j => some (.mk j)
    | none => none
  | .cl g k => some (.cl g k)
theorem renD_ok {ρ : List (Nat × Nat)} {N : Nat} (hρ : okN ρ N = true) {x y : DE} {i : Deferred} (h : renD ρ x = some y) (hi : DR γ x i) : DR (γ.ren ρ) y i := by
  cases hi with
  | mk i b m hh =>
    unfold renD at h; simp only at h; split at h
    case h_2 => cases h
    rename_i j hj; injection h with h; subst h
    exact .mk j b m (by rw [G.ren_look hρ hj]; exact hh)
  | cl g k cap args hh => injection (show some (DE.cl g k) = some y from h) with h; subst h; exact .cl g k cap args hh
noncomputable def mapL {α β : Type} (f : α → Option β) (l : List α) : Option (List β) := List.rec (some []) (fun a _ ih => match f a with
  | some x => match ih with
    | some r => some (x :: r)
    | none => none
  | none => none) l
theorem mapL_ok {α β δ : Type} {f : α → Option β} {R : α → δ → Prop} {S : β → δ → Prop} (hf : ∀ a b d, f a = some b → R a d → S b d) : ∀ {l : List α} {r : List β} {m : List δ}, mapL f l = some r → All2 R l m → All2 S r m
  | [], r, m, h, hr => by
    have h' : some [] = some r := h; injection h' with h'; subst h'
    cases hr; exact .nil
  | a :: l, r, m, h, hr => by
    have h' : (match f a with
      | some x => match mapL f l with
        | some r => some (x :: r)
        | none => none
      | none => none) = some r := h
    split at h'
    case h_2 => cases h'
    rename_i x hx; split at h'
    case h_2 => cases h'
    rename_i r' hr'; injection h' with h'; subst h'
    cases hr with
    | cons h1 h2 => exact .cons (hf _ _ _ hx h1) (mapL_ok hf hr' h2)
noncomputable def renR (ρ : List (Nat × Nat)) (x : Option Nat) : Option (Option Nat) := match x with
  | none => some none
  | some i => match lookN ρ i with
    | some j => some (some j)
    | none => none
theorem renR_ok {ρ : List (Nat × Nat)} {N : Nat} (hρ : okN ρ N = true) {x y ro : Option Nat} (h : renR ρ x = some y) (hr : RR γ x ro) : RR (γ.ren ρ) y ro := by
  unfold renR at h; split at h
  · injection h with h; subst h; exact hr
  · split at h
    case h_2 => cases h
    rename_i j hj; injection h with h; subst h
    obtain ⟨b, m, h1, h2⟩ := hr; exact ⟨b, m, by rw [G.ren_look hρ hj]; exact h1, h2⟩
noncomputable def normFR (ρ : List (Nat × Nat)) (l : SL) (f : EF) : Option FS := match f.ret with
  | false => match mapL (renD ρ) f.dfs with
    | some ds => match renR ρ f.round with
      | some ro => match mapL (renI ρ) f.todo with
        | some td => match pickS ρ f.T l with
          | some T => some ⟨f.fn, f.N, T, td, ds, ro⟩
          | none => none
        | none => none
      | none => none
    | none => none
  | _ => none
noncomputable def normFsR (ρ : List (Nat × Nat)) (ls : List SL) : List EF → Option (List FS) := List.rec (fun fs => match fs with
  | [] => some []
  | _ => none) (fun l _ ih fs => match fs with
  | f :: fs => match normFR ρ l f with
    | some a => match ih fs with
      | some r => some (a :: r)
      | none => none
    | none => none
  | [] => none) ls

noncomputable def pickK (ρ : List (Nat × Nat)) (H : Tr EK) (lk : List Nat) (l : List (Nat × Nat)) : Option (List (Nat × EK)) := List.rec (some []) (fun p _ ih => match H.get p.1 with
  | some k => match renK ρ lk k with
    | some k' => match ih with
      | some r => some ((p.2, k') :: r)
      | none => none
    | none => none
  | none => none) l
theorem pickK_ok {ρ : List (Nat × Nat)} {H : Tr EK} {lk : List Nat} : ∀ {l : List (Nat × Nat)} {r : List (Nat × EK)}, pickK ρ H lk l = some r → ∀ j k', (j, k') ∈ r → ∃ i k, (i, j) ∈ l ∧ H.get i = some k ∧ renK ρ lk k = some k'
  | [], r, h, j, k', hm => by
    have h' : some [] = some r := h; injection h' with h'; subst h'; simp at hm
  | q :: l, r, h, j, k', hm => by
    have h' : (match H.get q.1 with
      | some k => match renK ρ lk k with
        | some k' => match pickK ρ H lk l with
          | some r => some ((q.2, k') :: r)
          | none => none
        | none => none
      | none => none) = some r := h
    split at h'
    case h_2 => cases h'
    rename_i k hk; split at h'
    case h_2 => cases h'
    rename_i k2 hk2; split at h'
    case h_2 => cases h'
    rename_i r' hr; injection h' with h'; subst h'
    rcases List.mem_cons.1 hm with e | hm
    · injection e with e1 e2; subst e1; subst e2; exact ⟨q.1, k, by simp, hk, hk2⟩
    · obtain ⟨i, k3, h1, h2, h3⟩ := pickK_ok hr j k' hm; exact ⟨i, k3, by simp [h1], h2, h3⟩
noncomputable def isNil {α : Type} (l : List α) : Bool := match l with
  | [] => true
  | _ => false
theorem isNil_ok {α : Type} {l : List α} (h : isNil l = true) : l = [] := by
  cases l with
  | nil => rfl
  | cons a l => cases h
noncomputable def isNilS (c : SyC) : Bool := match c with
  | .ints _ l => isNil l
  | .bools l => isNil l
  | .strs l => isNil l
  | .recs _ l => isNil l
theorem isNilS_ok {c : SyC} (h : isNilS c = true) : c.enc = [] := by
  cases c with
  | ints k l => have := isNil_ok (show isNil l = true from h); subst this; rfl
  | bools l => have := isNil_ok (show isNil l = true from h); subst this; rfl
  | strs l => have := isNil_ok (show isNil l = true from h); subst this; rfl
  | recs sh l => have := isNil_ok (show isNil l = true from h); subst this; rfl
noncomputable def nilsK (nils : List (Nat × TypeId × SyC)) : List (Nat × EK) := nils.map fun p => (p.1, .seq p.2.1 p.2.2 false)
noncomputable def insK (p : Nat × EK) (l : List (Nat × EK)) : List (Nat × EK) := List.rec [p] (fun q t ih => bc (Nat.ble p.1 q.1) (p :: q :: t) (q :: ih)) l
noncomputable def sortK (l : List (Nat × EK)) : List (Nat × EK) := List.rec [] (fun p _ ih => insK p ih) l
theorem insK_mem {p x : Nat × EK} : ∀ {l : List (Nat × EK)}, x ∈ insK p l → x = p ∨ x ∈ l
  | [], h => by
    have h : x ∈ [p] := h; simp at h; exact .inl h
  | q :: t, h => by
    have h : x ∈ bc (Nat.ble p.1 q.1) (p :: q :: t) (q :: insK p t) := h; rw [bc_eq] at h; split at h
    · rcases List.mem_cons.1 h with h | h
      · exact .inl h
      · exact .inr h
    · rcases List.mem_cons.1 h with h | h
      · exact .inr (by simp [h])
      · rcases insK_mem h with h | h
        · exact .inl h
        · exact .inr (by simp [h])
theorem sortK_mem {x : Nat × EK} : ∀ {l : List (Nat × EK)}, x ∈ sortK l → x ∈ l
  | [], h => h
  | p :: t, h => by
    rcases insK_mem (show x ∈ insK p (sortK t) from h) with h | h
    · simp [h]
    · exact List.mem_cons_of_mem _ (sortK_mem h)

noncomputable def normR (lk : List Nat) (ls : List SL) (ρ : List (Nat × Nat)) (keep : List (Nat × Nat)) (nils : List (Nat × TypeId × SyC)) (N : Nat) (e : EO) : Option NS := match e with
  | .go s => match normFsR ρ ls (s.top :: s.rest) with
    | some l => match pickK ρ s.H lk keep with
      | some K => bc (okN ρ N) (bc (allL (fun p => isSomeN (lookN ρ p.1) p.2) keep) (bc (allL (fun p => isNilS p.2.2) nils) (some ⟨l, sortK (nilsK nils ++ K), N⟩) none) none) none
      | none => none
    | none => none
  | _ => none

structure NN where
  ρ : List (Nat × Nat)
  nils : List (Nat × TypeId × SyC)
  N : Nat
noncomputable def addN (q : NN) (i : Nat) : NN := match lookN q.ρ i with
  | some _ => q
  | none => ⟨q.ρ ++ [(i, q.N)], q.nils, Nat.succ q.N⟩
noncomputable def addL (l : List Nat) : NN → NN := List.rec (fun q => q) (fun i _ ih q => ih (addN q i)) l

abbrev SZ := List (Nat × Option (Nat × TypeId × SyC))
noncomputable def isNilV (a : EV) : Bool := match a with
  | .v (.slice none 0 0) => true
  | _ => false
noncomputable def slotsN (T : Tr EV) (l : SZ) : NN → NN × SL := List.rec (fun q => (q, [])) (fun p _ ih q => match T.get p.1 with
  | some a => match p.2 with
    | some (z, ty, c) => bc (isNilV a) (match ih ⟨q.ρ, q.nils ++ [(q.N, ty, c)], Nat.succ q.N⟩ with
      | (q', r) => (q', (p.1, some (q.N, z)) :: r)) (match ih (addL (numsE 6 a) q) with
      | (q', r) => (q', (p.1, none) :: r))
    | none => match ih (addL (numsE 6 a) q) with
      | (q', r) => (q', (p.1, none) :: r)
  | none => match ih q with
    | (q', r) => (q', (p.1, none) :: r)) l
noncomputable def todoN (l : List IM) : List Nat := List.rec [] (fun x _ ih => match x with
  | .inRF i => i :: ih
  | .endRF i => i :: ih
  | _ => ih) l
noncomputable def dfsN (l : List DE) : List Nat := List.rec [] (fun x _ ih => match x with
  | .mk i => i :: ih
  | _ => ih) l
noncomputable def rndN (x : Option Nat) : List Nat := match x with
  | some i => [i]
  | none => []
noncomputable def framesN (fs : List EF) : List SZ → NN → NN × List SL := List.rec (fun _ q => (q, [])) (fun f _ ih ls q => match ls with
  | l :: ls => match slotsN f.T l q with
    | (q1, s1) => match ih ls (addL (rndN f.round) (addL (dfsN f.dfs) (addL (todoN f.todo) q1))) with
      | (q2, s2) => (q2, s1 :: s2)
  | [] => (q, [])) fs
noncomputable def slotNs (T : Tr EV) (lk : List Nat) : List Nat := List.rec [] (fun s _ ih => match T.get s with
  | some a => numsE 6 a ++ ih
  | none => ih) lk
noncomputable def numsKZ (lk : List Nat) (k : EK) : List Nat := match k with
  | .cells _ l _ => flatN (numsE 6) l
  | .loop _ _ _ _ T _ _ _ dd => dd :: slotNs T lk
  | .mbox j => [j]
  | _ => []

noncomputable def closeN (lk : List Nat) (H : Tr EK) (k : Nat) : Nat → NN → NN := Nat.rec (fun _ q => q) (fun _ ih i q => match q.ρ.drop i with
  | (b, _) :: _ => match H.get b with
    | some e => ih (Nat.succ i) (addL (numsKZ lk e) q)
    | none => ih (Nat.succ i) q
  | [] => q) k
noncomputable def keepN (H : Tr EK) (l : List (Nat × Nat)) : List (Nat × Nat) := List.rec [] (fun p _ ih => match H.get p.1 with
  | some _ => p :: ih
  | none => ih) l
noncomputable def normZ (lk : List Nat) (ls : List SZ) (e : EO) : Option NS := match e with
  | .go s => match framesN (s.top :: s.rest) ls ⟨[], [], 0⟩ with
    | (q0, sl) => match closeN lk s.H 60 0 q0 with
      | q => normR lk sl q.ρ (keepN s.H q.ρ) q.nils q.N (.go s)
  | _ => none
end Go.Proofs.Ytooimphimnagaaa.Ev
