/- The reckoner: what calls of strings.Join and strings.Repeat come to. No program is named. -/
import Derived.Test.YtcgopcfbgkhpgaaEv15
import Derived.Below
import Derived.Lib.Join
import Derived.Lib.Repeat
namespace Go.Proofs.Ytcgopcfbgkhpgaa.Ev
open Go.RowKit
variable {P : Program} {γ γ' : G} {w0 : Bs} {w w' : World} {H H' : Tr EK} {n n' : Nat}

/-- blocks behind the heap's end have come -/
theorem HR.below (h : HR γ w0 H n w) (b : Below w.heap.size w w') : HR γ w0 H n w' := by
  refine ⟨fun i k hk => ?_, h.inj, h.fresh, h.rsv, fun i p e => Nat.lt_of_lt_of_le (h.lt i p e) b.size, ?_⟩
  · obtain ⟨c, m, h1, h2, h3⟩ := h.hp i k hk
    exact ⟨c, m, h1, h2, EK.ok_mono (GLe.refl γ) (b.block c.k (h.lt i _ h1)) h3⟩
  · refine ⟨b.os.trans h.stays.os, b.tape.trans h.stays.tape, b.output.trans h.stays.output, Nat.le_trans h.stays.size b.size, fun k hk => ?_⟩
    have h1 := w0.lt k hk
    have h2 := h.stays.size
    exact (b.block k (by omega)).trans (h.stays.block k hk)
noncomputable def ctRepeat : CT := fun as H n => match as with
  | [.v (.string s), .v (.int .i64 (.ofNat c))] => bc (Nat.ble c 65536) (bc (Nat.ble s.size 65536) (some (.v (.string ⟨(Lib.repeatL s.data.toList c).toArray⟩), H, n)) none) none
  | _ => none
theorem ctRepeat_ok {f : FuncId} (h : ∀ (s : ByteArray) (c : Nat) (w : World), c ≤ 9223372036854775807 → s.size * c ≤ 140737488355328 → Calls P f #[.string s, .int .i64 c] w fun e w' => e = .returned (.string ⟨(Lib.repeatL s.data.toList c).toArray⟩) ∧ Below w.heap.size w w') : CtOk P f ctRepeat := by
  intro γ w0 H n w as us a H' n' hH hc hr
  unfold ctRepeat at hr
  split at hr
  case h_2 => cases hr
  rename_i s c
  rw [bc_eq, bc_eq] at hr
  split at hr
  case isFalse => cases hr
  rename_i h1
  split at hr
  case isFalse => cases hr
  rename_i h2
  simp only [Option.some.injEq, Prod.mk.injEq] at hr
  obtain ⟨rfl, rfl, rfl⟩ := hr
  have h1 := Nat.le_of_ble_eq_true h1
  have h2 := Nat.le_of_ble_eq_true h2
  obtain ⟨x, r1, e1, hx, hc1⟩ := ECL.inv hc
  obtain ⟨y, r2, e2, hy, hc2⟩ := ECL.inv hc1
  have e3 : r2 = [] := by apply List.eq_nil_of_length_eq_zero; have := hc2.1; simpa using this.symm
  have hx := ec_v hx
  have hy := ec_v hy
  subst hx; subst hy; subst e3; subst e2
  have eu : us = #[.string s, .int .i64 (c : Int)] := by apply Array.ext'; simpa using e1
  rw [eu]
  refine (h s c w (by omega) (by have := Nat.mul_le_mul h2 h1; omega)).mono ?_
  rintro e w' ⟨rfl, hb⟩
  exact ⟨γ, _, GLe.refl γ, hH.below hb, .v _, rfl⟩
noncomputable def strOf (a : EV) : Option ByteArray := match a with
  | .v (.string s) => some s
  | _ => none
/-- strings, all of them -/
noncomputable def strsOf (cs : List EV) : Option (List ByteArray) := List.rec (some []) (fun a _ ih => match strOf a with
  | some s => match ih with
    | some l => some (s :: l)
    | none => none
  | none => none) cs
theorem strsOf_eq : ∀ {cs : List EV} {l : List ByteArray}, strsOf cs = some l → cs = l.map fun s => .v (.string s)
  | [], l, h => by simp [strsOf] at h; subst h; rfl
  | a :: cs, l, h => by
    have h' : (match strOf a with
      | some s => match strsOf cs with
        | some l => some (s :: l)
        | none => none
      | none => none) = some l := h
    split at h'
    case h_2 => cases h'
    rename_i s hs
    split at h'
    case h_2 => cases h'
    rename_i l' hl
    injection h' with h'; subst h'
    unfold strOf at hs
    split at hs
    case h_2 => cases hs
    injection hs with hs; subst hs
    rw [strsOf_eq hl]; rfl
noncomputable def ctJoin : CT := fun as H n => match as with
  | [.v (.slice none 0 0), .v (.string _)] => some (.v (.string ⟨#[]⟩), H, n)
  | [.sl i _ off len _, .v (.string sep)] => match H.get i with
    | some (.cells _ cs _) => match strsOf ((cs.drop off).take len) with
      | some xs => bc (Nat.beq (llen xs) len) (bc (Nat.ble (llen (Lib.join (xs.map (·.data.toList)) sep.data.toList)) 65536) (bc (Nat.ble len 65536) (some (.v (.string ⟨(Lib.join (xs.map (·.data.toList)) sep.data.toList).toArray⟩), H, n)) none) none) none
      | none => none
    | _ => none
  | _ => none
theorem ctJoin_ok {f : FuncId} (h0 : ∀ (a : Option Addr) (c : Nat) (sep : ByteArray) (w : World), Calls P f #[.slice a 0 c, .string sep] w fun e w' => e = .returned (.string ⟨#[]⟩) ∧ w' = w)
    (h : ∀ (bk o c : Nat) (xs : List ByteArray) (sep : ByteArray) (w : World), (∀ (j : Nat) x, xs[j]? = some x → w.cell? ⟨bk, o + j, none⟩ = some (.string x)) → bk < w.heap.size → xs.length ≤ 140737488355328 → xs.length ≤ c → (Lib.join (xs.map (·.data.toList)) sep.data.toList).length ≤ 140737488355328 →
      Calls P f #[.slice (some ⟨bk, o, none⟩) xs.length c, .string sep] w fun e w' => e = .returned (.string ⟨(Lib.join (xs.map (·.data.toList)) sep.data.toList).toArray⟩) ∧ Below w.heap.size w w') : CtOk P f ctJoin := by
  intro γ w0 H n w as us a H' n' hH hc hr
  unfold ctJoin at hr
  split at hr
  · simp only [Option.some.injEq, Prod.mk.injEq] at hr
    obtain ⟨rfl, rfl, rfl⟩ := hr
    obtain ⟨x, r1, e1, hx, hc1⟩ := ECL.inv hc
    obtain ⟨y, r2, e2, hy, hc2⟩ := ECL.inv hc1
    have e3 : r2 = [] := by apply List.eq_nil_of_length_eq_zero; have := hc2.1; simpa using this.symm
    have hx := ec_v hx
    have hy := ec_v hy
    subst hx; subst hy; subst e3; subst e2
    rename_i sep
    have eu : us = #[.slice none 0 0, .string sep] := by apply Array.ext'; simpa using e1
    rw [eu]
    refine (h0 none 0 sep w).mono ?_
    rintro e w' ⟨rfl, rfl⟩
    exact ⟨γ, _, GLe.refl γ, hH, .v _, rfl⟩
  · rename_i i z off len cap sep
    split at hr
    case h_2 => cases hr
    rename_i ty cs full hg
    split at hr
    case h_2 => cases hr
    rename_i xs hxs
    rw [bc_eq, bc_eq, bc_eq] at hr
    split at hr
    case isFalse => cases hr
    rename_i hl1
    split at hr
    case isFalse => cases hr
    rename_i hl2
    split at hr
    case isFalse => cases hr
    rename_i hl3
    simp only [Option.some.injEq, Prod.mk.injEq] at hr
    obtain ⟨rfl, rfl, rfl⟩ := hr
    have hl1 := Nat.eq_of_beq_eq_true hl1
    have hl2 := Nat.le_of_ble_eq_true hl2
    have hl3 := Nat.le_of_ble_eq_true hl3
    rw [llen_eq] at hl1 hl2
    obtain ⟨x, r1, e1, hx, hc1⟩ := ECL.inv hc
    obtain ⟨y, r2, e2, hy, hc2⟩ := ECL.inv hc1
    have e3 : r2 = [] := by apply List.eq_nil_of_length_eq_zero; have := hc2.1; simpa using this.symm
    have hy := ec_v hy
    cases hx with
    | sl _ _ _ _ _ b m c hγ hle hm hn hcc hu =>
    subst hy; subst e3; subst e2
    have eu : us = #[.slice (some (b.at off)) len c, .string sep] := by apply Array.ext'; simpa using e1
    obtain ⟨b2, m2, g1, g2, ca, g3, g4, g5, _, g6⟩ := hH.hp i _ hg
    rw [hγ] at g1
    simp only [Option.some.injEq, Prod.mk.injEq] at g1
    obtain ⟨rfl, rfl⟩ := g1
    have hbk : b.k < w.heap.size := hH.lt i _ hγ
    rw [eu, ← hl1]
    refine (h b.k (b.s + off) c xs sep w (fun j x hj => ?_) hbk (by omega) (by omega) (by omega)).mono ?_
    · have hcs := strsOf_eq hxs
      have h1 : ((cs.drop off).take len)[j]? = some (.v (.string x)) := by rw [hcs, List.getElem?_map, hj]; rfl
      rw [List.getElem?_take] at h1
      split at h1
      case isFalse => cases h1
      rw [List.getElem?_drop] at h1
      obtain ⟨u, hu1, hu2⟩ := g6.at h1
      rw [List.getElem?_take] at hu1
      split at hu1
      case isFalse => cases hu1
      rw [List.getElem?_drop] at hu1
      have hu2 := ec_v hu2
      subst hu2
      have e4 : b.s + off + j = b.s + (off + j) := by omega
      have := (cell_of (off := off + j) g3).1
      unfold Pl.at at this
      rw [e4, this]
      simpa using hu1
    · rintro e w' ⟨rfl, hb⟩
      exact ⟨γ, _, GLe.refl γ, hH.below hb, .v _, rfl⟩
  · cases hr
end Go.Proofs.Ytcgopcfbgkhpgaa.Ev
