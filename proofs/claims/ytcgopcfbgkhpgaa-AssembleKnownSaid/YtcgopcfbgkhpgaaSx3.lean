/- The executor's rules: addresses, parts of aggregates, lengths. -/
import Derived.Test.YtcgopcfbgkhpgaaSx2
namespace Go.Proofs.Ytcgopcfbgkhpgaa.Sx
open Go.RowKit
variable {P : Program} {S : Base} {w0 w : World} {E : Env} {H : Heap} {γ : Nat → Loc} {a : Act}

theorem run_fieldAt {s f off : Nat} (h : fieldO P s f = some off) (b o : Nat) (w : World) : (Instr.fieldAt s (.pointer (some ⟨b, o, none⟩)) f).run P w = .ok (.pointer (some ⟨b, o + off, none⟩)) w := by
  unfold fieldO at h
  split at h
  · rename_i fs hu
    cases hf : fs[f]? with
    | none => rw [hf] at h; simp at h
    | some x =>
      rw [hf] at h
      simp only [Option.bind_some] at h
      cases hi : P.info? x.type with
      | none => rw [hi] at h; simp at h
      | some i =>
        rw [hi] at h
        simp only [Option.bind_some] at h
        split at h
        · simp at h
        · rename_i hz
          simp only [Option.some.injEq] at h
          subst h
          simp [Instr.fieldAt, run_underlying hu, hf, Instr.sureAddr, fieldPlace, sizeOf, typeInfo, hi, hz, Addr.add_lit]
  · simp at h
theorem core_fieldAddr_box {o : Oper} (s f : Nat) (x : Operand) {i off fo : Nat} (h : o.op = .fieldAddr s x f) (hx : evO E x = .ptr i off) (hf : fieldO P s f = some fo) : Core P o E H (.ptr i (off + fo)) := by
  refine ⟨(by rw [h]; intro c hc; cases hc), fun S w0 γ a w hs => ?_⟩
  obtain ⟨b, o', hA, he⟩ := conc_ptr (hx ▸ conc_evO hs x)
  refine ⟨_, Conc.ptr i (off + fo) b o' hA, fun w' _ => ?_⟩
  have hs : (execOp a.eval o) = (do pure (Next.value (← Instr.fieldAt s (.pointer (some ⟨b, o' + off, none⟩)) f)) : Sem Next) := by
    unfold execOp; rw [h]; simp only [he]
  rw [hs]
  refine run_v ?_
  rw [run_fieldAt hf, Nat.add_assoc]
theorem core_fieldAddr_row {o : Oper} (s f : Nat) (x : Operand) {i z k g fo : Nat} (h : o.op = .fieldAddr s x f) (hx : evO E x = .ept i z k g) (hf : fieldO P s f = some fo) : Core P o E H (.ept i z k (g + fo)) := by
  refine ⟨(by rw [h]; intro c hc; cases hc), fun S w0 γ a w hs => ?_⟩
  obtain ⟨b, o', hA, he⟩ := conc_ept (hx ▸ conc_evO hs x)
  refine ⟨_, Conc.ept i z k (g + fo) b o' hA, fun w' _ => ?_⟩
  have hs : (execOp a.eval o) = (do pure (Next.value (← Instr.fieldAt s (.pointer (some ⟨b, o' + k * z + g, none⟩)) f)) : Sem Next) := by
    unfold execOp; rw [h]; simp only [he]
  rw [hs]
  refine run_v ?_
  rw [run_fieldAt hf, Nat.add_assoc]
theorem core_nilCheck {o : Oper} (x : Operand) {i off : Nat} (h : o.op = .nilCheck x) (hx : evO E x = .ptr i off) : Core P o E H (.ptr i off) := by
  refine ⟨(by rw [h]; intro c hc; cases hc), fun S w0 γ a w hs => ?_⟩
  obtain ⟨b, o', hA, he⟩ := conc_ptr (hx ▸ conc_evO hs x)
  refine ⟨_, Conc.ptr i off b o' hA, fun w' _ => ?_⟩
  unfold execOp; rw [h]; simp only [he]; rfl
theorem core_nilCheck_row {o : Oper} (x : Operand) {i z k g : Nat} (h : o.op = .nilCheck x) (hx : evO E x = .ept i z k g) : Core P o E H (.ept i z k g) := by
  refine ⟨(by rw [h]; intro c hc; cases hc), fun S w0 γ a w hs => ?_⟩
  obtain ⟨b, o', hA, he⟩ := conc_ept (hx ▸ conc_evO hs x)
  refine ⟨_, Conc.ept i z k g b o' hA, fun w' _ => ?_⟩
  unfold execOp; rw [h]; simp only [he]; rfl
/-- len of a slice -/
theorem core_len {o : Oper} (x : Operand) (t : TypeId) {i z off n : Nat} (h : o.op = .call { callee := .builtin .len, args := #[x], argTypes := #[t] }) (hx : evO E x = .sl i z off n) (ht : (slZ P t).isSome = true) : Core P o E H (.v (.int .i64 (n : Int))) := by
  refine ⟨(by rw [h]; intro c hc; cases hc), fun S w0 γ a w hs => ?_⟩
  obtain ⟨A, c, he, _⟩ := conc_sl (hx ▸ conc_evO hs x)
  refine ⟨_, Conc.v _, fun w' _ => ?_⟩
  have hu : ∃ e, P.underlying t = some (.slice e) := by
    unfold slZ at ht
    split at ht
    · exact ⟨_, by assumption⟩
    · simp at ht
  obtain ⟨e, hu⟩ := hu
  simp [execOp, h, resolve, invoke, builtin, he, Builtin.len_, run_underlying hu, goInt]
theorem core_len_nil {o : Oper} (x : Operand) (t : TypeId) (h : o.op = .call { callee := .builtin .len, args := #[x], argTypes := #[t] }) (hx : evO E x = .v (.slice none 0 0)) (ht : (slZ P t).isSome = true) : Core P o E H (.v (.int .i64 0)) := by
  refine ⟨(by rw [h]; intro c hc; cases hc), fun S w0 γ a w hs => ?_⟩
  have he := conc_v (hx ▸ conc_evO hs x)
  refine ⟨_, Conc.v _, fun w' _ => ?_⟩
  have hu : ∃ e, P.underlying t = some (.slice e) := by
    unfold slZ at ht
    split at ht
    · exact ⟨_, by assumption⟩
    · simp at ht
  obtain ⟨e, hu⟩ := hu
  simp [execOp, h, resolve, invoke, builtin, he, Builtin.len_, run_underlying hu, goInt]
theorem slZ_spec {t z : Nat} (h : slZ P t = some z) : ∃ e i, P.underlying t = some (.slice e) ∧ P.info? e = some i ∧ i.size = z := by
  unfold slZ at h
  split at h
  · rename_i e hu
    cases hi : P.info? e with
    | none => rw [hi] at h; simp at h
    | some i => rw [hi] at h; simp at h; exact ⟨e, i, hu, hi, h⟩
  · simp at h
/-- the address of an element: the index an int m, the element's number k -/
theorem core_indexAddr {o : Oper} (t : TypeId) (x ix : Operand) {i z off n k : Nat} {κ : IntKind} {m : Int} (h : o.op = .indexAddr t x ix) (hx : evO E x = .sl i z off n) (hi : evO E ix = .v (.int κ m)) (ht : slZ P t = some z) (hk : (k : Int) = off + m) (h0 : 0 ≤ m) (hn : m < n) : Core P o E H (.ept i z k 0) := by
  refine ⟨(by rw [h]; intro c hc; cases hc), fun S w0 γ a w hs => ?_⟩
  obtain ⟨A, c, he, _, h1, _⟩ := conc_sl (hx ▸ conc_evO hs x)
  have hix := conc_v (hi ▸ conc_evO hs ix)
  obtain ⟨b, o', hA, hA'⟩ := h1 (by omega)
  refine ⟨_, Conc.ept i z k 0 b o' hA, fun w' _ => ?_⟩
  obtain ⟨e, inf, hu, hinf, hsz⟩ := slZ_spec ht
  have hm : off + m.toNat = k := by omega
  have e1 : off * z + m.toNat * z = k * z := by rw [← Nat.add_mul, hm]
  simp [execOp, h, he, hix, Instr.indexAt, asIntOf, run_underlying hu, hA', h0, hn, sizeOf, typeInfo, hinf, hsz, Addr.add_lit, Nat.add_assoc, e1]
/-- a part of a struct's value -/
theorem core_extract {o : Oper} (x : Operand) (j : Nat) {cs : List AV} {av : AV} (h : o.op = .extract x j) (hx : evO E x = .tup cs) (hj : cs[j]? = some av) : Core P o E H av := by
  refine ⟨(by rw [h]; intro c hc; cases hc), fun S w0 γ a w hs => ?_⟩
  obtain ⟨vs, he, hl, hc⟩ := conc_tup (hx ▸ conc_evO hs x)
  have hlt : j < vs.length := by rw [← hl]; exact (List.getElem?_eq_some_iff.1 hj).1
  refine ⟨vs[j], hc j av _ hj (by simp [hlt]), fun w' _ => ?_⟩
  simp [execOp, h, he, Instr.extract, hlt]
end Go.Proofs.Ytcgopcfbgkhpgaa.Sx
