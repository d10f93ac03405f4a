/- The executor's rules: operands, what only reads. -/
import Derived.Test.YtcgopcfbgkhpgaaSx
import Derived.Test.YtcgopcfbgkhpgaaMem
namespace Go.Proofs.Ytcgopcfbgkhpgaa.Sx
open Go.RowKit

def cv : Value → AV
  | .agg cs => .agg (cs.toList.map .v)
  | x => .v x
def evO (E : Env) : Operand → AV
  | .tmp t => (E.lookup t).getD .top
  | .const x => cv x
  | .global _ => .top
  | .func f => .fn (.func f) []
theorem conc_cv (γ : Nat → Loc) (x : Value) : Conc γ (cv x) x := by
  cases x with
  | agg cs =>
    have := Conc.agg (γ := γ) (cs.toList.map .v) cs.toList (by simp) (fun j a y ha hy => by
      rw [List.getElem?_map, hy] at ha
      simp at ha
      subst ha
      exact Conc.v y)
    simpa [cv] using this
  | _ => exact Conc.v _
variable {P : Program} {S : Base} {w0 w : World} {E : Env} {H : Heap} {γ : Nat → Loc} {a : Act}
theorem getD_of {t : Nat} {x : Value} (h : a.tmps[t]? = some x) : a.tmps.getD t undef = x := by
  simp [Array.getD, Array.getElem?_eq_some_iff] at h ⊢
  obtain ⟨h1, h2⟩ := h
  simp [h1, h2]
theorem conc_evO (h : St S w0 E H γ a w) (x : Operand) : Conc γ (evO E x) (a.eval x) := by
  cases x with
  | tmp t =>
    show Conc γ ((E.lookup t).getD .top) (a.tmps.getD t undef)
    cases he : E.lookup t with
    | none => exact Conc.top _
    | some av =>
      obtain ⟨y, hy, hc⟩ := h.fr t av he
      rw [getD_of hy]; exact hc
  | const v => exact conc_cv γ v
  | global g => exact Conc.top _
  | func f => exact Conc.fn (.func f) [] [] rfl (by simp)

/-- What an operation that only reads does: one value, in every world in which all that lies here lies as it lies. -/
structure Core (P : Program) (o : Oper) (E : Env) (H : Heap) (av : AV) : Prop where
  nd : ∀ c, o.op ≠ .defer c
  run : ∀ S w0 γ a w, St S w0 E H γ a w → ∃ x, Conc γ av x ∧ ∀ w', Below w.heap.size w w' → (execOp a.eval o).run P w' = .ok (.value x) w'

theorem conc_v {x y : Value} (h : Conc γ (.v x) y) : y = x := by cases h; rfl
theorem run_v {s : Sem Value} {x : Value} {w w' : World} (h : s.run P w = .ok x w') : (do pure (Next.value (← s)) : Sem Next).run P w = .ok (.value x) w' := by
  simp [h]
theorem core_move {o : Oper} (x : Operand) (h : o.op = .move x) : Core P o E H (evO E x) :=
  ⟨(by rw [h]; intro c hc; cases hc), fun _ _ γ a w hs => ⟨a.eval x, conc_evO hs x, fun w' _ => by simp [execOp, h]⟩⟩
theorem core_assign {o : Oper} (x : Operand) (h : o.op = .assign x) : Core P o E H (evO E x) :=
  ⟨(by rw [h]; intro c hc; cases hc), fun _ _ γ a w hs => ⟨a.eval x, conc_evO hs x, fun w' _ => by simp [execOp, h]⟩⟩
theorem core_pick {o : Oper} (c x y : Operand) {t : Bool} (h : o.op = .pick c x y) (hc : evO E c = .v (.bool t)) : Core P o E H (if t then evO E x else evO E y) := by
  refine ⟨(by rw [h]; intro c hc; cases hc), fun _ _ γ a w hs => ⟨if t then a.eval x else a.eval y, ?_, fun w' _ => ?_⟩⟩
  · cases t
    · exact conc_evO hs y
    · exact conc_evO hs x
  · have e := conc_evO hs c
    rw [hc] at e
    have := conc_v e
    simp [execOp, h, this, asBool]
/-- operators on known values -/
def binV (op : BinOp) : Value → Value → Option Value
  | .int k a, .int k' b => if k = k' then match op with
    | .eql => some (.bool (a == b))
    | .neq => some (.bool (a != b))
    | .lss => some (.bool (decide (a < b)))
    | .leq => some (.bool (decide (a ≤ b)))
    | .gtr => some (.bool (decide (b < a)))
    | .geq => some (.bool (decide (b ≤ a)))
    | .add => some (.int k (k.wrap (a + b)))
    | .sub => some (.int k (k.wrap (a - b)))
    | .mul => some (.int k (k.wrap (a * b)))
    | _ => none else none
  | .string a, .string b => match op with
    | .eql => some (.bool (a.toList == b.toList))
    | .neq => some (.bool (!(a.toList == b.toList)))
    | _ => none
  | _, _ => none
theorem run_binV {op : BinOp} {t : TypeId} {x y : Operand} {u v r : Value} (h : binV op u v = some r) :
    (do eqGuard op t x y u v; binOp op t u v : Sem Value).run P w = .ok r w := by
  cases u <;> cases v <;> simp [binV] at h
  case int.int k a k' b =>
    obtain ⟨rfl, h⟩ := h
    cases op <;> simp at h <;> subst h <;> simp [eqGuard, binOp, Op.intCmp, Op.intArith]
  case string.string a b =>
    cases op <;> simp at h <;> subst h <;> simp [eqGuard, binOp, Op.stringOp]
theorem core_bin {o : Oper} (op : BinOp) (t t' : TypeId) (x y : Operand) {u v r : Value} (h : o.op = .binOp op t x y t') (hx : evO E x = .v u) (hy : evO E y = .v v) (hr : binV op u v = some r) : Core P o E H (.v r) := by
  refine ⟨(by rw [h]; intro c hc; cases hc), fun _ _ γ a w hs => ⟨r, Conc.v r, fun w' _ => ?_⟩⟩
  have e1 := conc_evO hs x
  have e2 := conc_evO hs y
  rw [hx] at e1
  rw [hy] at e2
  have h1 := conc_v e1
  have h2 := conc_v e2
  have hrun := run_binV (P := P) (w := w') (t := t) (x := x) (y := y) hr
  have he : execOp a.eval o = (do pure (Next.value (← (do eqGuard op t x y u v; binOp op t u v : Sem Value))) : Sem Next) := by
    unfold execOp; rw [h]; simp only [h1, h2]
  rw [he]
  exact run_v hrun
/-- sums that do not wrap -/
theorem core_add {o : Oper} (t t' : TypeId) (x y : Operand) {m n : Int} (h : o.op = .binOp .add t x y t') (hx : evO E x = .v (.int .i64 m)) (hy : evO E y = .v (.int .i64 n)) (hr : -9223372036854775808 ≤ m + n ∧ m + n ≤ 9223372036854775807) : Core P o E H (.v (.int .i64 (m + n))) :=
  core_bin .add t t' x y h hx hy (by simp [binV]; exact IntWalk.i64_in _ hr)
theorem core_sub {o : Oper} (t t' : TypeId) (x y : Operand) {m n : Int} (h : o.op = .binOp .sub t x y t') (hx : evO E x = .v (.int .i64 m)) (hy : evO E y = .v (.int .i64 n)) (hr : -9223372036854775808 ≤ m - n ∧ m - n ≤ 9223372036854775807) : Core P o E H (.v (.int .i64 (m - n))) :=
  core_bin .sub t t' x y h hx hy (by simp [binV]; exact IntWalk.i64_in _ hr)
theorem core_mul {o : Oper} (t t' : TypeId) (x y : Operand) {m n : Int} (h : o.op = .binOp .mul t x y t') (hx : evO E x = .v (.int .i64 m)) (hy : evO E y = .v (.int .i64 n)) (hr : -9223372036854775808 ≤ m * n ∧ m * n ≤ 9223372036854775807) : Core P o E H (.v (.int .i64 (m * n))) :=
  core_bin .mul t t' x y h hx hy (by simp [binV]; exact IntWalk.i64_in _ hr)
/-- a counter's step -/
theorem core_succ {o : Oper} (t t' : TypeId) (x : Operand) {k : Nat} (h : o.op = .binOp .add t x (.const (.int .i64 1)) t') (hx : evO E x = .v (.int .i64 (k : Int))) (hr : k < 9223372036854775807) : Core P o E H (.v (.int .i64 ((k + 1 : Nat) : Int))) := by
  have := core_add (P := P) (H := H) t t' x (.const (.int .i64 1)) h hx rfl (by omega)
  simpa using this
theorem core_not {o : Oper} (t : TypeId) (x : Operand) {b : Bool} (h : o.op = .unOp .not t x) (hx : evO E x = .v (.bool b)) : Core P o E H (.v (.bool (!b))) := by
  refine ⟨(by rw [h]; intro c hc; cases hc), fun _ _ γ a w hs => ⟨_, Conc.v _, fun w' _ => ?_⟩⟩
  have e1 := conc_evO hs x
  rw [hx] at e1
  have h1 := conc_v e1
  simp [execOp, h, h1, Op.unary]

/-! what the types say, as closed facts -/
def scalB (P : Program) (t : TypeId) : Bool := match P.underlying t, P.info? t with
  | some (.struct _), _ | some (.array _ _), _ => false
  | some _, some i => i.size == 1
  | _, _ => false
def aggN (P : Program) (t : TypeId) : Option Nat := match P.underlying t, P.info? t with
  | some (.struct _), some i => some i.size
  | some (.array _ _), some i => some i.size
  | _, _ => none
def fieldO (P : Program) (s : TypeId) (f : Nat) : Option Nat := match P.underlying s with
  | some (.struct fs) => (fs[f]?).bind fun x => (P.info? x.type).bind fun i => if i.size = 0 then none else some x.offset
  | _ => none
def slZ (P : Program) (t : TypeId) : Option Nat := match P.underlying t with
  | some (.slice e) => (P.info? e).map (·.size)
  | _ => none
theorem run_isAgg_scal {t : TypeId} (h : scalB P t = true) (w : World) : (isAgg t).run P w = .ok false w := by
  unfold scalB at h
  split at h <;> first | (simp at h; done) | skip
  rename_i d i hd hi hu hinfo
  unfold isAgg
  simp only [Sem.run_bind, run_underlying hu, Result.andThen_ok]
  rfl
theorem core_load {o : Oper} (t : TypeId) (x : Operand) {av : AV} (h : o.op = .load t x) (ht : scalB P t = true)
    (hc : ∀ S w0 γ a w, St S w0 E H γ a w → ∃ b j, Conc γ (evO E x) (.pointer (some ⟨b, j, none⟩)) ∧ a.eval x = .pointer (some ⟨b, j, none⟩) ∧ ∃ y, w.cell? ⟨b, j, none⟩ = some y ∧ Conc γ av y) : Core P o E H av := by
  refine ⟨(by rw [h]; intro c hc; cases hc), fun S w0 γ a w hs => ?_⟩
  obtain ⟨b, j, _, he, y, hy, hav⟩ := hc S w0 γ a w hs
  refine ⟨y, hav, fun w' hb => ?_⟩
  have hy' : w'.cell? ⟨b, j, none⟩ = some y := (hb.cell (World.block_lt_of_cell? w _ hy)).trans hy
  have hs : (execOp a.eval o) = (do pure (Next.value (← Instr.loadAt t (.pointer (some ⟨b, j, none⟩)))) : Sem Next) := by
    unfold execOp; rw [h]; simp only [he]
  rw [hs]
  refine run_v ?_
  simp [Instr.loadAt, Instr.sureAddr, loadVar, run_isAgg_scal ht, load, Sem.run, hy']

theorem conc_ptr {i off : Nat} {y : Value} (h : Conc γ (.ptr i off) y) : ∃ b o, (γ i).A = some ⟨b, o, none⟩ ∧ y = .pointer (some ⟨b, o + off, none⟩) := by
  cases h with | ptr _ _ b o h => exact ⟨b, o, h, rfl⟩
theorem conc_ept {i z k f : Nat} {y : Value} (h : Conc γ (.ept i z k f) y) : ∃ b o, (γ i).A = some ⟨b, o, none⟩ ∧ y = .pointer (some ⟨b, o + k * z + f, none⟩) := by
  cases h with | ept _ _ _ _ b o h => exact ⟨b, o, h, rfl⟩
theorem conc_sl {i z off len : Nat} {y : Value} (h : Conc γ (.sl i z off len) y) : ∃ A c, y = .slice A len c ∧ (off = 0 → A = (γ i).A ∧ c = (γ i).cap) ∧ (0 < len → ∃ b o, (γ i).A = some ⟨b, o, none⟩ ∧ A = some ⟨b, o + off * z, none⟩) ∧ len ≤ c := by
  cases h with | sl _ _ _ _ A c h0 h1 hc => exact ⟨A, c, rfl, h0, h1, hc⟩
theorem conc_agg {cs : List AV} {y : Value} (h : Conc γ (.agg cs) y) : ∃ vs : List Value, y = .agg vs.toArray ∧ cs.length = vs.length ∧ ∀ (j : Nat) (a : AV) (x : Value), cs[j]? = some a → vs[j]? = some x → Conc γ a x := by
  cases h with | agg _ vs hl h => exact ⟨vs, rfl, hl, h⟩
theorem conc_tup {cs : List AV} {y : Value} (h : Conc γ (.tup cs) y) : ∃ vs : List Value, y = .tuple vs.toArray ∧ cs.length = vs.length ∧ ∀ (j : Nat) (a : AV) (x : Value), cs[j]? = some a → vs[j]? = some x → Conc γ a x := by
  cases h with | tup _ vs hl h => exact ⟨vs, rfl, hl, h⟩

theorem core_load_box {o : Oper} (t : TypeId) (x : Operand) {i off : Nat} {cs : List AV} {av : AV} (h : o.op = .load t x) (hx : evO E x = .ptr i off) (hl : H.lookup i = some (.box cs)) (hav : cs[off]? = some av) (ht : scalB P t = true) : Core P o E H av := by
  refine core_load t x h ht fun S w0 γ a w hs => ?_
  have e := conc_evO hs x
  obtain ⟨b, o', hA, he⟩ := conc_ptr (hx ▸ e)
  obtain ⟨b2, o2, hA2, hc⟩ := hs.hp i _ hl
  rw [hA] at hA2
  simp only [Option.some.injEq, Addr.mk.injEq, and_true] at hA2
  obtain ⟨rfl, rfl⟩ := hA2
  obtain ⟨⟨y, hy, hc1⟩, _⟩ := hc off av hav
  exact ⟨b, o' + off, he ▸ e, he, y, hy, hc1⟩
theorem rowCells_get {cols : List Col} {n k j : Nat} {c : Col} (hk : k < n) (hc : cols[j]? = some c) : (rowCells cols n)[k * cols.length + j]? = some (c.val k) := by
  have hj : j < cols.length := (List.getElem?_eq_some_iff.1 hc).1
  unfold rowCells
  have h := flatMap_get (f := fun k => cols.map (·.val k)) (n := cols.length) (fun x => by simp) (List.range n) k j (by simpa using hk) hj
  rw [h]
  simp [hc]
theorem rowCells_len (cols : List Col) (n : Nat) : (rowCells cols n).length = n * cols.length := by
  unfold rowCells; rw [flatMap_len (n := cols.length) (fun x => by simp)]; simp
theorem core_load_ro {o : Oper} (t : TypeId) (x : Operand) {i z k f n : Nat} {cols : List Col} {c : Col} (h : o.op = .load t x) (hx : evO E x = .ept i z k f) (hl : H.lookup i = some (.ro n cols)) (hz : cols.length = z) (hc : cols[f]? = some c) (hk : k < n) (ht : scalB P t = true) : Core P o E H (.v (c.val k)) := by
  refine core_load t x h ht fun S w0 γ a w hs => ?_
  have e := conc_evO hs x
  obtain ⟨b, o', hA, he⟩ := conc_ept (hx ▸ e)
  obtain ⟨b2, o2, hA2, hcell⟩ := hs.hp i _ hl (by omega)
  rw [hA] at hA2
  simp only [Option.some.injEq, Addr.mk.injEq, and_true] at hA2
  obtain ⟨rfl, rfl⟩ := hA2
  subst hz
  exact ⟨b, _, he ▸ e, he, _, hcell k f c hk hc, Conc.v _⟩
theorem rw_at {A : Option Addr} {cap n : Nat} {t : TypeId} {cols : List Col} (h : w.ownsRow 0 t cols.length (.slice A n cap) n (rowCells cols n)) {b o k j : Nat} {c : Col} (hA : A = some ⟨b, o, none⟩) (hk : k < n) (hc : cols[j]? = some c) :
    o = 0 ∧ w.cell? ⟨b, o + k * cols.length + j, none⟩ = some (c.val k) ∧ w.frozen? ⟨b, o + k * cols.length + j, none⟩ = false := by
  obtain ⟨g, c', hv, _, _, _⟩ := own_pos h (by omega)
  injection hv with hA2 _ _
  rw [hA] at hA2
  simp only [Option.some.injEq, Addr.mk.injEq, and_true] at hA2
  obtain ⟨rfl, rfl⟩ := hA2
  subst hA
  have hj : j < cols.length := (List.getElem?_eq_some_iff.1 hc).1
  have hlt : k * cols.length + j < n * cols.length := by
    have : (k + 1) * cols.length ≤ n * cols.length := Nat.mul_le_mul_right _ hk
    rw [Nat.succ_mul] at this; omega
  refine ⟨rfl, ?_, ?_⟩
  · rw [Nat.zero_add, h.cellAt _ hlt]; exact rowCells_get hk hc
  · rw [Nat.zero_add]; exact h.frozenAt _
theorem core_load_rw {o : Oper} (t : TypeId) (x : Operand) {i z k f n : Nat} {e : TypeId} {cols : List Col} {c : Col} (h : o.op = .load t x) (hx : evO E x = .ept i z k f) (hl : H.lookup i = some (.rw e n cols)) (hz : cols.length = z) (hc : cols[f]? = some c) (hk : k < n) (ht : scalB P t = true) : Core P o E H (.v (c.val k)) := by
  refine core_load t x h ht fun S w0 γ a w hs => ?_
  have e := conc_evO hs x
  obtain ⟨b, o', hA, he⟩ := conc_ept (hx ▸ e)
  subst hz
  have := (rw_at (hs.hp i _ hl) hA hk hc).2.1
  exact ⟨b, _, he ▸ e, he, _, this, Conc.v _⟩
end Go.Proofs.Ytcgopcfbgkhpgaa.Sx
