/- The reckoner's operations: a string into bytes, and back. No program is named. -/
import Derived.Test.YtcgopcfbgkhpgaaEv7d
import Derived.Laws.BytesArg
import Derived.Laws.IdiomStrings
import Derived.Lib.AppendZeros
namespace Go.Proofs.Ytcgopcfbgkhpgaa.Ev
open Go.RowKit
variable {P : Program} {γ : G} {w0 : Bs} {w : World} {H H' : Tr EK} {n n' : Nat} {T : Tr EV} {tmps : Array Value} {o : Oper} {r : Option EV}

noncomputable def isU8 (P : Program) (e : TypeId) : Bool := match P.underlying e with
  | some (.int .u8) => true
  | _ => false
theorem isU8_ok {e : TypeId} (h : isU8 P e = true) : P.underlying e = some (.int .u8) := by
  unfold isU8 at h
  split at h
  · assumption
  · cases h
noncomputable def isStr (P : Program) (e : TypeId) : Bool := match P.underlying e with
  | some .string => true
  | _ => false
theorem isStr_ok {e : TypeId} (h : isStr P e = true) : P.underlying e = some .string := by
  unfold isStr at h
  split at h
  · assumption
  · cases h
noncomputable def bytesE (s : ByteArray) : List EV := s.data.toList.map fun b => .v (.int .u8 b.toNat)
noncomputable def exToB (P : Program) (T : Tr EV) (src dst : TypeId) (x : Operand) (H : Tr EK) (n : Nat) : Option ER := match exVal T x with
  | some (.v (.string s)) => match elemOf P dst with
    | some e => bc (isStr P src) (bc (isU8 P e) (bc (Nat.ble (llen (bytesE s)) 65536) (bc (Nat.ble n 65535) (some ⟨some (.sl n 1 0 (llen (bytesE s)) none), H.put n (some (.cells e (bytesE s) false)), Nat.succ n⟩) none) none) none) none
    | none => none
  | _ => none
theorem exToB_ok (hT : TOk γ T tmps) (hH : HR γ w0 H n w) {src dst : TypeId} {x : Operand} {er : ER} (ho : o.op = .convert src dst x) (h : exToB P T src dst x H n = some er) : Gives P γ w0 w (execOp (opEval tmps) o) er.val er.H er.n := by
  unfold exToB at h
  split at h
  case h_2 => cases h
  rename_i s hx
  split at h
  case h_2 => cases h
  rename_i e he
  rw [bc_eq] at h
  split at h
  case isFalse => cases h
  rename_i h1
  rw [bc_eq] at h
  split at h
  case isFalse => cases h
  rename_i h2
  rw [bc_eq] at h
  split at h
  case isFalse => cases h
  rename_i h3
  rw [bc_eq] at h
  split at h
  case isFalse => cases h
  rename_i h4
  injection h with h; subst h
  have h3 := Nat.le_of_ble_eq_true h3
  have hbl : llen (bytesE s) = s.size := by
    rw [llen_eq]; unfold bytesE
    rw [List.length_map, Array.length_toList]
    rfl
  rw [hbl] at h3 ⊢
  have hxv := ec_v (exVal_ok hT hx)
  have hrun := run_bytes_of_string (P := P) w src dst e s (isStr_ok h1) (elemOf_ok he) (isU8_ok h2)
  have hc1 := grownCap_ge w s.size 0 e
  have hc2 := grownCap_le_maxLen w s.size 0 e (by unfold maxLen; omega)
  generalize grownCap w s.size 0 e = gc at hrun hc1 hc2
  have hrs : (bytesRow s gc).size = gc := by
    unfold bytesRow
    have : s.data.size = s.size := rfl
    simp; omega
  have hH1 : HR γ w0 H n w.drew := hH.step rfl rfl rfl rfl
  have hlay := hH1.lay (w' := w.drew.alloc (.cells (bytesRow s gc) e ((bytesRow s gc).size, (bytesRow s gc).size + 1))) h4 gc (.cells e (bytesE s) false)
    (fun c hc => by
      have hc : c < w.heap.size := hc
      show (w.heap.push _)[c]? = w.heap[c]?
      rw [Array.getElem?_push_lt hc]
      simp [hc])
    (by show w.heap.size < (w.heap.push _).size; simp) rfl rfl rfl
    ⟨bytesRow s gc, ⟨((bytesRow s gc).size, (bytesRow s gc).size + 1), by show (w.heap.push _)[w.heap.size]? = _; simp, .inr (Nat.le_refl _)⟩, by rw [hrs]; exact (Nat.zero_add _).symm, by rw [← llen_eq, hbl]; exact hc1, (fun e => by cases e), by
      show ECL _ _ (((bytesRow s gc).toList.drop 0).take _)
      rw [List.drop_zero, ← llen_eq, hbl]
      have e1 : (bytesRow s gc).toList.take s.size = s.data.toList.map fun b => Value.int .u8 b.toNat := by
        unfold bytesRow
        rw [Array.toList_append, List.take_append_of_le_length (by simp)]
        rw [List.take_of_length_le (by simp)]
        simp
      rw [e1]
      have := ECL.vals (γ.upd n (⟨w.drew.heap.size, 0⟩, gc)) (s.data.toList.map fun b => Value.int .u8 b.toNat)
      rw [List.map_map] at this
      exact this⟩
  refine ⟨_, _, G.upd_le (hH1.fresh n (Nat.le_refl _)), hlay, .slice (some ⟨w.heap.size, 0, none⟩) s.size gc, ?_, ?_⟩
  · have he' : execOp (opEval tmps) o = (do pure (Next.value (← convert src dst (opEval tmps x))) : Sem Next) := by unfold execOp; rw [ho]
    rw [he', hxv]
    exact run_v hrun
  · exact .sl n 1 0 s.size none ⟨w.heap.size, 0⟩ gc gc G.upd_same hc1 hc2 (by omega) (fun k e => by cases e) (fun _ => by omega)
noncomputable def u8Of (a : EV) : Option Int := match a with
  | .v (.int .u8 k) => some k
  | _ => none
noncomputable def u8sOf (cs : List EV) : Option (List Int) := List.rec (some []) (fun a _ ih => match u8Of a with
  | some k => match ih with
    | some l => some (k :: l)
    | none => none
  | none => none) cs
theorem u8sOf_eq : ∀ {cs : List EV} {l : List Int}, u8sOf cs = some l → cs = l.map fun k => .v (.int .u8 k)
  | [], l, h => by simp [u8sOf] at h; subst h; rfl
  | a :: cs, l, h => by
    have h' : (match u8Of a with
      | some k => match u8sOf cs with
        | some l => some (k :: l)
        | none => none
      | none => none) = some l := h
    split at h'
    case h_2 => cases h'
    rename_i k hk
    split at h'
    case h_2 => cases h'
    rename_i l' hl
    injection h' with h'; subst h'
    unfold u8Of at hk
    split at hk
    case h_2 => cases hk
    injection hk with hk; subst hk
    rw [u8sOf_eq hl]; rfl
noncomputable def exFromB (P : Program) (T : Tr EV) (src dst : TypeId) (x : Operand) (H : Tr EK) : Option EV := match exVal T x with
  | some (.sl i z off len _) => match elemOf P src with
    | some e => match cellsAt H i with
      | some (_, cs, _) => match u8sOf ((cs.drop off).take len) with
        | some xs => bc (Nat.beq z 1) (bc (isStr P dst) (bc (isU8 P e) (bc (Nat.beq (llen xs) len) (some (.v (.string (strOfNums xs)))) none) none) none) none
        | none => none
      | none => none
    | none => none
  | _ => none
theorem exFromB_ok (hT : TOk γ T tmps) (hH : HR γ w0 H n w) {src dst : TypeId} {x : Operand} {a : EV} (ho : o.op = .convert src dst x) (h : exFromB P T src dst x H = some a) : Gives P γ w0 w (execOp (opEval tmps) o) (some a) H n := by
  unfold exFromB at h
  split at h
  case h_2 => cases h
  rename_i i z off len cap hx
  split at h
  case h_2 => cases h
  rename_i e he
  split at h
  case h_2 => cases h
  rename_i ty cs full hcs
  split at h
  case h_2 => cases h
  rename_i xs hxs
  rw [bc_eq] at h
  split at h
  case isFalse => cases h
  rw [bc_eq] at h
  split at h
  case isFalse => cases h
  rename_i h2
  rw [bc_eq] at h
  split at h
  case isFalse => cases h
  rename_i h3
  rw [bc_eq] at h
  split at h
  case isFalse => cases h
  rename_i h4
  injection h with h; subst h
  have h4 := Nat.eq_of_beq_eq_true h4
  rw [llen_eq] at h4
  obtain ⟨b, m, c, hγ, hxv, _⟩ := ec_sl (exVal_ok hT hx)
  obtain ⟨hg, b2, m2, ca, hγ2, hb, hsz, hle, hfull, hc⟩ := cellsAt_ok hH hcs
  rw [hγ] at hγ2
  simp only [Option.some.injEq, Prod.mk.injEq] at hγ2
  obtain ⟨rfl, rfl⟩ := hγ2
  refine gives_value (x := .string (strOfNums xs)) ?_ (.v _) hH
  have he' : execOp (opEval tmps) o = (do pure (Next.value (← convert src dst (opEval tmps x))) : Sem Next) := by unfold execOp; rw [ho]
  rw [he', hxv]
  refine run_v (run_convert_bytes_arg w src e (elemOf_ok he) (isU8_ok h3) b.k (b.s + off) len c xs h4 (fun j hj => ?_) dst (isStr_ok h2))
  have hl := u8sOf_eq hxs
  have h1 : ((cs.drop off).take len)[j]? = some (.v (.int .u8 (xs.getD j 0))) := by
    rw [hl, List.getElem?_map, List.getElem?_eq_getElem (by omega)]
    simp [List.getD, List.getElem?_eq_getElem (show j < xs.length by omega)]
  rw [List.getElem?_take, if_pos hj, List.getElem?_drop] at h1
  obtain ⟨u, hu1, hu2⟩ := hc.at h1
  rw [List.getElem?_take] at hu1
  split at hu1
  case isFalse => cases hu1
  rw [List.getElem?_drop] at hu1
  have hu2 := ec_v hu2
  subst hu2
  have := (cell_of (off := off + j) hb).1
  unfold Pl.at at this
  rw [Nat.add_assoc, this]
  simpa using hu1
/-- an empty slice is lengthened by so many zeros -/
noncomputable def isInt (P : Program) (e : TypeId) : Bool := match P.underlying e with
  | some (.int _) => true
  | _ => false
theorem isInt_ok {e : TypeId} (h : isInt P e = true) : ∃ k, P.underlying e = some (.int k) := by
  unfold isInt at h
  split at h
  · rename_i k hk; exact ⟨k, hk⟩
  · cases h
noncomputable def exAppZ (P : Program) (T : Tr EV) (x y : Operand) (t u : TypeId) (H : Tr EK) (n : Nat) : Option ER := match exVal T x with
  | some (.v (.slice none 0 0)) => match exVal T y with
    | some (.v (.int _ (.ofNat m))) => match elemInfo P t with
      | some ei => match Sx.zeroL P ei.e with
        | some zs => bc (isInt P u) (bc (Nat.blt 0 m) (bc (Nat.ble m 4096) (bc (Nat.ble n 65535) (some ⟨some (.sl n ei.z 0 m none), H.put n (some (.cells ei.e (zeroCellsE zs (m * ei.z)) false)), Nat.succ n⟩) none) none) none) none
        | none => none
      | none => none
    | _ => none
  | _ => none
theorem zrow_ok {e : TypeId} {zs : List Value} {zv : Value} {z m gc : Nat} (hzl : zv.cells.toList = zs) (hz : zv.cells.size = z) (hc : m ≤ gc) (γ' : G) :
    (EK.cells e (zeroCellsE zs (m * z)) false).ok γ' ⟨w.heap.size, 0⟩ (gc * z) (w.drew.alloc (.cells (Builtin.zeroCells zv.cells m ++ Builtin.zeroCells zv.cells (gc - m)) e)) := by
  have hz1 : ∀ k, (Builtin.zeroCells zv.cells k).size = k * z := fun k => by rw [size_zeroCells, hz]
  have hza : zs.toArray = zv.cells := by apply Array.ext'; simpa using hzl.symm
  have hze : ECL γ' (zeroCellsE zs (m * z)) (Builtin.zeroCells zv.cells m).toList := by
    have := zeroCellsE_ok (γ := γ') zs (m * z)
    rw [hza] at this
    unfold Builtin.zeroCells
    rw [hz] at this ⊢
    exact this
  have hzn : (zeroCellsE zs (m * z)).length = m * z := by rw [hze.1, Array.length_toList, hz1]
  have hmz : m * z ≤ gc * z := Nat.mul_le_mul_right _ hc
  have hsum : m * z + (gc - m) * z = gc * z := by rw [← Nat.add_mul, show m + (gc - m) = gc by omega]
  refine ⟨_, .of (by show (w.heap.push _)[w.heap.size]? = _; simp; rfl), by rw [Array.size_append, hz1, hz1, hsum]; exact (Nat.zero_add _).symm, by rw [hzn]; exact hmz, (fun e => by cases e), ?_⟩
  show ECL _ _ (List.take _ (List.drop 0 _))
  rw [List.drop_zero, hzn, Array.toList_append, List.take_append_of_le_length (by rw [Array.length_toList, hz1]; exact Nat.le_refl _), List.take_of_length_le (by rw [Array.length_toList, hz1]; exact Nat.le_refl _)]
  exact hze
theorem appZ_lay (hH : HR γ w0 H n w) (hn : Nat.ble n 65535 = true) {e : TypeId} {zs : List Value} {zv : Value} {z m gc : Nat} (hzl : zv.cells.toList = zs) (hz : zv.cells.size = z) (hc : m ≤ gc) :
    HR (γ.upd n (⟨w.heap.size, 0⟩, gc * z)) w0 (H.put n (some (.cells e (zeroCellsE zs (m * z)) false))) (Nat.succ n) (w.drew.alloc (.cells (Builtin.zeroCells zv.cells m ++ Builtin.zeroCells zv.cells (gc - m)) e)) := by
  have hH1 : HR γ w0 H n w.drew := hH.step rfl rfl rfl rfl
  exact hH1.lay hn (gc * z) (.cells e (zeroCellsE zs (m * z)) false) (fun c hc => by
      have hc : c < w.heap.size := hc
      show (w.heap.push _)[c]? = w.heap[c]?
      rw [Array.getElem?_push_lt hc]
      simp [hc]) (by show w.heap.size < (w.heap.push _).size; simp) rfl rfl rfl (zrow_ok hzl hz hc _)
theorem run_appZ {x y : Operand} {t u e : TypeId} {inf : TypeInfo} {zv : Value} {kq kn : IntKind} {m : Nat} (ho : o.op = .call { callee := .builtin .append, args := #[x, y], argTypes := #[t, u] }) (hx : opEval tmps x = .slice none 0 0) (hy : opEval tmps y = .int kq m)
    (hu : P.underlying t = some (.slice e)) (hkn : P.underlying u = some (.int kn)) (hi : P.info? e = some inf) (hz : inf.zero = some zv) (h0 : 0 < m) (hp0 : 0 < inf.size) (h1 : (m : Int) ≤ 9223372036854775807) (h2 : m * inf.bytes ≤ 281474976710656) (w : World) :
    (execOp (opEval tmps) o).run P w = .ok (.value (.slice (some ⟨w.heap.size, 0, none⟩) m (grownCap w m 0 e))) (w.drew.alloc (.cells (Builtin.zeroCells zv.cells m ++ Builtin.zeroCells zv.cells (grownCap w m 0 e - m)) e)) := by
  have hrun := Lib.run_append_nil_zeros (P := P) w t u o.type e inf zv kq kn hu hkn hi hz m h0 hp0 h1 h2
  generalize w.drew.alloc (.cells (Builtin.zeroCells zv.cells m ++ Builtin.zeroCells zv.cells (grownCap w m 0 e - m)) e) = w2 at hrun ⊢
  generalize Value.slice (some ⟨w.heap.size, 0, none⟩) m (grownCap w m 0 e) = v2 at hrun ⊢
  have hrun2 : (Builtin.append_ #[t, u] o.type #[opEval tmps x, opEval tmps y]).run P w = .ok v2 w2 := by rw [hx, hy]; exact hrun
  simp [execOp, ho, resolve, invoke, builtin, hrun2]
theorem appZ_gives (hH : HR γ w0 H n w) {x y : Operand} {t u e : TypeId} {inf : TypeInfo} {zv : Value} {zs : List Value} {kq kn : IntKind} {m z : Nat} (ho : o.op = .call { callee := .builtin .append, args := #[x, y], argTypes := #[t, u] }) (hx : opEval tmps x = .slice none 0 0) (hy : opEval tmps y = .int kq m)
    (hu : P.underlying t = some (.slice e)) (hkn : P.underlying u = some (.int kn)) (hi : P.info? e = some inf) (hz : inf.zero = some zv) (hzl : zv.cells.toList = zs) (hzz : zv.cells.size = z) (h0 : 0 < m) (hp0 : 0 < inf.size) (h3 : m ≤ 4096) (h2 : m * inf.bytes ≤ 281474976710656) (hn : Nat.ble n 65535 = true) :
    Gives P γ w0 w (execOp (opEval tmps) o) (some (.sl n z 0 m none)) (H.put n (some (.cells e (zeroCellsE zs (m * z)) false))) (Nat.succ n) := by
  have hc1 := grownCap_ge w m 0 e
  have hc2 := grownCap_le_maxLen w m 0 e (by unfold maxLen; omega)
  have hrun := run_appZ (P := P) ho hx hy hu hkn hi hz h0 hp0 (by omega) h2 w
  have hlay := appZ_lay (e := e) hH hn hzl hzz hc1
  generalize grownCap w m 0 e = gc at hrun hc1 hc2 hlay
  exact ⟨_, _, G.upd_le (hH.fresh n (Nat.le_refl _)), hlay, _, hrun, .sl n z 0 m none ⟨w.heap.size, 0⟩ (gc * z) gc G.upd_same hc1 hc2 (by omega) (fun k e => by cases e) (fun _ => by omega)⟩
theorem exAppZ_ok (hT : TOk γ T tmps) (hH : HR γ w0 H n w) {x y : Operand} {t u : TypeId} {er : ER} (ho : o.op = .call { callee := .builtin .append, args := #[x, y], argTypes := #[t, u] }) (h : exAppZ P T x y t u H n = some er) : Gives P γ w0 w (execOp (opEval tmps) o) er.val er.H er.n := by
  unfold exAppZ at h
  split at h
  case h_2 => cases h
  rename_i hx
  split at h
  case h_2 => cases h
  rename_i kq m hy
  split at h
  case h_2 => cases h
  rename_i ei hei
  split at h
  case h_2 => cases h
  rename_i zs hzs
  rw [bc_eq] at h
  split at h
  case isFalse => cases h
  rename_i h1
  rw [bc_eq] at h
  split at h
  case isFalse => cases h
  rename_i h2
  rw [bc_eq] at h
  split at h
  case isFalse => cases h
  rename_i h3
  rw [bc_eq] at h
  split at h
  case isFalse => cases h
  rename_i h4
  injection h with h; subst h
  have h2 := blt_lt h2
  have h3 := Nat.le_of_ble_eq_true h3
  obtain ⟨kn, hkn⟩ := isInt_ok h1
  obtain ⟨hu, inf, zv, hi, hz, hsz, hzsz, hpos, hby⟩ := elemInfo_ok hei
  obtain ⟨inf2, zv2, hi2, hz2, hzl⟩ := zero_of hzs
  rw [hi] at hi2; injection hi2 with hi2; subst hi2
  rw [hz] at hz2; injection hz2 with hz2; subst hz2
  have hb2 : m * inf.bytes ≤ 281474976710656 := Nat.le_trans (Nat.mul_le_mul h3 hby) (by decide)
  exact appZ_gives hH ho (ec_v (exVal_ok hT hx)) (ec_v (exVal_ok hT hy)) hu hkn hi hz (by simpa using hzl) hzsz h2 (by rw [hsz]; exact hpos) h3 hb2 h4
end Go.Proofs.Ytcgopcfbgkhpgaa.Ev
