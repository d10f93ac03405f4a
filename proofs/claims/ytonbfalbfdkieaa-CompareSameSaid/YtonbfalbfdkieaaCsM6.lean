/- CompareSame returns true, for all arguments, in every world in which it is called, and nothing that was there turns. -/
import Derived.ReadAgain
import Derived.OpenShut
import Derived.Test.YtonbfalbfdkieaaRows
import Derived.WalkKit
import Derived.ProofKit
import Derived.Test.YtonbfalbfdkieaaCsM5
set_option linter.unusedSimpArgs false
set_option linter.unusedVariables false
namespace Go.Proofs.Ytonbfalbfdkieaa
open Go.ChangeShapes Go.WideShapes Go.ChangeAt Go.RowKit
section
variable {H : Type} {enc : TypeId × Value → H} {P : Program}
theorem same_of_stays {W W' : World} (h : Ev.Stays W W') {p : MemPlace} (hp : p.block < W.heap.size) : W.sameAt W' p := by
  cases p with
  | cell b off =>
    show W'.cell? _ = W.cell? _
    unfold World.cell?
    rw [h.block b hp]
  | map b => exact h.block b hp
theorem args_carry {W W' : World} {base : Nat} {sp : Nat → Bool} {hd : Bool} : ∀ {ts : List TypeId} {vs : List Value} {ds : List (DataW H)} {ps : List MemPlace}, DataW.TrodAll enc P W base sp hd ts vs ds ps → (∀ p ∈ ps, W.sameAt W' p) → DataW.TrodAll enc P W' base sp hd ts vs ds ps
  | [], [], [], _, h, _ => h
  | _ :: _, _ :: _, _ :: _, _, ⟨p, q, ⟨n, h⟩, hs, e⟩, k => ⟨p, q, ⟨n, DataW.trod_carry n _ _ _ h fun x hx => k x (by rw [e]; exact List.mem_append_left _ hx)⟩, args_carry hs fun x hx => k x (by rw [e]; exact List.mem_append_right _ hx), e⟩
  | [], [], _ :: _, _, h, _ => h.elim
  | [], _ :: _, _, _, h, _ => h.elim
  | _ :: _, [], _, _, h, _ => h.elim
  | _ :: _, _ :: _, [], _, h, _ => h.elim

theorem post_law {f : Func} {s : ChangeSpec} {apart fresh handsOn again : Bool} {W W' : World} {args : Array Value} {ds : List (DataW H)} {p : List MemPlace} {bt : TypeId} {T : TypeId → Prop} (K : Kids P T) (hz : ∀ t e, T t → P.underlying t = some (.slice e) → 0 < P.cellsOf e)
    (hbt : P.underlying bt = some .bool) (hrt : f.resultTypes.toList = [bt]) (hsz : f.resultTypes.size = 1) (hvs : s.vars = []) (hfn : s.fn H (ds ++ []) = { results := [.lit (.bool true)], args := ds })
    (hpt : ∀ t ∈ f.params.toList, T t)
    (hW : DataW.Whole enc P f.params.toList s.vars apart W args.toList ds [] (p ++ [])) (hA : DataW.TrodAll enc P W 0 (fun _ => true) true f.params.toList args.toList ds p) (hst : Ev.Stays W W')
    (hok : ∀ (j : Nat) (t : TypeId) (r : Value), f.resultTypes[j]? = some t → ((Value.bool true).resultList f.resultTypes.size)[j]? = some r → Value.okWide P W' .any 0 t r) :
    s.post enc P f apart fresh handsOn again W args (.bool true) W' := by
  have hlt := fun q hq => hW.lt q hq
  refine post_of_stays (pa := p) (pv := []) hW (fun b sp hd => ?_) (fun sp hsp => ?_) (fun sp _ => ?_) rfl hst hok
  · rw [hrt, hfn, hsz]
    exact trodAll_mk1 (shut_bool hbt _)
  · rw [hfn]
    exact DataW.TrodAll.respare K hz hpt (args_carry hA fun q hq => same_of_stays hst (hlt q (by simpa using hq))) fun q hq => hsp q (by simpa using hq)
  · rw [hfn, hvs]
    rfl
end
namespace Ev


inductive UFit : Sh → U → Prop where
  | int (k : IntKind) (n : Int) (h : (Lit.int k n).wf = true) : UFit (.int k) (.i n)
  | bool (b : Bool) : UFit .bool (.b b)
  | str (s : ByteArray) (h : s.size ≤ maxLen) : UFit .str (.s s)
  | list (sh : List Sh) (l : List (List U)) (hl : l.length ≤ maxLen) (hr : ∀ j, j < l.length → (l.getD j []).length = sh.length) (h : ∀ (j f : Nat) (s : Sh), j < l.length → sh[f]? = some s → UFit s ((l.getD j []).getD f (.i 0))) : UFit (.list sh) (.l l)
structure RowFit (sh : List Sh) (r : List U) : Prop where
  len : r.length = sh.length
  fit : ∀ (f : Nat) (s : Sh), sh[f]? = some s → UFit s (r.getD f (.i 0))
theorem RowFit.nil : RowFit [] [] := ⟨rfl, fun f s h => by simp at h⟩
theorem RowFit.append {sh1 sh2 : List Sh} {r1 r2 : List U} (h1 : RowFit sh1 r1) (h2 : RowFit sh2 r2) : RowFit (sh1 ++ sh2) (r1 ++ r2) := by
  refine ⟨by simp [h1.len, h2.len], fun f s h => ?_⟩
  rw [List.getD_eq_getElem?_getD]
  by_cases hf : f < sh1.length
  · rw [List.getElem?_append_left hf] at h
    rw [List.getElem?_append_left (by rw [h1.len]; exact hf), ← List.getD_eq_getElem?_getD]
    exact h1.fit f s h
  · rw [List.getElem?_append_right (by omega)] at h
    rw [List.getElem?_append_right (by rw [h1.len]; omega), h1.len, ← List.getD_eq_getElem?_getD]
    exact h2.fit _ s h
theorem recE_app : ∀ {sh1 sh2 : List Sh} {r1 r2 : List U}, r1.length = sh1.length → recE (sh1 ++ sh2) (r1 ++ r2) = recE sh1 r1 ++ recE sh2 r2
  | [], sh2, r1, r2, h => by
    have : r1 = [] := List.eq_nil_of_length_eq_zero h
    subst this; rfl
  | s :: sh1, sh2, [], r2, h => by cases h
  | s :: sh1, sh2, u :: r1, r2, h => by
    show s.ev u :: recE (sh1 ++ sh2) (r1 ++ r2) = s.ev u :: (recE sh1 r1 ++ recE sh2 r2)
    rw [recE_app (by simpa using h)]

def shFs (P : Program) (f : TypeId → Option (List Sh)) : List Field → Nat → Option (List Sh)
  | [], _ => some []
  | fd :: r, off => match f fd.type with
    | some sh => if fd.offset = off ∧ P.cellsOf fd.type = sh.length then match shFs P f r (off + sh.length) with
      | some l => some (sh ++ l)
      | none => none else none
    | none => none
def shB (P : Program) : Nat → TypeId → Option (List Sh)
  | 0, _ => none
  | k + 1, t => match P.underlying t with
    | some (.int κ) => some [.int κ]
    | some .bool => some [.bool]
    | some .string => some [.str]
    | some (.slice e) => match shB P k e with
      | some sh => if P.cellsOf e = sh.length ∧ 0 < sh.length then some [.list sh] else none
      | none => none
    | some (.struct fs) => match shFs P (shB P k) fs.toList 0 with
      | some sh => if P.cellsOf t = sh.length then some sh else none
      | none => none
    | some (.array m e) => match shB P k e with
      | some sh => if P.cellsOf e = sh.length ∧ P.cellsOf t = m * sh.length then some (List.replicate m sh).flatten else none
      | none => none
    | _ => none
noncomputable def fzAll (W : World) : Nat → Option (Array Value) := fun k => match W.heap[k]? with
  | some (.cells a _ _) => some a
  | _ => none
noncomputable def gAll (W : World) : G := ⟨fun _ => none, fzAll W, fun _ _ _ => none⟩
theorem fzAll_at (W : World) : FzAt (gAll W) W := ⟨fun k a hk => (by
  have hk : fzAll W k = some a := hk
  unfold fzAll at hk
  split at hk
  · rename_i a' ty fz h
    injection hk with hk; subst hk
    exact ⟨ty, fz, h⟩
  · cases hk), fun _ _ _ => rfl⟩
theorem list_of {Q : Nat → List U → Prop} : ∀ (n : Nat), (∀ i, i < n → ∃ r, Q i r) → ∃ l : List (List U), l.length = n ∧ ∀ i, i < n → Q i (l.getD i [])
  | 0, _ => ⟨[], rfl, fun i hi => absurd hi (by omega)⟩
  | n + 1, h => by
    obtain ⟨l, h1, h2⟩ := list_of n fun i hi => h i (by omega)
    obtain ⟨r, hr⟩ := h n (by omega)
    refine ⟨l ++ [r], by simp [h1], fun i hi => ?_⟩
    rw [List.getD_eq_getElem?_getD]
    by_cases e : i < n
    · rw [List.getElem?_append_left (by omega), ← List.getD_eq_getElem?_getD]; exact h2 i e
    · have : i = n := by omega
      subst this
      rw [List.getElem?_append_right (by omega), h1, Nat.sub_self]; exact hr
variable {H : Type} {enc : TypeId × Value → H} {P : Program} {W : World} {base : Nat} {sp : Nat → Bool} {hd : Bool}
def OpenAt (enc : TypeId × Value → H) (P : Program) (W : World) (base : Nat) (sp : Nat → Bool) (hd : Bool) (k : Nat) : Prop := ∀ (t : TypeId) (sh : List Sh) (fuel : Nat) (cs : List Value) (x : DataW H × List MemPlace), shB P k t = some sh → DataW.trod enc P W base sp hd fuel t cs = some x → ∃ r, RowFit sh r ∧ ∀ γ : G, γ.fz = fzAll W → ECL γ (recE sh r) cs
theorem fields_open {k : Nat} (ih : OpenAt enc P W base sp hd k) {cs : List Value} {n : Nat} : ∀ (fs : List Field) (off : Nat) (sh : List Sh), shFs P (shB P k) fs off = some sh → (∀ f, f ∈ fs → ∃ y, DataW.trod enc P W base sp hd n f.type ((cs.drop f.offset).take (P.cellsOf f.type)) = some y) → ∃ r, RowFit sh r ∧ ∀ γ : G, γ.fz = fzAll W → ECL γ (recE sh r) ((cs.drop off).take sh.length)
  | [], off, sh, h, _ => by
    injection (show some [] = some sh from h) with h; subst h
    exact ⟨[], .nil, fun γ _ => by
      rw [show ([] : List Sh).length = 0 from rfl, List.take_zero]; exact ECL.nil γ⟩
  | fd :: fs, off, sh, h, hall => by
    unfold shFs at h
    split at h
    case h_2 => cases h
    rename_i s1 hs1
    split at h
    case isFalse => cases h
    rename_i hc
    split at h
    case h_2 => cases h
    rename_i s2 hs2
    injection h with h; subst h
    obtain ⟨y, hy⟩ := hall fd (by simp)
    rw [hc.1, hc.2] at hy
    obtain ⟨r1, h1, h2⟩ := ih fd.type s1 n _ y hs1 hy
    obtain ⟨r2, h3, h4⟩ := fields_open ih fs (off + s1.length) s2 hs2 fun f hf => hall f (by simp [hf])
    refine ⟨r1 ++ r2, h1.append h3, fun γ hγ => ?_⟩
    rw [recE_app h1.len, List.length_append]
    have e : (cs.drop off).take (s1.length + s2.length) = (cs.drop off).take s1.length ++ (cs.drop (off + s1.length)).take s2.length := by
      rw [List.take_add, List.drop_drop]
    rw [e]
    exact (h2 γ hγ).append (h4 γ hγ)
theorem elems_open {k : Nat} (ih : OpenAt enc P W base sp hd k) {cs : List Value} {n : Nat} {e : TypeId} {sh : List Sh} (hsh : shB P k e = some sh) (hc : P.cellsOf e = sh.length) : ∀ (m i0 : Nat), (∀ i, i < m → ∃ y, DataW.trod enc P W base sp hd n e ((cs.drop ((i0 + i) * P.cellsOf e)).take (P.cellsOf e)) = some y) → ∃ r, RowFit (List.replicate m sh).flatten r ∧ ∀ γ : G, γ.fz = fzAll W → ECL γ (recE (List.replicate m sh).flatten r) ((cs.drop (i0 * sh.length)).take (m * sh.length))
  | 0, i0, _ => ⟨[], .nil, fun γ _ => by
      rw [Nat.zero_mul, List.take_zero]; exact ECL.nil γ⟩
  | m + 1, i0, h => by
    obtain ⟨y, hy⟩ := h 0 (by omega)
    rw [hc, Nat.add_zero] at hy
    obtain ⟨r1, h1, h2⟩ := ih e sh n _ y hsh hy
    obtain ⟨r2, h3, h4⟩ := elems_open ih hsh hc m (i0 + 1) fun i hi => by
      have := h (i + 1) (by omega)
      rwa [show i0 + (i + 1) = i0 + 1 + i by omega] at this
    refine ⟨r1 ++ r2, by rw [List.replicate_succ, List.flatten_cons]; exact h1.append h3, fun γ hγ => ?_⟩
    rw [List.replicate_succ, List.flatten_cons, recE_app h1.len, Nat.succ_mul, Nat.add_comm, List.take_add, List.drop_drop]
    have := h4 γ hγ
    rw [Nat.succ_mul] at this
    exact (h2 γ hγ).append this
theorem open_cells : ∀ k, OpenAt enc P W base sp hd k
  | 0 => fun t sh fuel cs x h => by cases h
  | k + 1 => fun t sh fuel cs x h ht => by
    have ih : OpenAt enc P W base sp hd k := open_cells k
    unfold shB at h
    split at h
    · rename_i κ hu
      injection h with h; subst h
      obtain ⟨n, rfl, _, hw⟩ := DataW.trod_int hu ht
      refine ⟨[.i n], ⟨rfl, fun f s hf => ?_⟩, fun γ _ => .cons (.v _) (.nil _)⟩
      obtain ⟨rfl, rfl⟩ := one_f hf
      exact .int κ n hw
    · rename_i hu
      injection h with h; subst h
      obtain ⟨b, rfl, _⟩ := DataW.trod_bool hu ht
      refine ⟨[.b b], ⟨rfl, fun f s hf => ?_⟩, fun γ _ => .cons (.v _) (.nil _)⟩
      obtain ⟨rfl, rfl⟩ := one_f hf
      exact .bool b
    · rename_i hu
      injection h with h; subst h
      obtain ⟨s, rfl, _, hs⟩ := DataW.trod_string hu ht
      refine ⟨[.s s], ⟨rfl, fun f s hf => ?_⟩, fun γ _ => .cons (.v _) (.nil _)⟩
      obtain ⟨rfl, rfl⟩ := one_f hf
      exact .str _ hs
    · rename_i e hu
      split at h
      case h_2 => cases h
      rename_i sh' hsh
      split at h
      case isFalse => cases h
      rename_i hc
      injection h with h; subst h
      rcases DataW.trod_slice hu ht with ⟨rfl, _⟩ | ⟨a, len, cap, elems, rest, n, _, rfl, _, hb, hlc, hcm, hel, hall, _⟩
      · refine ⟨[.l []], ⟨rfl, fun f s hf => ?_⟩, fun γ _ => .cons ?_ (.nil _)⟩
        · obtain ⟨rfl, rfl⟩ := one_f hf
          exact .list sh' [] (Nat.zero_le _) (fun j hj => by simp at hj) (fun j f s hj => by simp at hj)
        · exact UOk.ec (s := .list sh') (.empty sh' (.l []) none 0 rfl (Nat.zero_le _) fun _ => rfl)
      · have each : ∀ i, i < len → ∃ r, RowFit sh' r ∧ ∃ ys, W.cells? base (a.add (i * sh'.length)) sh'.length = some ys ∧ ∀ γ : G, γ.fz = fzAll W → ECL γ (recE sh' r) ys := fun i hi => by
          have h1 := hall i hi
          rw [hc.1] at h1
          have h2 : i < elems.length := by omega
          rw [List.getElem?_eq_getElem h2] at h1
          obtain ⟨ys, h3, h4⟩ := Option.bind_eq_some_iff.1 h1
          obtain ⟨r, h5, h6⟩ := ih e sh' n ys _ hsh h4
          exact ⟨r, h5, ys, h3, h6⟩
        obtain ⟨l, hl, hQ⟩ := list_of len each
        refine ⟨[.l l], ⟨rfl, fun f s hf => ?_⟩, fun γ hγ => .cons ?_ (.nil _)⟩
        · obtain ⟨rfl, rfl⟩ := one_f hf
          exact .list sh' l (by omega) (fun j hj => (hQ j (by omega)).1.len) fun j f s hj hf => (hQ j (by omega)).1.fit f s hf
        · refine UOk.ec (s := .list sh') ?_
          by_cases h0 : len = 0
          · have : l = [] := List.eq_nil_of_length_eq_zero (by omega)
            subst this; subst h0
            exact .empty sh' (.l []) (some a) cap rfl hcm fun e => by cases e
          · obtain ⟨b, off, spot⟩ := a
            have hblk : spot = none ∧ ∃ arr ty fz, W.heap[b]? = some (.cells arr ty fz) := by
              obtain ⟨h1, ys, h2, h3⟩ := hQ 0 (by omega)
              obtain ⟨_, h4, h5⟩ := World.cells?_some h2
              have h6 := h5 0 hc.2
              rw [List.getElem?_eq_getElem (show 0 < ys.length by omega)] at h6
              have h6 : W.cell? ⟨b, off, spot⟩ = some ys[0] := by
                have e : ((⟨b, off, spot⟩ : Addr).add (0 * sh'.length)).add 0 = ⟨b, off, spot⟩ := by simp [Addr.add]
                rw [e] at h6; exact h6
              unfold World.cell? at h6
              split at h6
              · rename_i arr ty fz hb'
                split at h6
                · cases h6
                · rename_i hs
                  exact ⟨by cases spot <;> simp_all, arr, ty, fz, hb'⟩
              · cases h6
            obtain ⟨rfl, arr, ty, fz, hblk⟩ := hblk
            have cellAt : ∀ i f, i < len → f < sh'.length → ∃ y, W.cell? ⟨b, off + (i * sh'.length + f), none⟩ = some y ∧ ∀ s, sh'[f]? = some s → UOk γ.fz s ((l.getD i []).getD f (.i 0)) y := fun i f hi hf => by
              obtain ⟨h1, ys, h2, h3⟩ := hQ i hi
              obtain ⟨_, h4, h5⟩ := World.cells?_some h2
              have h6 := h5 f hf
              have h7 : f < ys.length := by omega
              rw [List.getElem?_eq_getElem h7] at h6
              refine ⟨ys[f], ?_, fun s hs => ?_⟩
              · have e : ((⟨b, off, none⟩ : Addr).add (i * sh'.length)).add f = ⟨b, off + (i * sh'.length + f), none⟩ := by
                  unfold Addr.add
                  split <;> split <;> simp_all [Nat.add_assoc]
                rw [← h6, e]
              · have h8 := recE_get (s := s) (f := f) (sh := sh') (l.getD i []) hs
                have h9 := (h3 γ hγ).2 f _ ys[f] h8 (List.getElem?_eq_getElem h7)
                exact UOk.of_ec h9
            have getA : ∀ i f, i < len → f < sh'.length → ∃ y, arr[off + (i * sh'.length + f)]? = some y ∧ ∀ s, sh'[f]? = some s → UOk γ.fz s ((l.getD i []).getD f (.i 0)) y := fun i f hi hf => by
              obtain ⟨y, h1, h2⟩ := cellAt i f hi hf
              refine ⟨y, ?_, h2⟩
              unfold World.cell? at h1
              simpa [hblk] using h1
            have hk : γ.fz b = some arr := by
              rw [hγ]; unfold fzAll; rw [hblk]
            subst hl
            refine .list sh' (.l l) b off cap arr hk hlc hcm ?_ fun j f s x hj hf hx => ?_
            · show off + l.length * sh'.length ≤ arr.size
              obtain ⟨y, h1, _⟩ := getA (l.length - 1) (sh'.length - 1) (by omega) (by omega)
              have := (Array.getElem?_eq_some_iff.1 h1).1
              have e : l.length * sh'.length = (l.length - 1) * sh'.length + sh'.length := by rw [← Nat.succ_mul]; congr 1; omega
              omega
            · obtain ⟨y, h1, h2⟩ := getA j f hj (List.getElem?_eq_some_iff.1 hf).1
              rw [h1] at hx; injection hx with hx; subst hx
              exact h2 s hf
    · rename_i fs hu
      split at h
      case h_2 => cases h
      rename_i sh' hsh
      split at h
      case isFalse => cases h
      rename_i hc
      injection h with h; subst h
      obtain ⟨xs, n, _, _, hl, hlen, hf⟩ := DataW.trod_struct hu ht
      obtain ⟨r, h1, h2⟩ := fields_open (cs := cs) (n := n) ih fs.toList 0 sh' hsh fun f hm => by
        obtain ⟨i, hi, rfl⟩ := List.getElem_of_mem hm
        have hi2 : i < fs.size := by simpa using hi
        have := hf i fs.toList[i] (by simp [hi2])
        rw [List.getElem?_eq_getElem (by omega)] at this
        exact ⟨_, this⟩
      refine ⟨r, h1, fun γ hγ => ?_⟩
      have := h2 γ hγ
      rwa [List.drop_zero, List.take_of_length_le (by omega)] at this
    · rename_i m e hu
      split at h
      case h_2 => cases h
      rename_i sh' hsh
      split at h
      case isFalse => cases h
      rename_i hc
      injection h with h; subst h
      obtain ⟨xs, n, _, _, hl, hlen, hf⟩ := DataW.trod_array hu ht
      obtain ⟨r, h1, h2⟩ := elems_open (cs := cs) (n := n) ih hsh hc.1 m 0 fun i hi => by
        have := hf i hi
        rw [List.getElem?_eq_getElem (by omega)] at this
        rw [Nat.zero_add]
        exact ⟨_, this⟩
      refine ⟨r, h1, fun γ hγ => ?_⟩
      have := h2 γ hγ
      rwa [Nat.zero_mul, List.drop_zero, List.take_of_length_le (by omega)] at this
    · cases h

theorem open_agg {t : TypeId} {fs : Array Field} {v : Value} {d : DataW H} {ps : List MemPlace} {k b0 : Nat} {rc : Reach} {sh : List Sh} (hu : P.underlying t = some (.struct fs)) (hs : shB P k t = some sh) (hv : Value.okWide P W rc b0 t v) (h : DataW.Trod enc P W base sp hd t v d ps) : ∃ r, RowFit sh r ∧ EC (gAll W) (.agg (recE sh r)) v := by
  obtain ⟨cs, rfl, _⟩ := okWide_struct hu hv
  obtain ⟨fuel, hf⟩ := h
  obtain ⟨r, h1, h2⟩ := open_cells k t sh fuel _ _ hs hf
  have h3 := h2 (gAll W) rfl
  refine ⟨r, h1, ?_⟩
  have := EC.agg (γ := gAll W) (recE sh r) cs.toList h3.1 h3.2
  simpa using this

theorem open_lst {t e : TypeId} {v : Value} {d : DataW H} {ps : List MemPlace} {k b0 : Nat} {rc : Reach} {sh : List Sh} (hu : P.underlying t = some (.slice e)) (hs : shB P k t = some [.list sh]) (hv : Value.okWide P W rc b0 t v) (h : DataW.Trod enc P W base sp hd t v d ps) : ∃ l, UFit (.list sh) (.l l) ∧ EC (gAll W) (.lst (mkC sh l)) v := by
  obtain ⟨a, len, cap, rfl⟩ := okWide_slice hu hv
  obtain ⟨fuel, hf⟩ := h
  obtain ⟨r, h1, h2⟩ := open_cells k t _ fuel _ _ hs hf
  have h3 := h2 (gAll W) rfl
  obtain ⟨h4, h5⟩ := h1
  match r, h4 with
  | [u], _ =>
    have h6 := h5 0 _ rfl
    have h6 : UFit (.list sh) u := h6
    cases h6 with
    | list _ l hl hr hh =>
      refine ⟨l, .list sh l hl hr hh, ?_⟩
      exact h3.2 0 _ _ rfl rfl
end Ev
end Go.Proofs.Ytonbfalbfdkieaa
namespace Go.Proofs.Ytonbfalbfdkieaa.Ev
open Go.Proofs
namespace LPts
end LPts
namespace LFar
noncomputable def RUN (s : ES) : ZF := RZ 15 .nil (fun _ => false) [] [] false s
theorem in_t (n k : Int) (X P : List (List U)) : RUN (st0 15 [clE n X P, iv k]) = (bc (decide (k < Int.ofNat (List.length X))) (bc (decide (Int.ofNat (List.length X) ≤ (20000 : Int))) (.done (EV.v (Value.bool true)) [] 0) (bc (decide ((20100 : Int) < Int.ofNat (List.length X))) (.done (EV.v (Value.bool true)) [] 0) (bc (decide ((60 : Int) < n)) (.done (EV.v (Value.bool true)) [] 0) (bc (decide (k < Int.ofNat (List.length P))) (bc (decide (Int.ofNat (List.length P) ≤ (6400 : Int))) (.done (EV.v (Value.bool true)) [] 0) (.done (EV.v (Value.bool (decide ((6500 : Int) < Int.ofNat (List.length P))))) [] 0)) (.done (EV.v (Value.bool (decide ((6500 : Int) < Int.ofNat (List.length P))))) [] 0))))) (bc (decide ((20100 : Int) < Int.ofNat (List.length X))) (.done (EV.v (Value.bool true)) [] 0) (bc (decide ((60 : Int) < n)) (.done (EV.v (Value.bool true)) [] 0) (bc (decide (k < Int.ofNat (List.length P))) (bc (decide (Int.ofNat (List.length P) ≤ (6400 : Int))) (.done (EV.v (Value.bool true)) [] 0) (.done (EV.v (Value.bool (decide ((6500 : Int) < Int.ofNat (List.length P))))) [] 0)) (.done (EV.v (Value.bool (decide ((6500 : Int) < Int.ofNat (List.length P))))) [] 0))))) := by kernel_rfl
end LFar

noncomputable def farB (n k : Int) (X P : List (List U)) : Bool := bc (decide (k < (X.length : Int) ∧ (X.length : Int) ≤ 20000)) true (bc (decide (20100 < (X.length : Int))) true (bc (decide (60 < n)) true (bc (decide (k < (P.length : Int) ∧ (P.length : Int) ≤ 6400)) true (decide (6500 < (P.length : Int))))))
theorem LFar.ends (n k : Int) (X P : List (List U)) : EndZ 15 .nil false (st0 15 [clE n X P, iv k]) (bv (farB n k X P)) [] 0 := by
  have h := LFar.in_t n k X P
  unfold farB
  simp only [ofn] at h
  have h3 : ∀ {R : ZF}, R = bc (decide (k < (P.length : Int))) (bc (decide ((P.length : Int) ≤ 6400)) (.done (bv true) [] 0) (.done (bv (decide (6500 < (P.length : Int)))) [] 0)) (.done (bv (decide (6500 < (P.length : Int)))) [] 0) → R = .done (bv (bc (decide (k < (P.length : Int) ∧ (P.length : Int) ≤ 6400)) true (decide (6500 < (P.length : Int))))) [] 0 := by
    intro R e
    rw [e]
    by_cases h1 : k < (P.length : Int)
    · by_cases h2 : (P.length : Int) ≤ 6400
      · rw [dt h1, dt h2, dt (show k < (P.length : Int) ∧ (P.length : Int) ≤ 6400 from ⟨h1, h2⟩)]; rfl
      · rw [dt h1, df h2, df (show ¬ (k < (P.length : Int) ∧ (P.length : Int) ≤ 6400) from fun h => h2 h.2)]; rfl
    · rw [df h1, df (show ¬ (k < (P.length : Int) ∧ (P.length : Int) ≤ 6400) from fun h => h1 h.1)]; rfl
  have h4 : ∀ {R : ZF}, R = bc (decide (20100 < (X.length : Int))) (.done (bv true) [] 0) (bc (decide (60 < n)) (.done (bv true) [] 0) (bc (decide (k < (P.length : Int))) (bc (decide ((P.length : Int) ≤ 6400)) (.done (bv true) [] 0) (.done (bv (decide (6500 < (P.length : Int)))) [] 0)) (.done (bv (decide (6500 < (P.length : Int)))) [] 0))) → R = .done (bv (bc (decide (20100 < (X.length : Int))) true (bc (decide (60 < n)) true (bc (decide (k < (P.length : Int) ∧ (P.length : Int) ≤ 6400)) true (decide (6500 < (P.length : Int))))))) [] 0 := by
    intro R e
    rw [e]
    cases decide (20100 < (X.length : Int))
    · rw [bc_f, bc_f]
      cases decide (60 < n)
      · rw [bc_f, bc_f]; exact h3 rfl
      · rfl
    · rfl
  by_cases h1 : k < (X.length : Int)
  · by_cases h2 : (X.length : Int) ≤ 20000
    · rw [dt h1, dt h2, bc_t, bc_t] at h
      rw [dt (show k < (X.length : Int) ∧ (X.length : Int) ≤ 20000 from ⟨h1, h2⟩), bc_t]
      exact .done h
    · rw [dt h1, df h2, bc_t, bc_f] at h
      rw [df (show ¬ (k < (X.length : Int) ∧ (X.length : Int) ≤ 20000) from fun h => h2 h.2), bc_f]
      exact .done (h4 h)
  · rw [df h1, bc_f] at h
    rw [df (show ¬ (k < (X.length : Int) ∧ (X.length : Int) ≤ 20000) from fun h => h1 h.1), bc_f]
    exact .done (h4 h)
noncomputable def spFar : ZCT := fun ax => match ax with
  | [.agg [.v (.int .i64 n), .lst (.recs [.int .i64, .int .i64, .int .i64, .int .i64] X), .lst (.recs [.int .i64, .int .i64, .int .i64, .int .i64] P)], .v (.int .i64 k)] => some ⟨decide (True), bv (farB n k X P), [], 0⟩
  | _ => none
theorem spFar_ok : ZCtOk Try.prog 15 spFar := fun γ w us ax r hs hc hax hN hfz => by
  unfold spFar at hs
  split at hs
  case h_2 => cases hs
  rename_i n X P k
  obtain ⟨rfl⟩ := Option.some.inj hs
  have hc_0 : decide (True) = true := hc
  have hc := of_decide_eq_true hc_0
  exact EndZ.calls (LFar.ends n k X P) (.nil _) (by kernel_rfl) hax hN hfz
namespace ACmF
end ACmF
end Go.Proofs.Ytonbfalbfdkieaa.Ev
namespace Go.Proofs.Ytonbfalbfdkieaa.Ev
noncomputable def hisE (n t : Int) (X P : List (List U)) : Int := bc (chk17 n X P != 0) (chk17 n X P) (bc (decide (t < 0)) 2 (bc (decide (n ≤ t)) 2 0))
noncomputable def hisL (n t : Int) (X P : List (List U)) : List (List U) := bc (hisE n t X P != 0) [] (hiF t X)
noncomputable def meB : List (List U) → List (List U) → Bool
  | [], [] => true
  | [], _ :: _ => false
  | _ :: _, [] => false
  | x :: a, y :: b => bc (mT x == mT y) (bc (mV x == mV y) (meB a b) false) false
theorem paF_meB : ∀ (i : Nat) (a b : List (List U)), (paF i a b).2.2 = !(meB a b)
  | _, [], [] => rfl
  | _, [], _ :: _ => rfl
  | _, _ :: _, [] => rfl
  | i, x :: a, y :: b => by
    unfold paF meB
    have e1 : (mT x != mT y) = !(mT x == mT y) := rfl
    have e2 : (mV x != mV y) = !(mV x == mV y) := rfl
    rw [e1, e2]
    cases (mT x == mT y)
    · rfl
    · cases (mV x == mV y)
      · rfl
      · exact paF_meB (i + 1) a b
theorem meB_refl : ∀ a : List (List U), meB a a = true
  | [] => rfl
  | x :: a => by
    unfold meB
    rw [show (mT x == mT x) = true by simp, show (mV x == mV x) = true by simp, bc_t, bc_t]
    exact meB_refl a
theorem meB_len : ∀ {a b : List (List U)}, a.length ≠ b.length → meB a b = false
  | [], [], h => absurd rfl h
  | [], _ :: _, _ => rfl
  | _ :: _, [], _ => rfl
  | x :: a, y :: b, h => by
    unfold meB
    rw [meB_len (a := a) (b := b) (by simp at h; exact h)]
    cases (mT x == mT y) <;> cases (mV x == mV y) <;> rfl

noncomputable def rM (r : List U) : List (List U) := U.list (r.getD 0 (.i 0))

def hisS (R : List (List U)) : Prop := ∀ j : Nat, (rM (R.getD j [])).length ≤ 100000
noncomputable instance (R : List (List U)) : Decidable (hisS R) := Classical.propDecidable _
noncomputable def eqTB : List (List U) → List (List U) → Bool
  | [], [] => true
  | [], _ :: _ => false
  | _ :: _, [] => false
  | x :: a, y :: b => bc (meB (rM x) (rM y)) (eqTB a b) false
theorem eqTB_len : ∀ {a b : List (List U)}, a.length ≠ b.length → eqTB a b = false
  | [], [], h => absurd rfl h
  | [], _ :: _, _ => rfl
  | _ :: _, [], _ => rfl
  | x :: a, y :: b, h => by
    unfold eqTB
    rw [eqTB_len (a := a) (b := b) (by simp at h; exact h)]
    cases meB (rM x) (rM y) <;> rfl
noncomputable def sameF (X Y : List (List U)) : Nat → Nat → Bool
  | _, 0 => true
  | t, k + 1 => bc (meB (hiF t X) (hiF t Y)) (sameF X Y (t + 1) k) false
theorem rowsH_len (n : Nat) (X : List (List U)) : (rowsT (thF X 0 (th0 n))).length = n := by rw [rowsT_len, thF_len]; unfold th0; simp
theorem rowsH {n t : Nat} {X : List (List U)} (tx : thrs n X) (ht : t < n) : rM ((rowsT (thF X 0 (th0 n))).getD t []) = hiF t X := by
  have l0 : (th0 n).length = n := by unfold th0; simp
  have g0 : (getT (th0 n) t).1 = [] := by
    unfold getT th0
    rw [List.getD_eq_getElem?_getD, List.getElem?_replicate, if_pos ht]; rfl
  have h1 := thF_hi t X 0 (th0 n) (by omega) (fun r hr => by rw [l0]; exact tx r hr)
  rw [g0, List.nil_append] at h1
  exact (getM (by rw [thF_len, l0]; exact ht)).trans h1
theorem rowsH_out {n t : Nat} {X : List (List U)} (ht : n ≤ t) : rM ((rowsT (thF X 0 (th0 n))).getD t []) = [] := by
  rw [List.getD_eq_getElem?_getD, List.getElem?_eq_none (by rw [rowsH_len]; exact ht)]
  rfl
theorem hisS_rows {n : Nat} {X : List (List U)} (tx : thrs n X) (hX : X.length ≤ 20000) : hisS (rowsT (thF X 0 (th0 n))) := fun j => by
  by_cases h : j < n
  · rw [rowsH tx h]
    have := hiF_len j X
    omega
  · rw [rowsH_out (by omega)]; exact Nat.zero_le _
theorem eqTB_rows {n : Nat} {X Y : List (List U)} (tx : thrs n X) (ty : thrs n Y) : ∀ (k t : Nat), t + k = n → eqTB ((rowsT (thF X 0 (th0 n))).drop t) ((rowsT (thF Y 0 (th0 n))).drop t) = sameF X Y t k
  | 0, t, h => by
    rw [List.drop_eq_nil_of_le (by rw [rowsH_len]; omega), List.drop_eq_nil_of_le (by rw [rowsH_len]; omega)]; rfl
  | k + 1, t, h => by
    have ht : t < n := by omega
    have hx := rowsH tx ht
    have hy := rowsH ty ht
    have lx : t < (rowsT (thF X 0 (th0 n))).length := by rw [rowsH_len]; exact ht
    have ly : t < (rowsT (thF Y 0 (th0 n))).length := by rw [rowsH_len]; exact ht
    rw [getD_at lx] at hx
    rw [getD_at ly] at hy
    rw [List.drop_eq_getElem_cons lx, List.drop_eq_getElem_cons ly]
    unfold eqTB sameF
    rw [hx, hy, eqTB_rows tx ty k (t + 1) (by omega)]
noncomputable def botE (n m : Int) (X P Y Q : List (List U)) : Int := bc (chk17 n X P != 0) (chk17 n X P) (chk17 m Y Q)
noncomputable def samB (n m : Int) (X P Y Q : List (List U)) : Bool := bc (botE n m X P Y Q != 0) false (bc (n != m) false (sameF X Y 0 n.toNat))
end Go.Proofs.Ytonbfalbfdkieaa.Ev
namespace Go.Proofs.Ytonbfalbfdkieaa.Ev
open Go.Proofs
namespace PHis
noncomputable def RUN (s : ES) : ZF := RZ 45 ctPF (fun _ => false) [] [] false s
theorem in_t (n t : Int) (X P : List (List U)) : RUN (st0 45 [clE n X P, iv t]) = (bc (chk17 n X P != (0 : Int)) (.done (EV.tup [(EV.v (Value.slice Option.none 0 0)), (EV.v (Value.int IntKind.i64 (chk17 n X P)))]) [] 0) (bc (decide (t < (0 : Int))) (.done (EV.tup [(EV.v (Value.slice Option.none 0 0)), (EV.v (Value.int IntKind.i64 (2)))]) [] 0) (bc (decide (n ≤ t)) (.done (EV.tup [(EV.v (Value.slice Option.none 0 0)), (EV.v (Value.int IntKind.i64 (2)))]) [] 0) (bc (decide ((0 : Int) ≤ n ∧ n ≤ (48 : Int) ∧ List.length X ≤ (20000 : Nat) ∧ thrs n X)) (bc (bc (bc (decide ((0 : Int) ≤ t)) (Nat.blt (Int.toNat t) (List.length (rowsT (thF X (0 : Nat) (th0 (Int.toNat n)))))) false) true false) (bc (bc (Nat.blt (Int.toNat t) (List.length (rowsT (thF X (0 : Nat) (th0 (Int.toNat n)))))) true false) (.done (EV.tup [(EV.lst (SyC.recs [(Sh.int IntKind.i64), Sh.bool] (U.list (List.getD (List.getD (rowsT (thF X (0 : Nat) (th0 (Int.toNat n)))) (Int.toNat t) []) (Nat.add (0 : Nat) (0 : Nat)) (U.i (0 : Int)))))), (EV.v (Value.int IntKind.i64 (0)))]) [] 0) .bad) .bad) .bad)))) := by kernel_rfl
theorem ends (n t : Int) (X P : List (List U)) : EndZ 45 ctPF false (st0 45 [clE n X P, iv t]) (.tup [ml (hisL n t X P), iv (hisE n t X P)]) [] 0 := by
  have h := in_t n t X P
  have err : ∀ e : Int, hisE n t X P = e → e ≠ 0 → Weak (.tup [.v (.slice none 0 0), iv e]) (.tup [ml (hisL n t X P), iv (hisE n t X P)]) := fun e he h0 => by
    unfold hisL
    rw [he, show (e != 0) = true by simp [h0], bc_t]
    exact Weak.tup (.cons (Weak.nil _) (.cons (Weak.refl _) .nil))
  by_cases z1 : chk17 n X P = 0
  · have b1 : (chk17 n X P != 0) = false := by simp [z1]
    rw [b1, bc_f] at h
    by_cases z2 : t < 0
    · rw [dt z2, bc_t] at h
      exact (EndZ.done h).weak (err 2 (by unfold hisE; rw [b1, dt z2]; rfl) (by decide))
    · rw [df z2, bc_f] at h
      by_cases z3 : n ≤ t
      · rw [dt z3, bc_t] at h
        exact (EndZ.done h).weak (err 2 (by unfold hisE; rw [b1, df z2, dt z3]; rfl) (by decide))
      · rw [df z3, bc_f] at h
        obtain ⟨c1, c2, c3, c4, c5, _⟩ := chk17_ok z1
        obtain ⟨n, rfl⟩ := Int.eq_ofNat_of_zero_le (show 0 ≤ n by omega)
        obtain ⟨t, rfl⟩ := Int.eq_ofNat_of_zero_le (show 0 ≤ t by omega)
        have hE : hisE n t X P = 0 := by unfold hisE; rw [b1, df z2, df z3]; rfl
        have hr : U.list (List.getD (List.getD (rowsT (thF X 0 (th0 n))) t []) (Nat.add 0 0) (U.i 0)) = hiF t X := rowsH c5 (by omega)
        rw [dt (show (0 : Int) ≤ n ∧ (n : Int) ≤ 48 ∧ X.length ≤ 20000 ∧ thrs n X from ⟨by omega, by omega, by omega, c5⟩), bc_t] at h
        rw [to_nat, to_nat, hr, rowsH_len] at h
        unfold hisL
        rw [hE]
        simp (disch := omega) only [Nat.add_eq, eqSy_self, eqN_self, bc_same, List.length_cons, ofn, wrap_in, dt, df, bltD, bltN, ble_of, bleN, beqD, bc_t, bc_f, nn_ok, Nat.zero_add, to_nat, Int.zero_add, Int.sub_zero, Int.sub_self, Int.cast_ofNat_Int, Int.natCast_zero, Int.toNat_zero, List.take_zero, List.nil_append, List.length_append, List.length_nil] at h
        exact .done h
  · have b1 : (chk17 n X P != 0) = true := by simp [z1]
    rw [b1, bc_t] at h
    exact (EndZ.done h).weak (err _ (by unfold hisE; rw [b1]; rfl) z1)
end PHis
noncomputable def spPHis : ZCT := fun ax => match ax with
  | [.agg [.v (.int .i64 n), .lst (.recs [.int .i64, .int .i64, .int .i64, .int .i64] X), .lst (.recs [.int .i64, .int .i64, .int .i64, .int .i64] P)], .v (.int .i64 t)] => some ⟨decide (True), .tup [ml (hisL n t X P), iv (hisE n t X P)], [], 0⟩
  | _ => none
theorem spPHis_ok : ZCtOk Try.prog 45 spPHis := fun γ w us ax r hs hc hax hN hfz => by
  unfold spPHis at hs
  split at hs
  case h_2 => cases hs
  rename_i n X P t
  obtain ⟨rfl⟩ := Option.some.inj hs
  have hc_0 : decide (True) = true := hc
  have hc := of_decide_eq_true hc_0
  exact EndZ.calls (PHis.ends n t X P) ctPF_ok (by kernel_rfl) hax hN hfz
namespace RHi2
end RHi2
namespace RBot
end RBot
namespace PMEq
noncomputable def RUN (s : ES) : ZF := RZ 118 .nil (atS 0 118 4) [] [[(0,none),(1,none),(12,none),(13,none)]] false s

noncomputable def sS (a b : List (List U)) (z i : Int) : NS := ⟨[⟨118, 26, [(0, (EV.lst (SyC.recs [(Sh.int IntKind.i64), Sh.bool] (a)))), (1, (EV.lst (SyC.recs [(Sh.int IntKind.i64), Sh.bool] (b)))), (12, iv z), (13, iv i)], [.it (.code (nav [1, 1, 0, 1, 0, 0] (bodyOf Try.f118))), .it (.inLoop (nav [1, 1, 0, 1, 0, 0] (bodyOf Try.f118))), .it (.inBlock 0), .it (.code (nav [1, 1, 1] (bodyOf Try.f118)))], [], Option.none⟩], [], 0⟩
theorem in_t (a b : List (List U)) : RUN (st0 118 [ml a, ml b]) = (bc (Int.ofNat (List.length a) != Int.ofNat (List.length b)) (.done (EV.v (Value.bool false)) [] 0) (.at (sS (a) (b) (Int.ofNat (List.length a)) ((0 : Int))))) := by kernel_rfl
theorem step_t (a b : List (List U)) (z i : Int) : RUN (stOf (sS a b z i)) = (bc (decide (i < z)) (bc (bc (bc (bc (bc (decide ((0 : Int) ≤ i)) (Nat.blt (Int.toNat i) (List.length a)) false) true false) (bc (bc (Nat.blt (Int.toNat i) (List.length a)) true false) (bc (bc (bc (decide ((0 : Int) ≤ i)) (Nat.blt (Int.toNat i) (List.length b)) false) true false) (bc (bc (Nat.blt (Int.toNat i) (List.length b)) true false) true false) false) false) false) true false) (bc (bnot (bc (U.int (List.getD (List.getD a (Int.toNat i) []) (0 : Nat) (U.i (0 : Int))) == U.int (List.getD (List.getD b (Int.toNat i) []) (0 : Nat) (U.i (0 : Int)))) (bc (U.bool (List.getD (List.getD a (Int.toNat i) []) (Nat.succ (0 : Nat)) (U.i (0 : Int))) == U.bool (List.getD (List.getD b (Int.toNat i) []) (Nat.succ (0 : Nat)) (U.i (0 : Int)))) true false) false)) (.done (EV.v (Value.bool false)) [] 0) (.at (sS (a) (b) (z) (IntKind.wrap IntKind.i64 (i + (1 : Int)))))) .bad) (.done (EV.v (Value.bool true)) [] 0)) := by kernel_rfl
theorem loop {a b : List (List U)} (hl : a.length ≤ 100000) (hb : b.length = a.length) : ∀ (k i : Nat), i + k = a.length → EndZ 118 .nil false (stOf (sS a b a.length i)) (bv (meB (a.drop i) (b.drop i))) [] 0
  | 0, i, h => by
    have hs := step_t a b a.length i
    rw [List.drop_eq_nil_of_le (show a.length ≤ i by omega), List.drop_eq_nil_of_le (show b.length ≤ i by omega)]
    simp (disch := omega) only [Nat.add_eq, eqSy_self, eqN_self, bc_same, List.length_cons, ofn, wrap_in, dt, df, bltD, bltN, ble_of, bleN, beqD, bc_t, bc_f, nn_ok, Nat.zero_add, to_nat, Int.zero_add, Int.sub_zero, Int.sub_self, Int.cast_ofNat_Int, Int.natCast_zero, Int.toNat_zero, List.take_zero, List.nil_append, List.length_append, List.length_nil] at hs
    exact .done hs
  | k + 1, i, h => by
    have hs := step_t a b a.length i
    have h2 : i < a.length := by omega
    have h3 : i < b.length := by omega
    have e1 : a.getD i [] = a[i] := getD_at h2
    have e2 : b.getD i [] = b[i] := getD_at h3
    rw [to_nat, e1, e2] at hs
    have f1 : U.int (List.getD a[i] 0 (U.i 0)) = mT a[i] := rfl
    have f2 : U.int (List.getD b[i] 0 (U.i 0)) = mT b[i] := rfl
    have f3 : U.bool (List.getD a[i] (Nat.succ 0) (U.i 0)) = mV a[i] := rfl
    have f4 : U.bool (List.getD b[i] (Nat.succ 0) (U.i 0)) = mV b[i] := rfl
    rw [f1, f2, f3, f4] at hs
    simp (disch := omega) only [Nat.add_eq, eqSy_self, eqN_self, bc_same, List.length_cons, ofn, wrap_in, dt, df, bltD, bltN, ble_of, bleN, beqD, bc_t, bc_f, nn_ok, Nat.zero_add, to_nat, Int.zero_add, Int.sub_zero, Int.sub_self, Int.cast_ofNat_Int, Int.natCast_zero, Int.toNat_zero, List.take_zero, List.nil_append, List.length_append, List.length_nil] at hs
    rw [List.drop_eq_getElem_cons h2, List.drop_eq_getElem_cons h3]
    unfold meB
    cases g1 : (mT a[i] == mT b[i]) <;> rw [g1] at hs
    · exact .done hs
    · cases g2 : (mV a[i] == mV b[i]) <;> rw [g2] at hs
      · exact .done hs
      · exact .at (.nil _) hs (loop hl hb k (i + 1) (by omega))
end PMEq
noncomputable def spMEq : ZCT := fun ax => match ax with
  | [.lst (.recs [.int .i64, .bool] a), .lst (.recs [.int .i64, .bool] b)] => some ⟨decide (a.length ≤ 100000), bv (meB a b), [], 0⟩
  | _ => none
theorem spMEq_ok : ZCtOk Try.prog 118 spMEq := fun γ w us ax r hs hc hax hN hfz => by
  unfold spMEq at hs
  split at hs
  case h_2 => cases hs
  rename_i a b
  obtain ⟨rfl⟩ := Option.some.inj hs
  have hc_0 : decide (a.length ≤ 100000) = true := hc
  have hc := of_decide_eq_true hc_0
  exact EndZ.calls (by
    have h := PMEq.in_t a b
    by_cases h1 : b.length = a.length
    · have e : (Int.ofNat a.length != Int.ofNat b.length) = false := by simp [h1]
      rw [e, bc_f] at h
      exact .at (.nil _) h (PMEq.loop hc h1 a.length 0 (by omega))
    · have e : (Int.ofNat a.length != Int.ofNat b.length) = true := by simp; omega
      rw [e, bc_t] at h
      show EndZ _ _ _ _ (bv (meB a b)) _ _
      rw [meB_len (fun e => h1 e.symm)]
      exact .done h) (.nil _) (by kernel_rfl) hax hN hfz
end Go.Proofs.Ytonbfalbfdkieaa.Ev
namespace Go.Proofs.Ytonbfalbfdkieaa.Ev
open Go.Proofs
noncomputable def ctEq : Tr ZCC := Tr.nil.put 118 (some (dC spMEq))
theorem ctEq_ok : ZCtsOk Try.prog ctEq := (ZCtsOk.nil _).add rfl spMEq_ok
namespace PEqT
noncomputable def RUN (s : ES) : ZF := RZ 116 ctEq (atS 0 116 4) [] [[(0,none),(1,none),(2,none),(15,none),(16,none),(17,none)]] false s

noncomputable def sS (R S : List (List U)) (z i : Int) : NS := ⟨[⟨116, 32, [(0, (EV.lst (SyC.recs [(Sh.list [(Sh.int IntKind.i64), Sh.bool]), (Sh.list [(Sh.int IntKind.i64)])] (R)))), (1, (EV.lst (SyC.recs [(Sh.list [(Sh.int IntKind.i64), Sh.bool]), (Sh.list [(Sh.int IntKind.i64)])] (S)))), (2, (EV.fn 117 [])), (15, (EV.lst (SyC.recs [(Sh.list [(Sh.int IntKind.i64), Sh.bool]), (Sh.list [(Sh.int IntKind.i64)])] (R)))), (16, iv z), (17, iv i)], [.it (.code (nav [1, 1, 0, 1, 0, 0] (bodyOf Try.f116))), .it (.inLoop (nav [1, 1, 0, 1, 0, 0] (bodyOf Try.f116))), .it (.inBlock 0), .it (.code (nav [1, 1, 1] (bodyOf Try.f116)))], [], Option.none⟩], [], 0⟩
theorem in_t (R S : List (List U)) : RUN (st0 116 [EV.lst (.recs shT R), EV.lst (.recs shT S), EV.fn 117 []]) = (bc (Int.ofNat (List.length R) != Int.ofNat (List.length S)) (.done (EV.v (Value.bool false)) [] 0) (.at (sS (R) (S) (Int.ofNat (List.length R)) ((0 : Int))))) := by kernel_rfl
theorem step_t (R S : List (List U)) (z i : Int) : RUN (stOf (sS R S z i)) = (bc (decide (i < z)) (bc (bc (bc (decide ((0 : Int) ≤ i)) (Nat.blt (Int.toNat i) (List.length R)) false) true false) (bc (bc (Nat.blt (Int.toNat i) (List.length R)) true false) (bc (bc (bc (decide ((0 : Int) ≤ i)) (Nat.blt (Int.toNat i) (List.length S)) false) true false) (bc (bc (Nat.blt (Int.toNat i) (List.length S)) true false) (bc (bc (decide (List.length (U.list (List.getD (List.getD R (Int.toNat i) []) (0 : Nat) (U.i (0 : Int)))) ≤ (100000 : Nat))) true false) (bc (!meB (U.list (List.getD (List.getD R (Int.toNat i) []) (0 : Nat) (U.i (0 : Int)))) (U.list (List.getD (List.getD S (Int.toNat i) []) (0 : Nat) (U.i (0 : Int))))) (.done (EV.v (Value.bool false)) [] 0) (.at (sS (R) (S) (z) (IntKind.wrap IntKind.i64 (i + (1 : Int)))))) .bad) .bad) .bad) .bad) .bad) (.done (EV.v (Value.bool true)) [] 0)) := by kernel_rfl
theorem loop {R S : List (List U)} (hl : R.length ≤ 100) (hb : S.length = R.length) (hR : ∀ j : Nat, (rM (R.getD j [])).length ≤ 100000) : ∀ (k i : Nat), i + k = R.length → EndZ 116 ctEq false (stOf (sS R S R.length i)) (bv (eqTB (R.drop i) (S.drop i))) [] 0
  | 0, i, h => by
    have hs := step_t R S R.length i
    rw [List.drop_eq_nil_of_le (show R.length ≤ i by omega), List.drop_eq_nil_of_le (show S.length ≤ i by omega)]
    simp (disch := omega) only [Nat.add_eq, eqSy_self, eqN_self, bc_same, List.length_cons, ofn, wrap_in, dt, df, bltD, bltN, ble_of, bleN, beqD, bc_t, bc_f, nn_ok, Nat.zero_add, to_nat, Int.zero_add, Int.sub_zero, Int.sub_self, Int.cast_ofNat_Int, Int.natCast_zero, Int.toNat_zero, List.take_zero, List.nil_append, List.length_append, List.length_nil] at hs
    exact .done hs
  | k + 1, i, h => by
    have hs := step_t R S R.length i
    have h2 : i < R.length := by omega
    have h3 : i < S.length := by omega
    have hr := hR i
    have e1 : R.getD i [] = R[i] := getD_at h2
    have e2 : S.getD i [] = S[i] := getD_at h3
    rw [e1] at hr
    rw [to_nat, e1, e2] at hs
    have f1 : U.list (List.getD R[i] 0 (U.i 0)) = rM R[i] := rfl
    have f2 : U.list (List.getD S[i] 0 (U.i 0)) = rM S[i] := rfl
    rw [f1, f2, dt hr] at hs
    simp (disch := omega) only [Nat.add_eq, eqSy_self, eqN_self, bc_same, List.length_cons, ofn, wrap_in, dt, df, bltD, bltN, ble_of, bleN, beqD, bc_t, bc_f, nn_ok, Nat.zero_add, to_nat, Int.zero_add, Int.sub_zero, Int.sub_self, Int.cast_ofNat_Int, Int.natCast_zero, Int.toNat_zero, List.take_zero, List.nil_append, List.length_append, List.length_nil] at hs
    rw [List.drop_eq_getElem_cons h2, List.drop_eq_getElem_cons h3]
    unfold eqTB
    cases g1 : meB (rM R[i]) (rM S[i]) <;> rw [g1] at hs
    · exact .done hs
    · exact .at ctEq_ok hs (loop hl hb hR k (i + 1) (by omega))
end PEqT
noncomputable def spEqT : ZCT := fun ax => match ax with
  | [.lst (.recs [.list [.int .i64, .bool], .list [.int .i64]] R), .lst (.recs [.list [.int .i64, .bool], .list [.int .i64]] S), .fn v_0 []] => some ⟨bc (Nat.beq v_0 (117)) (decide (R.length ≤ 100 ∧ hisS R)) false, bv (eqTB R S), [], 0⟩
  | _ => none
theorem spEqT_ok : ZCtOk Try.prog 116 spEqT := fun γ w us ax r hs hc hax hN hfz => by
  unfold spEqT at hs
  split at hs
  case h_2 => cases hs
  rename_i R S v_0
  obtain ⟨rfl⟩ := Option.some.inj hs
  have hc_0 : bc (Nat.beq v_0 (117)) (decide (R.length ≤ 100 ∧ hisS R)) false = true := hc
  obtain ⟨q_0, hc_1⟩ := bcT hc_0
  have p_0 := (Nat.eq_of_beq_eq_true q_0).symm
  subst p_0
  have hc := of_decide_eq_true hc_1
  exact EndZ.calls (by
    have h := PEqT.in_t R S
    by_cases h1 : S.length = R.length
    · have e : (Int.ofNat R.length != Int.ofNat S.length) = false := by simp [h1]
      rw [e, bc_f] at h
      exact .at ctEq_ok h (PEqT.loop hc.1 h1 hc.2 R.length 0 (by omega))
    · have e : (Int.ofNat R.length != Int.ofNat S.length) = true := by simp; omega
      rw [e, bc_t] at h
      show EndZ _ _ _ _ (bv (eqTB R S)) _ _
      rw [eqTB_len (fun e => h1 e.symm)]
      exact .done h) ctEq_ok (by kernel_rfl) hax hN hfz
noncomputable def ctPS : Tr ZCC := ((Tr.nil.put 114 (some (dC spPCk17))).put 82 (some (dC spThr))).put 116 (some (dC spEqT))
theorem ctPS_ok : ZCtsOk Try.prog ctPS := (((ZCtsOk.nil _).add rfl spPCk17_ok).add rfl spThr_ok).add rfl spEqT_ok
namespace PSam
noncomputable def RUN (s : ES) : ZF := RZ 47 ctPS (fun _ => false) [] [] false s
theorem in_t (n m : Int) (X P Y Q : List (List U)) : RUN (st0 47 [clE n X P, clE m Y Q]) = (bc (chk17 n X P != (0 : Int)) (bc (chk17 n X P != (0 : Int)) (.done (EV.tup [(EV.v (Value.bool false)), (EV.v (Value.int IntKind.i64 (chk17 n X P)))]) [] 0) (bc (bc (bc (decide ((0 : Int) ≤ n ∧ n ≤ (48 : Int) ∧ List.length X ≤ (20000 : Nat) ∧ thrs n X)) (bc (decide ((0 : Int) ≤ m ∧ m ≤ (48 : Int) ∧ List.length Y ≤ (20000 : Nat) ∧ thrs m Y)) (bc (bc (decide (List.length (rowsT (thF X (0 : Nat) (th0 (Int.toNat n)))) ≤ (100 : Nat) ∧ hisS (rowsT (thF X (0 : Nat) (th0 (Int.toNat n)))))) true false) true false) false) false) (bc (bc (bc (bc (decide (m = m)) (bc (eqSy (SyC.recs shX Y) (SyC.recs shX Y)) (bc (eqSy (SyC.recs shX Q) (SyC.recs shX Q)) true false) false) false) true false) true false) true false) false) (.done (EV.tup [(EV.v (Value.bool (eqTB (rowsT (thF X (0 : Nat) (th0 (Int.toNat n)))) (rowsT (thF Y (0 : Nat) (th0 (Int.toNat m))))))), (EV.v (Value.int IntKind.i64 (0)))]) [] 0) .bad)) (bc (chk17 m Y Q != (0 : Int)) (bc (chk17 m Y Q != (0 : Int)) (.done (EV.tup [(EV.v (Value.bool false)), (EV.v (Value.int IntKind.i64 (chk17 m Y Q)))]) [] 0) (bc (bc (bc (decide ((0 : Int) ≤ n ∧ n ≤ (48 : Int) ∧ List.length X ≤ (20000 : Nat) ∧ thrs n X)) (bc (decide ((0 : Int) ≤ m ∧ m ≤ (48 : Int) ∧ List.length Y ≤ (20000 : Nat) ∧ thrs m Y)) (bc (bc (decide (List.length (rowsT (thF X (0 : Nat) (th0 (Int.toNat n)))) ≤ (100 : Nat) ∧ hisS (rowsT (thF X (0 : Nat) (th0 (Int.toNat n)))))) true false) true false) false) false) (bc (bc (bc (bc (decide (m = m)) (bc (eqSy (SyC.recs shX Y) (SyC.recs shX Y)) (bc (eqSy (SyC.recs shX Q) (SyC.recs shX Q)) true false) false) false) true false) true false) true false) false) (.done (EV.tup [(EV.v (Value.bool (eqTB (rowsT (thF X (0 : Nat) (th0 (Int.toNat n)))) (rowsT (thF Y (0 : Nat) (th0 (Int.toNat m))))))), (EV.v (Value.int IntKind.i64 (0)))]) [] 0) .bad)) (bc (bc (bc (decide ((0 : Int) ≤ n ∧ n ≤ (48 : Int) ∧ List.length X ≤ (20000 : Nat) ∧ thrs n X)) (bc (decide ((0 : Int) ≤ m ∧ m ≤ (48 : Int) ∧ List.length Y ≤ (20000 : Nat) ∧ thrs m Y)) (bc (bc (decide (List.length (rowsT (thF X (0 : Nat) (th0 (Int.toNat n)))) ≤ (100 : Nat) ∧ hisS (rowsT (thF X (0 : Nat) (th0 (Int.toNat n)))))) true false) true false) false) false) (bc (bc (bc (bc (decide (m = m)) (bc (eqSy (SyC.recs shX Y) (SyC.recs shX Y)) (bc (eqSy (SyC.recs shX Q) (SyC.recs shX Q)) true false) false) false) true false) true false) true false) false) (.done (EV.tup [(EV.v (Value.bool (eqTB (rowsT (thF X (0 : Nat) (th0 (Int.toNat n)))) (rowsT (thF Y (0 : Nat) (th0 (Int.toNat m))))))), (EV.v (Value.int IntKind.i64 (0)))]) [] 0) .bad))) := by kernel_rfl
theorem ends (n m : Int) (X P Y Q : List (List U)) : EndZ 47 ctPS false (st0 47 [clE n X P, clE m Y Q]) (.tup [bv (samB n m X P Y Q), iv (botE n m X P Y Q)]) [] 0 := by
  have h := in_t n m X P Y Q
  unfold samB botE
  by_cases z1 : chk17 n X P = 0
  · have b1 : (chk17 n X P != 0) = false := by simp [z1]
    rw [b1, bc_f] at h
    rw [b1, bc_f]
    by_cases z2 : chk17 m Y Q = 0
    · have b3 : (chk17 m Y Q != 0) = false := by simp [z2]
      rw [b3, bc_f] at h
      rw [b3, bc_f, z2]
      obtain ⟨c1, c2, c3, c4, c5, _⟩ := chk17_ok z1
      obtain ⟨d1, d2, d3, d4, d5, _⟩ := chk17_ok z2
      obtain ⟨n, rfl⟩ := Int.eq_ofNat_of_zero_le (show 0 ≤ n by omega)
      obtain ⟨m, rfl⟩ := Int.eq_ofNat_of_zero_le (show 0 ≤ m by omega)
      rw [to_nat, to_nat, dt (show (0 : Int) ≤ m ∧ (m : Int) ≤ 48 ∧ Y.length ≤ 20000 ∧ thrs m Y from ⟨by omega, by omega, by omega, d5⟩), dt (show (0 : Int) ≤ n ∧ (n : Int) ≤ 48 ∧ X.length ≤ 20000 ∧ thrs n X from ⟨by omega, by omega, by omega, c5⟩), dt (show (rowsT (thF X 0 (th0 n))).length ≤ 100 ∧ hisS (rowsT (thF X 0 (th0 n))) from ⟨by rw [rowsH_len]; omega, hisS_rows c5 c3⟩)] at h
      simp (disch := omega) only [Nat.add_eq, eqSy_self, eqN_self, bc_same, List.length_cons, ofn, wrap_in, dt, df, bltD, bltN, ble_of, bleN, beqD, bc_t, bc_f, nn_ok, Nat.zero_add, to_nat, Int.zero_add, Int.sub_zero, Int.sub_self, Int.cast_ofNat_Int, Int.natCast_zero, Int.toNat_zero, List.take_zero, List.nil_append, List.length_append, List.length_nil] at h
      have hb : eqTB (rowsT (thF X 0 (th0 n))) (rowsT (thF Y 0 (th0 m))) = bc ((n : Int) != (m : Int)) false (sameF X Y 0 n) := by
        by_cases z3 : n = m
        · subst z3
          have b4 : ((n : Int) != (n : Int)) = false := by simp
          rw [b4, bc_f]
          exact eqTB_rows c5 d5 n 0 (by omega)
        · have b4 : ((n : Int) != (m : Int)) = true := by simp; omega
          rw [b4, bc_t]
          exact eqTB_len (by rw [rowsH_len, rowsH_len]; exact z3)
      rw [hb] at h
      exact .done h
    · have b3 : (chk17 m Y Q != 0) = true := by simp [z2]
      rw [b3, bc_t, bc_t] at h
      rw [b3, bc_t]
      exact .done h
  · have b1 : (chk17 n X P != 0) = true := by simp [z1]
    rw [b1, bc_t, bc_t] at h
    rw [b1, bc_t, b1, bc_t]
    exact .done h
end PSam
noncomputable def spPSam : ZCT := fun ax => match ax with
  | [.agg [.v (.int .i64 n), .lst (.recs [.int .i64, .int .i64, .int .i64, .int .i64] X), .lst (.recs [.int .i64, .int .i64, .int .i64, .int .i64] P)], .agg [.v (.int .i64 m), .lst (.recs [.int .i64, .int .i64, .int .i64, .int .i64] Y), .lst (.recs [.int .i64, .int .i64, .int .i64, .int .i64] Q)]] => some ⟨decide (True), .tup [bv (samB n m X P Y Q), iv (botE n m X P Y Q)], [], 0⟩
  | _ => none
theorem spPSam_ok : ZCtOk Try.prog 47 spPSam := fun γ w us ax r hs hc hax hN hfz => by
  unfold spPSam at hs
  split at hs
  case h_2 => cases hs
  rename_i n X P m Y Q
  obtain ⟨rfl⟩ := Option.some.inj hs
  have hc_0 : decide (True) = true := hc
  have hc := of_decide_eq_true hc_0
  exact EndZ.calls (PSam.ends n m X P Y Q) ctPS_ok (by kernel_rfl) hax hN hfz
namespace RSam
end RSam
namespace LMts
end LMts
end Go.Proofs.Ytonbfalbfdkieaa.Ev
namespace Go.Proofs.Ytonbfalbfdkieaa.Ev

noncomputable def rA (r : List U) : List Int := List.map (fun r => U.int (List.headD r (U.i 0))) (U.list (r.getD 1 (U.i 0)))
noncomputable def nxtF (D : List Int) (R : List (List U)) (t : Int) : Int := bc (decide (0 ≤ D.getD t.toNat 0)) (bc (decide (D.getD t.toNat 0 < (rA (R.getD t.toNat [])).length)) ((rA (R.getD t.toNat [])).getD (D.getD t.toNat 0).toNat 0) (-1)) (-1)

noncomputable def atF (t : Int) : List (List U) → Nat → List Int
  | [], _ => []
  | r :: q, i => (bc (decide (xO r = t)) [(i : Int)] []) ++ (bc (decide (xU r = t)) [(i : Int)] []) ++ atF t q (i + 1)
theorem atF_len (t : Int) : ∀ (l : List (List U)) (i : Nat), (atF t l i).length ≤ 2 * l.length
  | [], _ => Nat.le_refl _
  | r :: q, i => by
    have := atF_len t q (i + 1)
    unfold atF
    rw [List.length_append, List.length_append, List.length_cons]
    cases decide (xO r = t) <;> cases decide (xU r = t) <;> simp [bc] <;> omega
theorem atF_mem {t : Int} : ∀ (l : List (List U)) (i : Nat) (a : Int), a ∈ atF t l i → ∃ k : Nat, a = (i + k : Nat) ∧ k < l.length ∧ (xO (l.getD k []) = t ∨ xU (l.getD k []) = t)
  | [], _, a, h => by cases h
  | r :: q, i, a, h => by
    unfold atF at h
    rcases List.mem_append.1 h with h | h
    · rcases List.mem_append.1 h with h | h
      · by_cases e : xO r = t
        · rw [dt e, bc_t] at h
          exact ⟨0, by simpa using h, by simp, .inl e⟩
        · rw [df e, bc_f] at h; cases h
      · by_cases e : xU r = t
        · rw [dt e, bc_t] at h
          exact ⟨0, by simpa using h, by simp, .inr e⟩
        · rw [df e, bc_f] at h; cases h
    · obtain ⟨k, h1, h2, h3⟩ := atF_mem q (i + 1) a h
      exact ⟨k + 1, by rw [h1]; congr 1; omega, by simp; omega, by simpa using h3⟩
theorem thF_at (t : Nat) : ∀ (l : List (List U)) (i : Nat) (T : Hs), t < T.length → (∀ r, r ∈ l → 0 ≤ xO r ∧ xO r < T.length ∧ 0 ≤ xU r ∧ xU r < T.length) → (getT (thF l i T) t).2 = (getT T t).2 ++ atF t l i
  | [], _, T, _, _ => by unfold thF atF; simp
  | r :: q, i, T, ht, hr => by
    have h1 := hr r List.mem_cons_self
    unfold thF atF
    rw [thF_at t q (i + 1) (upX T r i) (by rw [upX_len]; exact ht) (fun r' h' => by rw [upX_len]; exact hr r' (List.mem_cons_of_mem _ h'))]
    unfold upX
    rw [getT_add (by rw [addT_len]; omega), getT_add (by omega), getT_add (by omega)]
    have e1 : decide (xO r = (t : Int)) = decide ((xO r).toNat = t) := by
      apply Bool.eq_iff_iff.2; simp only [decide_eq_true_eq]; omega
    have e2 : decide (xU r = (t : Int)) = decide ((xU r).toNat = t) := by
      apply Bool.eq_iff_iff.2; simp only [decide_eq_true_eq]; omega
    rw [e1, e2]
    by_cases a1 : (xO r).toNat = t <;> by_cases a2 : (xU r).toNat = t
    · have a3 : (xU r).toNat = (xO r).toNat := by omega
      simp [a1, a2, a3, bc]
    · have a3 : ¬ t = (xU r).toNat := fun e => a2 e.symm
      simp [a1, a2, a3, bc]
    · have a3 : ¬ t = (xO r).toNat := fun e => a1 e.symm
      have a4 : ¬ (xU r).toNat = (xO r).toNat := by omega
      simp [a1, a2, a3, a4, bc]
    · have a3 : ¬ t = (xO r).toNat := fun e => a1 e.symm
      have a4 : ¬ t = (xU r).toNat := fun e => a2 e.symm
      simp [a1, a2, a3, a4, bc]
theorem rowsA {n t : Nat} {X : List (List U)} (tx : thrs n X) (ht : t < n) : rA ((rowsT (thF X 0 (th0 n))).getD t []) = atF t X 0 := by
  have l0 : (th0 n).length = n := by unfold th0; simp
  have g0 : (getT (th0 n) t).2 = [] := by
    unfold getT th0
    rw [List.getD_eq_getElem?_getD, List.getElem?_replicate, if_pos ht]; rfl
  have h1 := thF_at t X 0 (th0 n) (by omega) (fun r hr => by rw [l0]; exact tx r hr)
  rw [g0, List.nil_append] at h1
  unfold rA
  rw [getA (by rw [thF_len, l0]; exact ht), mapA, h1]
noncomputable def comB (Y R : List (List U)) (D : List Int) (r : List U) : Bool := bc (decide (nxtF D R (xO r) < 0)) false (bc (nxtF D R (xO r) != nxtF D R (xU r)) false (bc (xO (Y.getD (nxtF D R (xO r)).toNat []) != xO r) false true))
noncomputable def incD (D : List Int) (j : Nat) : List Int := D.set j (D.getD j 0 + 1)
noncomputable def stepD (b : Bool) (D : List Int) (r : List U) : List Int := bc b (incD (incD D (xO r).toNat) (xU r).toNat) ((D.set (xO r).toNat (-1)).set (xU r).toNat (-1))
noncomputable def comF (Y R : List (List U)) : List (List U) → Nat → List Int → List Int × List Int
  | [], _, _ => ([], [])
  | r :: q, i, D => bc (comB Y R D r) ((i : Int) :: (comF Y R q (i + 1) (stepD (comB Y R D r) D r)).1, nxtF D R (xO r) :: (comF Y R q (i + 1) (stepD (comB Y R D r) D r)).2) (comF Y R q (i + 1) (stepD (comB Y R D r) D r))
theorem incD_len (D : List Int) (j : Nat) : (incD D j).length = D.length := by unfold incD; simp
theorem stepD_len (b : Bool) (D : List Int) (r : List U) : (stepD b D r).length = D.length := by
  unfold stepD
  cases b
  · rw [bc_f]; simp
  · rw [bc_t, incD_len, incD_len]

def Cnt (D : List Int) (b : Int) : Prop := ∀ j : Nat, -1 ≤ D.getD j 0 ∧ D.getD j 0 ≤ b
theorem Cnt.set {D : List Int} {b c x : Int} {j : Nat} (h : Cnt D b) (h1 : -1 ≤ x) (h2 : x ≤ c) (h3 : b ≤ c) : Cnt (D.set j x) c := fun k => by
  rw [List.getD_eq_getElem?_getD, List.getElem?_set]
  have := h k
  split
  · split
    · simp; omega
    · simp; have := h D.length; rw [List.getD_eq_getElem?_getD, List.getElem?_eq_none (Nat.le_refl _)] at this; simp at this; omega
  · rw [← List.getD_eq_getElem?_getD]; omega
theorem Cnt.inc {D : List Int} {b : Int} {j : Nat} (h : Cnt D b) (hb : 0 ≤ b) : Cnt (incD D j) (b + 1) := by
  have := h j
  exact h.set (by omega) (by omega) (by omega)
theorem Cnt.step {D : List Int} {b : Int} {q : Bool} {r : List U} (h : Cnt D b) (hb : 0 ≤ b) : Cnt (stepD q D r) (b + 2) := by
  unfold stepD
  cases q
  · rw [bc_f]
    exact (h.set (c := b) (by omega) (by omega) (by omega)).set (by omega) (by omega) (by omega)
  · rw [bc_t]
    have := (h.inc (j := (xO r).toNat) hb).inc (j := (xU r).toNat) (by omega)
    rw [show b + 2 = b + 1 + 1 by omega]
    exact this
theorem nxtF_at {n t : Nat} {D : List Int} {Y : List (List U)} (ty : thrs n Y) (ht : t < n) : nxtF D (rowsT (thF Y 0 (th0 n))) t = bc (decide (0 ≤ D.getD t 0)) (bc (decide (D.getD t 0 < (atF t Y 0).length)) ((atF t Y 0).getD (D.getD t 0).toNat 0) (-1)) (-1) := by
  unfold nxtF
  rw [show ((t : Int)).toNat = t from rfl, rowsA ty ht]
theorem nxtF_lt {n t : Nat} {D : List Int} {Y : List (List U)} (ty : thrs n Y) (ht : t < n) : nxtF D (rowsT (thF Y 0 (th0 n))) t < 0 ∨ ∃ k : Nat, nxtF D (rowsT (thF Y 0 (th0 n))) t = k ∧ k < Y.length := by
  rw [nxtF_at ty ht]
  by_cases h1 : 0 ≤ D.getD t 0
  · rw [dt h1, bc_t]
    by_cases h2 : D.getD t 0 < (atF t Y 0).length
    · rw [dt h2, bc_t]
      have h3 : (D.getD t 0).toNat < (atF t Y 0).length := by omega
      rw [getD_at h3]
      obtain ⟨k, e1, e2, _⟩ := atF_mem Y 0 _ (List.getElem_mem h3)
      exact .inr ⟨k, by rw [e1]; congr 1; omega, e2⟩
    · rw [df h2, bc_f]; exact .inl (by omega)
  · rw [df h1, bc_f]; exact .inl (by omega)
noncomputable def coP (n m : Int) (X P Y Q : List (List U)) : List Int × List Int := bc (fiE n m X P Y Q != 0) ([], []) (comF Y (rowsT (thF Y 0 (th0 n.toNat))) X 0 (zerosL n.toNat))
end Go.Proofs.Ytonbfalbfdkieaa.Ev
namespace Go.Proofs.Ytonbfalbfdkieaa.Ev
open Go.Proofs
namespace PNxt
noncomputable def K0 (D : List Int) (R : List (List U)) : List (Nat × EK) := [(0, .cells 34 [.slO 2 1 D.length true] true), (1, .cells 99 [.lst (.recs [.list [.int .i64, .bool], .list [.int .i64]] R)] true), (2, .seq 3 (.ints .i64 D) true)]
noncomputable def RM (s : ES) : ZF := RMs 3 119 .nil [] [] [] s
theorem in_t (t : Int) (D : List Int) (R : List (List U)) : RM (st0m 119 [iv t, .ptr 0 0, .ptr 1 0] (K0 D R) 3) = (bc (bc (bc (decide ((0 : Int) ≤ t)) (Nat.blt (Int.toNat t) (List.length D)) false) true false) (bc (bc (Nat.blt (Int.toNat t) (List.length D)) true false) (bc (decide ((0 : Int) ≤ List.getD D (Int.toNat t) (0 : Int))) (bc (bc (bc (decide ((0 : Int) ≤ t)) (Nat.blt (Int.toNat t) (List.length R)) false) true false) (bc (bc (Nat.blt (Int.toNat t) (List.length R)) true false) (bc (decide (List.getD D (Int.toNat t) (0 : Int) < Int.ofNat (List.length (List.map (fun r => U.int (List.headD r (U.i (0 : Int)))) (U.list (List.getD (List.getD R (Int.toNat t) []) (Nat.add (0 : Nat) (1 : Nat)) (U.i (0 : Int)))))))) (bc (bc (bc (decide ((0 : Int) ≤ t)) (Nat.blt (Int.toNat t) (List.length R)) false) true false) (bc (bc (Nat.blt (Int.toNat t) (List.length R)) true false) (bc (bc (bc (decide ((0 : Int) ≤ List.getD D (Int.toNat t) (0 : Int))) (Nat.blt (Int.toNat (List.getD D (Int.toNat t) (0 : Int))) (List.length (List.map (fun r => U.int (List.headD r (U.i (0 : Int)))) (U.list (List.getD (List.getD R (Int.toNat t) []) (Nat.add (0 : Nat) (1 : Nat)) (U.i (0 : Int))))))) false) true false) (bc (bc (Nat.blt (Int.toNat (List.getD D (Int.toNat t) (0 : Int))) (List.length (List.map (fun r => U.int (List.headD r (U.i (0 : Int)))) (U.list (List.getD (List.getD R (Int.toNat t) []) (Nat.add (0 : Nat) (1 : Nat)) (U.i (0 : Int))))))) true false) (.done (EV.v (Value.int IntKind.i64 (List.getD (List.map (fun r => U.int (List.headD r (U.i (0 : Int)))) (U.list (List.getD (List.getD R (Int.toNat t) []) (Nat.add (0 : Nat) (1 : Nat)) (U.i (0 : Int))))) (Int.toNat (List.getD D (Int.toNat t) (0 : Int))) (0 : Int)))) [(0, (EK.cells 34 [(EV.slO 2 1 (List.length D) true)] true)), (1, (EK.cells 99 [(EV.lst (SyC.recs [(Sh.list [(Sh.int IntKind.i64), Sh.bool]), (Sh.list [(Sh.int IntKind.i64)])] (R)))] true)), (2, (EK.seq 3 (SyC.ints IntKind.i64 (D)) true))] 3) .bad) .bad) .bad) .bad) (.done (EV.v (Value.int IntKind.i64 (-1))) [(0, (EK.cells 34 [(EV.slO 2 1 (List.length D) true)] true)), (1, (EK.cells 99 [(EV.lst (SyC.recs [(Sh.list [(Sh.int IntKind.i64), Sh.bool]), (Sh.list [(Sh.int IntKind.i64)])] (R)))] true)), (2, (EK.seq 3 (SyC.ints IntKind.i64 (D)) true))] 3)) .bad) .bad) (.done (EV.v (Value.int IntKind.i64 (-1))) [(0, (EK.cells 34 [(EV.slO 2 1 (List.length D) true)] true)), (1, (EK.cells 99 [(EV.lst (SyC.recs [(Sh.list [(Sh.int IntKind.i64), Sh.bool]), (Sh.list [(Sh.int IntKind.i64)])] (R)))] true)), (2, (EK.seq 3 (SyC.ints IntKind.i64 (D)) true))] 3)) .bad) .bad) := by kernel_rfl
theorem ends {t : Int} {D : List Int} {R : List (List U)} (h0 : 0 ≤ t) (hD : t < D.length) (hR : t < R.length) (hL : (rA (R.getD t.toNat [])).length ≤ 100000) : EndM 3 119 .nil (st0m 119 [iv t, .ptr 0 0, .ptr 1 0] (K0 D R) 3) (iv (nxtF D R t)) (K0 D R) 3 := by
  obtain ⟨t, rfl⟩ := Int.eq_ofNat_of_zero_le h0
  have h := in_t t D R
  have e1 : List.map (fun r => U.int (List.headD r (U.i 0))) (U.list (List.getD (List.getD R t []) (Nat.add 0 1) (U.i 0))) = rA (R.getD t []) := rfl
  rw [to_nat, e1] at h
  unfold nxtF
  rw [to_nat]
  generalize rA (R.getD t []) = q at *
  generalize hd : D.getD t 0 = d at *
  by_cases g1 : 0 ≤ d
  · obtain ⟨d, rfl⟩ := Int.eq_ofNat_of_zero_le g1
    by_cases g2 : d < q.length
    · simp (disch := omega) only [Nat.add_eq, eqSy_self, eqN_self, bc_same, List.length_cons, ofn, wrap_in, dt, df, bltD, bltN, ble_of, bleN, beqD, bc_t, bc_f, nn_ok, Nat.zero_add, to_nat, Int.zero_add, Int.sub_zero, Int.sub_self, Int.cast_ofNat_Int, Int.natCast_zero, Int.toNat_zero, List.take_zero, List.nil_append, List.length_append, List.length_nil] at h
      rw [dt g1, bc_t, dt (show (d : Int) < (q.length : Int) by omega), bc_t, to_nat]
      exact .done h
    · simp (disch := omega) only [Nat.add_eq, eqSy_self, eqN_self, bc_same, List.length_cons, ofn, wrap_in, dt, df, bltD, bltN, ble_of, bleN, beqD, bc_t, bc_f, nn_ok, Nat.zero_add, to_nat, Int.zero_add, Int.sub_zero, Int.sub_self, Int.cast_ofNat_Int, Int.natCast_zero, Int.toNat_zero, List.take_zero, List.nil_append, List.length_append, List.length_nil] at h
      rw [dt g1, bc_t, df (show ¬ (d : Int) < (q.length : Int) by omega), bc_f]
      exact .done h
  · simp (disch := omega) only [Nat.add_eq, eqSy_self, eqN_self, bc_same, List.length_cons, ofn, wrap_in, dt, df, bltD, bltN, ble_of, bleN, beqD, bc_t, bc_f, nn_ok, Nat.zero_add, to_nat, Int.zero_add, Int.sub_zero, Int.sub_self, Int.cast_ofNat_Int, Int.natCast_zero, Int.toNat_zero, List.take_zero, List.nil_append, List.length_append, List.length_nil] at h
    rw [df g1, bc_f]
    exact .done h
end PNxt
noncomputable def spNxt : ZMT := fun ax K0 m => match ax, K0 with
  | [.v (.int .i64 t), .ptr 0 0, .ptr 1 0], [(0, .cells 34 [.slO 2 1 v_0 v_1] v_2), (1, .cells 99 [.lst (.recs [.list [.int .i64, .bool], .list [.int .i64]] R)] v_3), (2, .seq 3 (.ints .i64 D) v_4)] => bc (Nat.beq m (3)) (some ⟨bc (Nat.beq v_0 (D.length)) (bc (eqN v_1 (true)) (bc (eqN v_2 (true)) (bc (eqN v_3 (true)) (bc (eqN v_4 (true)) (decide (0 ≤ t ∧ t < D.length ∧ t < R.length ∧ (rA (R.getD t.toNat [])).length ≤ 100000)) false) false) false) false) false, .v (.int .i64 (nxtF D R t)), PNxt.K0 D R, 3, 3⟩) none
  | _, _ => none
theorem spNxt_ok : ZMtOk Try.prog 119 spNxt := fun γ w0 w us ax K0 m r hs hc hres hax hH => by
  unfold spNxt at hs
  split at hs
  case h_2 => cases hs
  rename_i t v_0 v_1 v_2 R v_3 D v_4
  obtain ⟨hm, rfl⟩ := noN hs
  have hm := Nat.eq_of_beq_eq_true hm
  subst hm
  have hc_0 : bc (Nat.beq v_0 (D.length)) (bc (eqN v_1 (true)) (bc (eqN v_2 (true)) (bc (eqN v_3 (true)) (bc (eqN v_4 (true)) (decide (0 ≤ t ∧ t < D.length ∧ t < R.length ∧ (rA (R.getD t.toNat [])).length ≤ 100000)) false) false) false) false) false = true := hc
  obtain ⟨q_0, hc_1⟩ := bcT hc_0
  have p_0 := (Nat.eq_of_beq_eq_true q_0).symm
  subst p_0
  obtain ⟨q_1, hc_2⟩ := bcT hc_1
  have p_1 := (eqN_ok q_1).symm
  subst p_1
  obtain ⟨q_2, hc_3⟩ := bcT hc_2
  have p_2 := (eqN_ok q_2).symm
  subst p_2
  obtain ⟨q_3, hc_4⟩ := bcT hc_3
  have p_3 := (eqN_ok q_3).symm
  subst p_3
  obtain ⟨q_4, hc_5⟩ := bcT hc_4
  have p_4 := (eqN_ok q_4).symm
  subst p_4
  have hc := of_decide_eq_true hc_5
  exact EndM.calls (PNxt.ends hc.1 hc.2.1 hc.2.2.1 hc.2.2.2) (.nil _) (by kernel_rfl) hres hax hH
noncomputable def ctPC : Tr ZCC := ctPF.put 119 (some (mC spNxt))
theorem ctPC_ok : ZCtsOk Try.prog ctPC := ctPF_ok.addM rfl spNxt_ok
namespace PCom
noncomputable def RUN (s : ES) : ZF := RZ 48 ctPC (atS 0 48 8) [] [[(3,none),(4,some (1, 3, .ints .i64 [])),(5,some (1, 3, .ints .i64 [])),(8,none),(9,none),(10,none),(27,none),(28,none),(29,none)]] false s

noncomputable def sC (m : Int) (X Y Q R : List (List U)) (D x y : List Int) (d : Nat) (nx ny : Bool) (z i : Int) : NS := ⟨[⟨48, 92, [(3, (EV.ptr 0 0)), (4, EV.slO 1 1 x.length nx), (5, EV.slO 2 1 y.length ny), (8, (EV.ptr 3 0)), (9, (EV.ptr 4 0)), (10, (EV.fn 119 [(EV.ptr 4 0), (EV.ptr 3 0)])), (27, (EV.lst (SyC.recs [(Sh.int IntKind.i64), (Sh.int IntKind.i64), (Sh.int IntKind.i64), (Sh.int IntKind.i64)] (X)))), (28, iv z), (29, iv i)], [.it (.code (nav [1, 1, 1, 1, 1, 0, 1, 0, 0] (bodyOf Try.f48))), .it (.inLoop (nav [1, 1, 1, 1, 1, 0, 1, 0, 0] (bodyOf Try.f48))), .it (.inBlock 0), .it (.code (nav [1, 1, 1, 1, 1, 1] (bodyOf Try.f48)))], [], Option.none⟩], [(0, (EK.cells 25 [(EV.v (Value.int IntKind.i64 (m))), (EV.lst (SyC.recs [(Sh.int IntKind.i64), (Sh.int IntKind.i64), (Sh.int IntKind.i64), (Sh.int IntKind.i64)] (Y))), (EV.lst (SyC.recs [(Sh.int IntKind.i64), (Sh.int IntKind.i64), (Sh.int IntKind.i64), (Sh.int IntKind.i64)] (Q)))] true)), (1, EK.seq 3 (.ints .i64 x) nx), (2, EK.seq 3 (.ints .i64 y) ny), (3, EK.cells 99 [.lst (.recs shT R)] true), (4, EK.cells 34 [EV.slO 5 1 d true] true), (5, EK.seq 3 (.ints .i64 D) true)], 6⟩
theorem in_t (n m : Int) (X P Y Q : List (List U)) : RUN (st0 48 [clE n X P, clE m Y Q]) = (bc (chk17 n X P != (0 : Int)) (bc (chk17 n X P != (0 : Int)) (.done (EV.tup [(EV.v (Value.slice Option.none 0 0)), (EV.v (Value.slice Option.none 0 0)), (EV.v (Value.int IntKind.i64 (chk17 n X P)))]) [] 0) (bc (decide ((0 : Int) ≤ m ∧ m ≤ (48 : Int) ∧ List.length Y ≤ (20000 : Nat) ∧ thrs m Y)) (bc (bc (decide ((0 : Int) ≤ n)) (bc (decide (n ≤ n)) (decide (n ≤ (65536 : Int))) false) false) (.at (sC (m) (X) (Y) (Q) (rowsT (thF Y (0 : Nat) (th0 (Int.toNat m)))) (zerosL (Int.toNat n)) ([]) ([]) (List.length (zerosL (Int.toNat n))) (false) (false) (Int.ofNat (List.length X)) ((0 : Int)))) .bad) .bad)) (bc (chk17 m Y Q != (0 : Int)) (bc (chk17 m Y Q != (0 : Int)) (.done (EV.tup [(EV.v (Value.slice Option.none 0 0)), (EV.v (Value.slice Option.none 0 0)), (EV.v (Value.int IntKind.i64 (chk17 m Y Q)))]) [] 0) (bc (decide ((0 : Int) ≤ m ∧ m ≤ (48 : Int) ∧ List.length Y ≤ (20000 : Nat) ∧ thrs m Y)) (bc (bc (decide ((0 : Int) ≤ n)) (bc (decide (n ≤ n)) (decide (n ≤ (65536 : Int))) false) false) (.at (sC (m) (X) (Y) (Q) (rowsT (thF Y (0 : Nat) (th0 (Int.toNat m)))) (zerosL (Int.toNat n)) ([]) ([]) (List.length (zerosL (Int.toNat n))) (false) (false) (Int.ofNat (List.length X)) ((0 : Int)))) .bad) .bad)) (bc (n != m) (.done (EV.tup [(EV.v (Value.slice Option.none 0 0)), (EV.v (Value.slice Option.none 0 0)), (EV.v (Value.int IntKind.i64 (2)))]) [] 0) (bc (decide ((0 : Int) ≤ m ∧ m ≤ (48 : Int) ∧ List.length Y ≤ (20000 : Nat) ∧ thrs m Y)) (bc (bc (decide ((0 : Int) ≤ n)) (bc (decide (n ≤ n)) (decide (n ≤ (65536 : Int))) false) false) (.at (sC (m) (X) (Y) (Q) (rowsT (thF Y (0 : Nat) (th0 (Int.toNat m)))) (zerosL (Int.toNat n)) ([]) ([]) (List.length (zerosL (Int.toNat n))) (false) (false) (Int.ofNat (List.length X)) ((0 : Int)))) .bad) .bad)))) := by kernel_rfl
theorem step_t (m : Int) (X Y Q R : List (List U)) (D x y : List Int) (d : Nat) (nx ny : Bool) (z i : Int) : RUN (stOf (sC m X Y Q R D x y d nx ny z i)) = (bc (decide (i < z)) (bc (bc (bc (decide ((0 : Int) ≤ i)) (Nat.blt (Int.toNat i) (List.length X)) false) true false) (bc (bc (Nat.blt (Int.toNat i) (List.length X)) true false) (bc (bc (bc (Nat.beq d (List.length D)) (decide ((0 : Int) ≤ U.int (List.getD (List.getD X (Int.toNat i) []) (Nat.succ (Nat.succ (0 : Nat))) (U.i (0 : Int))) ∧ U.int (List.getD (List.getD X (Int.toNat i) []) (Nat.succ (Nat.succ (0 : Nat))) (U.i (0 : Int))) < (Nat.cast (List.length D) : Int) ∧ U.int (List.getD (List.getD X (Int.toNat i) []) (Nat.succ (Nat.succ (0 : Nat))) (U.i (0 : Int))) < (Nat.cast (List.length R) : Int) ∧ List.length (rA (List.getD R (Int.toNat (U.int (List.getD (List.getD X (Int.toNat i) []) (Nat.succ (Nat.succ (0 : Nat))) (U.i (0 : Int))))) [])) ≤ (100000 : Nat))) false) true false) (bc (decide (nxtF D R (U.int (List.getD (List.getD X (Int.toNat i) []) (Nat.succ (Nat.succ (0 : Nat))) (U.i (0 : Int)))) < (0 : Int))) (bc (bc (bc (eqB (decide (nxtF D R (U.int (List.getD (List.getD X (Int.toNat i) []) (Nat.succ (Nat.succ (0 : Nat))) (U.i (0 : Int)))) < (0 : Int))) true) true false) true false) (bc (bc (bc (bc (bc (decide ((0 : Int) ≤ U.int (List.getD (List.getD X (Int.toNat i) []) (Nat.succ (Nat.succ (0 : Nat))) (U.i (0 : Int))))) (Nat.blt (Int.toNat (U.int (List.getD (List.getD X (Int.toNat i) []) (Nat.succ (Nat.succ (0 : Nat))) (U.i (0 : Int))))) (List.length D)) false) true false) (bc (Nat.blt (Int.toNat (U.int (List.getD (List.getD X (Int.toNat i) []) (Nat.succ (Nat.succ (0 : Nat))) (U.i (0 : Int))))) (List.length D)) (bc (bc (bc (decide ((0 : Int) ≤ U.int (List.getD (List.getD X (Int.toNat i) []) (Nat.succ (Nat.succ (Nat.succ (0 : Nat)))) (U.i (0 : Int))))) (Nat.blt (Int.toNat (U.int (List.getD (List.getD X (Int.toNat i) []) (Nat.succ (Nat.succ (Nat.succ (0 : Nat)))) (U.i (0 : Int))))) (List.length D)) false) true false) (bc (Nat.blt (Int.toNat (U.int (List.getD (List.getD X (Int.toNat i) []) (Nat.succ (Nat.succ (Nat.succ (0 : Nat)))) (U.i (0 : Int))))) (List.length (List.set D (Int.toNat (U.int (List.getD (List.getD X (Int.toNat i) []) (Nat.succ (Nat.succ (0 : Nat))) (U.i (0 : Int))))) (-1 : Int)))) true false) false) false) false) (bc (bc (bc (bc (Nat.beq (List.length D) (List.length D)) (eqN true true) false) true false) (bc (bc (decide (U.int (List.getD (List.getD X (Int.toNat i) []) (Nat.succ (Nat.succ (Nat.succ (0 : Nat)))) (U.i (0 : Int))) = U.int (List.getD (List.getD X (Int.toNat i) []) (Nat.succ (Nat.succ (Nat.succ (0 : Nat)))) (U.i (0 : Int))))) true false) true false) false) true false) false) (.at (sC (m) (X) (Y) (Q) (R) (List.set (List.set D (Int.toNat (U.int (List.getD (List.getD X (Int.toNat i) []) (Nat.succ (Nat.succ (0 : Nat))) (U.i (0 : Int))))) (-1 : Int)) (Int.toNat (U.int (List.getD (List.getD X (Int.toNat i) []) (Nat.succ (Nat.succ (Nat.succ (0 : Nat)))) (U.i (0 : Int))))) (-1 : Int)) (x) (y) (List.length D) (nx) (ny) (z) (IntKind.wrap IntKind.i64 (i + (1 : Int))))) .bad) .bad) (bc (nxtF D R (U.int (List.getD (List.getD X (Int.toNat i) []) (Nat.succ (Nat.succ (0 : Nat))) (U.i (0 : Int)))) != nxtF D R (U.int (List.getD (List.getD X (Int.toNat i) []) (Nat.succ (Nat.succ (Nat.succ (0 : Nat)))) (U.i (0 : Int))))) (bc (bc (bc (eqB (decide (nxtF D R (U.int (List.getD (List.getD X (Int.toNat i) []) (Nat.succ (Nat.succ (0 : Nat))) (U.i (0 : Int)))) < (0 : Int))) false) (bc (bc (bc (Nat.beq (List.length D) (List.length D)) (decide ((0 : Int) ≤ U.int (List.getD (List.getD X (Int.toNat i) []) (Nat.succ (Nat.succ (Nat.succ (0 : Nat)))) (U.i (0 : Int))) ∧ U.int (List.getD (List.getD X (Int.toNat i) []) (Nat.succ (Nat.succ (Nat.succ (0 : Nat)))) (U.i (0 : Int))) < (Nat.cast (List.length D) : Int) ∧ U.int (List.getD (List.getD X (Int.toNat i) []) (Nat.succ (Nat.succ (Nat.succ (0 : Nat)))) (U.i (0 : Int))) < (Nat.cast (List.length R) : Int) ∧ List.length (rA (List.getD R (Int.toNat (U.int (List.getD (List.getD X (Int.toNat i) []) (Nat.succ (Nat.succ (Nat.succ (0 : Nat)))) (U.i (0 : Int))))) [])) ≤ (100000 : Nat))) false) true false) (bc (eqB (nxtF D R (U.int (List.getD (List.getD X (Int.toNat i) []) (Nat.succ (Nat.succ (0 : Nat))) (U.i (0 : Int)))) != nxtF D R (U.int (List.getD (List.getD X (Int.toNat i) []) (Nat.succ (Nat.succ (Nat.succ (0 : Nat)))) (U.i (0 : Int))))) true) true false) false) false) true false) (bc (bc (bc (bc (bc (decide ((0 : Int) ≤ U.int (List.getD (List.getD X (Int.toNat i) []) (Nat.succ (Nat.succ (0 : Nat))) (U.i (0 : Int))))) (Nat.blt (Int.toNat (U.int (List.getD (List.getD X (Int.toNat i) []) (Nat.succ (Nat.succ (0 : Nat))) (U.i (0 : Int))))) (List.length D)) false) true false) (bc (Nat.blt (Int.toNat (U.int (List.getD (List.getD X (Int.toNat i) []) (Nat.succ (Nat.succ (0 : Nat))) (U.i (0 : Int))))) (List.length D)) (bc (bc (bc (decide ((0 : Int) ≤ U.int (List.getD (List.getD X (Int.toNat i) []) (Nat.succ (Nat.succ (Nat.succ (0 : Nat)))) (U.i (0 : Int))))) (Nat.blt (Int.toNat (U.int (List.getD (List.getD X (Int.toNat i) []) (Nat.succ (Nat.succ (Nat.succ (0 : Nat)))) (U.i (0 : Int))))) (List.length D)) false) true false) (bc (Nat.blt (Int.toNat (U.int (List.getD (List.getD X (Int.toNat i) []) (Nat.succ (Nat.succ (Nat.succ (0 : Nat)))) (U.i (0 : Int))))) (List.length (List.set D (Int.toNat (U.int (List.getD (List.getD X (Int.toNat i) []) (Nat.succ (Nat.succ (0 : Nat))) (U.i (0 : Int))))) (-1 : Int)))) true false) false) false) false) (bc (bc (bc (bc (Nat.beq (List.length D) (List.length D)) (eqN true true) false) true false) (bc (bc (decide (U.int (List.getD (List.getD X (Int.toNat i) []) (Nat.succ (Nat.succ (Nat.succ (0 : Nat)))) (U.i (0 : Int))) = U.int (List.getD (List.getD X (Int.toNat i) []) (Nat.succ (Nat.succ (Nat.succ (0 : Nat)))) (U.i (0 : Int))))) true false) true false) false) true false) false) (.at (sC (m) (X) (Y) (Q) (R) (List.set (List.set D (Int.toNat (U.int (List.getD (List.getD X (Int.toNat i) []) (Nat.succ (Nat.succ (0 : Nat))) (U.i (0 : Int))))) (-1 : Int)) (Int.toNat (U.int (List.getD (List.getD X (Int.toNat i) []) (Nat.succ (Nat.succ (Nat.succ (0 : Nat)))) (U.i (0 : Int))))) (-1 : Int)) (x) (y) (List.length D) (nx) (ny) (z) (IntKind.wrap IntKind.i64 (i + (1 : Int))))) .bad) .bad) (bc (bc (bc (eqB (decide (nxtF D R (U.int (List.getD (List.getD X (Int.toNat i) []) (Nat.succ (Nat.succ (0 : Nat))) (U.i (0 : Int)))) < (0 : Int))) false) (bc (bc (bc (Nat.beq (List.length D) (List.length D)) (decide ((0 : Int) ≤ U.int (List.getD (List.getD X (Int.toNat i) []) (Nat.succ (Nat.succ (Nat.succ (0 : Nat)))) (U.i (0 : Int))) ∧ U.int (List.getD (List.getD X (Int.toNat i) []) (Nat.succ (Nat.succ (Nat.succ (0 : Nat)))) (U.i (0 : Int))) < (Nat.cast (List.length D) : Int) ∧ U.int (List.getD (List.getD X (Int.toNat i) []) (Nat.succ (Nat.succ (Nat.succ (0 : Nat)))) (U.i (0 : Int))) < (Nat.cast (List.length R) : Int) ∧ List.length (rA (List.getD R (Int.toNat (U.int (List.getD (List.getD X (Int.toNat i) []) (Nat.succ (Nat.succ (Nat.succ (0 : Nat)))) (U.i (0 : Int))))) [])) ≤ (100000 : Nat))) false) true false) (bc (eqB (nxtF D R (U.int (List.getD (List.getD X (Int.toNat i) []) (Nat.succ (Nat.succ (0 : Nat))) (U.i (0 : Int)))) != nxtF D R (U.int (List.getD (List.getD X (Int.toNat i) []) (Nat.succ (Nat.succ (Nat.succ (0 : Nat)))) (U.i (0 : Int))))) false) (bc (bc (bc (decide ((0 : Int) ≤ nxtF D R (U.int (List.getD (List.getD X (Int.toNat i) []) (Nat.succ (Nat.succ (0 : Nat))) (U.i (0 : Int)))))) (Nat.blt (Int.toNat (nxtF D R (U.int (List.getD (List.getD X (Int.toNat i) []) (Nat.succ (Nat.succ (0 : Nat))) (U.i (0 : Int)))))) (List.length Y)) false) true false) (bc (bc (Nat.blt (Int.toNat (nxtF D R (U.int (List.getD (List.getD X (Int.toNat i) []) (Nat.succ (Nat.succ (0 : Nat))) (U.i (0 : Int)))))) (List.length Y)) true false) true false) false) false) false) false) true false) (bc (U.int (List.getD (List.getD Y (Int.toNat (nxtF D R (U.int (List.getD (List.getD X (Int.toNat i) []) (Nat.succ (Nat.succ (0 : Nat))) (U.i (0 : Int)))))) []) (Nat.add (0 : Nat) (2 : Nat)) (U.i (0 : Int))) != U.int (List.getD (List.getD X (Int.toNat i) []) (Nat.succ (Nat.succ (0 : Nat))) (U.i (0 : Int)))) (bc (bc (bc (bc (bc (decide ((0 : Int) ≤ U.int (List.getD (List.getD X (Int.toNat i) []) (Nat.succ (Nat.succ (0 : Nat))) (U.i (0 : Int))))) (Nat.blt (Int.toNat (U.int (List.getD (List.getD X (Int.toNat i) []) (Nat.succ (Nat.succ (0 : Nat))) (U.i (0 : Int))))) (List.length D)) false) true false) (bc (Nat.blt (Int.toNat (U.int (List.getD (List.getD X (Int.toNat i) []) (Nat.succ (Nat.succ (0 : Nat))) (U.i (0 : Int))))) (List.length D)) (bc (bc (bc (decide ((0 : Int) ≤ U.int (List.getD (List.getD X (Int.toNat i) []) (Nat.succ (Nat.succ (Nat.succ (0 : Nat)))) (U.i (0 : Int))))) (Nat.blt (Int.toNat (U.int (List.getD (List.getD X (Int.toNat i) []) (Nat.succ (Nat.succ (Nat.succ (0 : Nat)))) (U.i (0 : Int))))) (List.length D)) false) true false) (bc (Nat.blt (Int.toNat (U.int (List.getD (List.getD X (Int.toNat i) []) (Nat.succ (Nat.succ (Nat.succ (0 : Nat)))) (U.i (0 : Int))))) (List.length (List.set D (Int.toNat (U.int (List.getD (List.getD X (Int.toNat i) []) (Nat.succ (Nat.succ (0 : Nat))) (U.i (0 : Int))))) (-1 : Int)))) true false) false) false) false) (bc (bc (bc (bc (Nat.beq (List.length D) (List.length D)) (eqN true true) false) true false) (bc (bc (decide (U.int (List.getD (List.getD X (Int.toNat i) []) (Nat.succ (Nat.succ (Nat.succ (0 : Nat)))) (U.i (0 : Int))) = U.int (List.getD (List.getD X (Int.toNat i) []) (Nat.succ (Nat.succ (Nat.succ (0 : Nat)))) (U.i (0 : Int))))) true false) true false) false) true false) false) (.at (sC (m) (X) (Y) (Q) (R) (List.set (List.set D (Int.toNat (U.int (List.getD (List.getD X (Int.toNat i) []) (Nat.succ (Nat.succ (0 : Nat))) (U.i (0 : Int))))) (-1 : Int)) (Int.toNat (U.int (List.getD (List.getD X (Int.toNat i) []) (Nat.succ (Nat.succ (Nat.succ (0 : Nat)))) (U.i (0 : Int))))) (-1 : Int)) (x) (y) (List.length D) (nx) (ny) (z) (IntKind.wrap IntKind.i64 (i + (1 : Int))))) .bad) (bc (bc (bc (decide ((0 : Int) ≤ U.int (List.getD (List.getD X (Int.toNat i) []) (Nat.succ (Nat.succ (0 : Nat))) (U.i (0 : Int))))) (Nat.blt (Int.toNat (U.int (List.getD (List.getD X (Int.toNat i) []) (Nat.succ (Nat.succ (0 : Nat))) (U.i (0 : Int))))) (List.length D)) false) true false) (bc (bc (Nat.blt (Int.toNat (U.int (List.getD (List.getD X (Int.toNat i) []) (Nat.succ (Nat.succ (0 : Nat))) (U.i (0 : Int))))) (List.length D)) true false) (bc (bc (bc (decide ((0 : Int) ≤ U.int (List.getD (List.getD X (Int.toNat i) []) (Nat.succ (Nat.succ (0 : Nat))) (U.i (0 : Int))))) (Nat.blt (Int.toNat (U.int (List.getD (List.getD X (Int.toNat i) []) (Nat.succ (Nat.succ (0 : Nat))) (U.i (0 : Int))))) (List.length D)) false) true false) (bc (Nat.blt (Int.toNat (U.int (List.getD (List.getD X (Int.toNat i) []) (Nat.succ (Nat.succ (0 : Nat))) (U.i (0 : Int))))) (List.length D)) (bc (bc (bc (decide ((0 : Int) ≤ U.int (List.getD (List.getD X (Int.toNat i) []) (Nat.succ (Nat.succ (Nat.succ (0 : Nat)))) (U.i (0 : Int))))) (Nat.blt (Int.toNat (U.int (List.getD (List.getD X (Int.toNat i) []) (Nat.succ (Nat.succ (Nat.succ (0 : Nat)))) (U.i (0 : Int))))) (List.length D)) false) true false) (bc (bc (Nat.blt (Int.toNat (U.int (List.getD (List.getD X (Int.toNat i) []) (Nat.succ (Nat.succ (Nat.succ (0 : Nat)))) (U.i (0 : Int))))) (List.length (List.set D (Int.toNat (U.int (List.getD (List.getD X (Int.toNat i) []) (Nat.succ (Nat.succ (0 : Nat))) (U.i (0 : Int))))) (IntKind.wrap IntKind.i64 (List.getD D (Int.toNat (U.int (List.getD (List.getD X (Int.toNat i) []) (Nat.succ (Nat.succ (0 : Nat))) (U.i (0 : Int))))) (0 : Int) + (1 : Int)))))) true false) (bc (bc (bc (decide ((0 : Int) ≤ U.int (List.getD (List.getD X (Int.toNat i) []) (Nat.succ (Nat.succ (Nat.succ (0 : Nat)))) (U.i (0 : Int))))) (Nat.blt (Int.toNat (U.int (List.getD (List.getD X (Int.toNat i) []) (Nat.succ (Nat.succ (Nat.succ (0 : Nat)))) (U.i (0 : Int))))) (List.length D)) false) true false) (bc (Nat.blt (Int.toNat (U.int (List.getD (List.getD X (Int.toNat i) []) (Nat.succ (Nat.succ (Nat.succ (0 : Nat)))) (U.i (0 : Int))))) (List.length (List.set D (Int.toNat (U.int (List.getD (List.getD X (Int.toNat i) []) (Nat.succ (Nat.succ (0 : Nat))) (U.i (0 : Int))))) (IntKind.wrap IntKind.i64 (List.getD D (Int.toNat (U.int (List.getD (List.getD X (Int.toNat i) []) (Nat.succ (Nat.succ (0 : Nat))) (U.i (0 : Int))))) (0 : Int) + (1 : Int)))))) (bc (bc (Nat.beq (List.length x) (List.length x)) (bc (Nat.ble (List.length x + List.length (List.map (fun r => U.int (List.headD r (U.i (0 : Int)))) [[U.i i]])) (65536 : Nat)) (bc nx true (bc nx false true)) false) false) (bc (bc (Nat.beq (List.length y) (List.length y)) (bc (Nat.ble (List.length y + List.length (List.map (fun r => U.int (List.headD r (U.i (0 : Int)))) [[U.i (nxtF D R (U.int (List.getD (List.getD X (Int.toNat i) []) (Nat.succ (Nat.succ (0 : Nat))) (U.i (0 : Int)))))]])) (65536 : Nat)) (bc ny true (bc ny false true)) false) false) (.at (sC (m) (X) (Y) (Q) (R) (List.set (List.set D (Int.toNat (U.int (List.getD (List.getD X (Int.toNat i) []) (Nat.succ (Nat.succ (0 : Nat))) (U.i (0 : Int))))) (IntKind.wrap IntKind.i64 (List.getD D (Int.toNat (U.int (List.getD (List.getD X (Int.toNat i) []) (Nat.succ (Nat.succ (0 : Nat))) (U.i (0 : Int))))) (0 : Int) + (1 : Int)))) (Int.toNat (U.int (List.getD (List.getD X (Int.toNat i) []) (Nat.succ (Nat.succ (Nat.succ (0 : Nat)))) (U.i (0 : Int))))) (IntKind.wrap IntKind.i64 (List.getD (List.set D (Int.toNat (U.int (List.getD (List.getD X (Int.toNat i) []) (Nat.succ (Nat.succ (0 : Nat))) (U.i (0 : Int))))) (IntKind.wrap IntKind.i64 (List.getD D (Int.toNat (U.int (List.getD (List.getD X (Int.toNat i) []) (Nat.succ (Nat.succ (0 : Nat))) (U.i (0 : Int))))) (0 : Int) + (1 : Int)))) (Int.toNat (U.int (List.getD (List.getD X (Int.toNat i) []) (Nat.succ (Nat.succ (Nat.succ (0 : Nat)))) (U.i (0 : Int))))) (0 : Int) + (1 : Int)))) (x ++ List.map (fun r => U.int (List.headD r (U.i (0 : Int)))) [[U.i i]]) (y ++ List.map (fun r => U.int (List.headD r (U.i (0 : Int)))) [[U.i (nxtF D R (U.int (List.getD (List.getD X (Int.toNat i) []) (Nat.succ (Nat.succ (0 : Nat))) (U.i (0 : Int)))))]]) (List.length D) (bc nx true (Nat.blt (0 : Nat) (List.length (List.map (fun r => U.int (List.headD r (U.i (0 : Int)))) [[U.i i]])))) (bc ny true (Nat.blt (0 : Nat) (List.length (List.map (fun r => U.int (List.headD r (U.i (0 : Int)))) [[U.i (nxtF D R (U.int (List.getD (List.getD X (Int.toNat i) []) (Nat.succ (Nat.succ (0 : Nat))) (U.i (0 : Int)))))]])))) (z) (IntKind.wrap IntKind.i64 (i + (1 : Int))))) .bad) .bad) .bad) .bad) .bad) .bad) .bad) .bad) .bad) .bad)) .bad))) .bad) .bad) .bad) (bc (bc (Nat.beq (List.length x) (List.length x)) (bc (Nat.beq (List.length y) (List.length y)) true false) false) (.done (EV.tup [(EV.lst (SyC.ints IntKind.i64 (x))), (EV.lst (SyC.ints IntKind.i64 (y))), (EV.v (Value.int IntKind.i64 (0)))]) [] 0) .bad)) := by kernel_rfl
end PCom
end Go.Proofs.Ytonbfalbfdkieaa.Ev
namespace Go.Proofs.Ytonbfalbfdkieaa.Ev
open Go.Proofs
namespace PCom
theorem step {n : Nat} {m : Int} {X Y Q : List (List U)} {D x y : List Int} {nx ny : Bool} {i : Nat} (hi : i < X.length) (hX : X.length ≤ 20000) (hY : Y.length ≤ 20000) (hn : n ≤ 48) (tx : thrs n X) (ty : thrs n Y) (hD : D.length = n) (hc : Cnt D (2 * i)) (hx : x.length ≤ i) (hy : y.length ≤ i) : RUN (stOf (sC m X Y Q (rowsT (thF Y 0 (th0 n))) D x y n nx ny X.length i)) = .at (sC m X Y Q (rowsT (thF Y 0 (th0 n))) (stepD (comB Y (rowsT (thF Y 0 (th0 n))) D X[i]) D X[i]) (x ++ bc (comB Y (rowsT (thF Y 0 (th0 n))) D X[i]) [(i : Int)] []) (y ++ bc (comB Y (rowsT (thF Y 0 (th0 n))) D X[i]) [nxtF D (rowsT (thF Y 0 (th0 n))) (xO X[i])] []) n (bc (comB Y (rowsT (thF Y 0 (th0 n))) D X[i]) true nx) (bc (comB Y (rowsT (thF Y 0 (th0 n))) D X[i]) true ny) X.length (i + 1 : Nat)) := by
  have h := step_t m X Y Q (rowsT (thF Y 0 (th0 n))) D x y n nx ny X.length i
  have e : X.getD i [] = X[i] := getD_at hi
  rw [to_nat, e] at h
  have f1 : U.int (List.getD X[i] (Nat.succ (Nat.succ 0)) (U.i 0)) = xO X[i] := rfl
  have f2 : U.int (List.getD X[i] (Nat.succ (Nat.succ (Nat.succ 0))) (U.i 0)) = xU X[i] := rfl
  rw [f1, f2] at h
  obtain ⟨h1, h2, h3, h4⟩ := tx _ (List.getElem_mem hi)
  generalize hr : X[i] = r at *
  unfold comB stepD
  generalize xU r = u at *
  have f3 : ∀ k : Int, U.int (List.getD (Y.getD k.toNat []) (Nat.add 0 2) (U.i 0)) = xO (Y.getD k.toNat []) := fun _ => rfl
  rw [f3] at h
  generalize xO r = o at *
  obtain ⟨o, rfl⟩ := Int.eq_ofNat_of_zero_le h1
  obtain ⟨u, rfl⟩ := Int.eq_ofNat_of_zero_le h3
  have lo := atF_len o Y 0
  have lu := atF_len u Y 0
  have c1 : (0 : Int) ≤ (o : Int) ∧ (o : Int) < (D.length : Int) ∧ (o : Int) < ((rowsT (thF Y 0 (th0 n))).length : Int) ∧ (rA ((rowsT (thF Y 0 (th0 n))).getD ((o : Int)).toNat [])).length ≤ 100000 := ⟨by omega, by omega, by rw [rowsH_len]; omega, by rw [to_nat, rowsA ty (by omega)]; omega⟩
  have c2 : (0 : Int) ≤ (u : Int) ∧ (u : Int) < (D.length : Int) ∧ (u : Int) < ((rowsT (thF Y 0 (th0 n))).length : Int) ∧ (rA ((rowsT (thF Y 0 (th0 n))).getD ((u : Int)).toNat [])).length ≤ 100000 := ⟨by omega, by omega, by rw [rowsH_len]; omega, by rw [to_nat, rowsA ty (by omega)]; omega⟩
  have n1 := nxtF_lt (D := D) ty (show o < n by omega)
  generalize rowsT (thF Y 0 (th0 n)) = R at *
  rw [dt c1, dt c2] at h
  have k1 := hc o
  have k2 := hc u
  have k3 := (hc.inc (j := o) (by omega)) u
  have i1 : incD D o = D.set o (D.getD o 0 + 1) := rfl
  have i2 : incD (incD D o) u = (incD D o).set u ((incD D o).getD u 0 + 1) := rfl
  rcases n1 with n1 | ⟨k, n1, n2⟩
  · simp (disch := omega) only [Nat.add_eq, eqSy_self, eqN_self, bc_same, List.length_cons, ofn, wrap_in, dt, df, bltD, bltN, ble_of, bleN, beqD, bc_t, bc_f, nn_ok, Nat.zero_add, to_nat, Int.zero_add, Int.sub_zero, Int.sub_self, Int.cast_ofNat_Int, Int.natCast_zero, Int.toNat_zero, List.take_zero, List.nil_append, List.length_append, List.length_nil, eqB, List.length_set, List.append_nil, decide_true, hD] at h ⊢
    exact h
  · rw [n1] at h ⊢
    cases g1 : ((k : Int) != nxtF D R u) with
    | true =>
      rw [g1] at h
      simp (disch := omega) only [Nat.add_eq, eqSy_self, eqN_self, bc_same, List.length_cons, ofn, wrap_in, dt, df, bltD, bltN, ble_of, bleN, beqD, bc_t, bc_f, nn_ok, Nat.zero_add, to_nat, Int.zero_add, Int.sub_zero, Int.sub_self, Int.cast_ofNat_Int, Int.natCast_zero, Int.toNat_zero, List.take_zero, List.nil_append, List.length_append, List.length_nil, eqB, List.length_set, List.append_nil, decide_true, hD] at h ⊢
      exact h
    | false =>
      rw [g1] at h
      cases g2 : (xO (Y.getD ((k : Int)).toNat []) != (o : Int)) with
      | true =>
        rw [g2] at h
        simp (disch := omega) only [Nat.add_eq, eqSy_self, eqN_self, bc_same, List.length_cons, ofn, wrap_in, dt, df, bltD, bltN, ble_of, bleN, beqD, bc_t, bc_f, nn_ok, Nat.zero_add, to_nat, Int.zero_add, Int.sub_zero, Int.sub_self, Int.cast_ofNat_Int, Int.natCast_zero, Int.toNat_zero, List.take_zero, List.nil_append, List.length_append, List.length_nil, eqB, List.length_set, List.append_nil, decide_true, hD] at h ⊢
        exact h
      | false =>
        rw [g2] at h
        have m1 : ∀ x : Int, List.map (fun r => U.int (List.headD r (U.i 0))) [[U.i x]] = [x] := fun _ => rfl
        simp only [to_nat, m1] at h
        rw [wrap_in (D.getD o 0 + 1) (by omega) (by omega), ← i1, wrap_in ((incD D o).getD u 0 + 1) (by omega) (by omega), ← i2] at h
        simp (disch := omega) only [Nat.add_eq, eqSy_self, eqN_self, bc_same, List.length_cons, ofn, wrap_in, dt, df, bltD, bltN, ble_of, bleN, beqD, bc_t, bc_f, nn_ok, Nat.zero_add, to_nat, Int.zero_add, Int.sub_zero, Int.sub_self, Int.cast_ofNat_Int, Int.natCast_zero, Int.toNat_zero, List.take_zero, List.nil_append, List.length_append, List.length_nil, eqB, List.length_set, List.append_nil, decide_true, hD, incD_len] at h ⊢
        exact h
end PCom
end Go.Proofs.Ytonbfalbfdkieaa.Ev
namespace Go.Proofs.Ytonbfalbfdkieaa.Ev
open Go.Proofs
namespace LExc
noncomputable def RUN (s : ES) : ZF := RZ 46 .nil (atS 0 46 3) [] [[(1,none),(4,none),(5,none),(6,none)]] true s

noncomputable def sE (n : Int) (P q : List (List U)) (l : List Int) (d : Nat) (i : Int) : NS := ⟨[⟨46, 68, [(1, (EV.lst (SyC.ints IntKind.u16 (l)))), (4, (EV.ptr 0 0)), (5, (EV.ptr 1 0)), (6, iv i)], [.it (.code (nav [1, 1, 0, 1, 0, 0, 0] (bodyOf Try.f46))), .it (.code (nav [1, 1, 0, 1, 0, 0, 1] (bodyOf Try.f46))), .it (.inLoop (nav [1, 1, 0, 1, 0, 0] (bodyOf Try.f46))), .it (.inBlock 0), .it (.code (nav [1, 1, 1] (bodyOf Try.f46)))], [], Option.none⟩], [(0, (EK.cells 25 [(EV.v (Value.int IntKind.i64 (0))), (EV.v (Value.slice Option.none 0 0)), (EV.v (Value.slice Option.none 0 0))] true)), (1, EK.cells 25 [iv n, EV.slO 2 4 d true, EV.lst (.recs shX P)] true), (2, EK.seq 71 (.recs shX q) true)], 3⟩
theorem in_t (n : Int) (X P : List (List U)) (l : List Int) : RUN (st0 46 [clE n X P, .lst (.ints .u16 l)]) = (bc (bc (bc (bc (Nat.ble ((0 : Nat) + List.length X) (65536 : Nat)) true false) true false) (bc (bc (bc (decide (n = n)) (bc (decide (n = n)) true false) false) (bc (bc (eqSy (SyC.recs shX X) (SyC.recs shX X)) true false) (bc (bc (eqSy (SyC.recs shX P) (SyC.recs shX P)) (bc (eqSy (SyC.recs shX P) (SyC.recs shX P)) true false) false) true false) false) false) true false) false) (.at (sE (n) (P) ([] ++ X) (l) (List.length ([] ++ X)) ((0 : Int)))) .bad) := by kernel_rfl
theorem step_t (n : Int) (P q : List (List U)) (l : List Int) (d : Nat) (i : Int) : RUN (stOf (sE n P q l d i)) = (bc (decide (i < Int.ofNat (List.length l))) (bc (decide ((1 : Int) < Int.ofNat d)) (bc (bc (bc (bc (bc (decide ((0 : Int) ≤ i)) (Nat.blt (Int.toNat i) (List.length l)) false) true false) (bc (bc (Nat.blt (Int.toNat i) (List.length l)) true false) (bc (bc (bnot (IntKind.wrap IntKind.i64 (Int.ofNat d - (1 : Int)) == (0 : Int))) true false) true false) false) false) true false) (bc (bc (bc (bc (bc (decide ((0 : Int) ≤ Int.tmod (IntKind.wrap IntKind.i64 (List.getD l (Int.toNat i) (0 : Int))) (IntKind.wrap IntKind.i64 (Int.ofNat d - (1 : Int))))) (Nat.blt (Int.toNat (Int.tmod (IntKind.wrap IntKind.i64 (List.getD l (Int.toNat i) (0 : Int))) (IntKind.wrap IntKind.i64 (Int.ofNat d - (1 : Int))))) d) false) true false) (bc (bc (Nat.blt (Int.toNat (Int.tmod (IntKind.wrap IntKind.i64 (List.getD l (Int.toNat i) (0 : Int))) (IntKind.wrap IntKind.i64 (Int.ofNat d - (1 : Int))))) (List.length q)) true false) (bc (bc (bc (decide ((0 : Int) ≤ IntKind.wrap IntKind.i64 (Int.tmod (IntKind.wrap IntKind.i64 (List.getD l (Int.toNat i) (0 : Int))) (IntKind.wrap IntKind.i64 (Int.ofNat d - (1 : Int))) + (1 : Int)))) (Nat.blt (Int.toNat (IntKind.wrap IntKind.i64 (Int.tmod (IntKind.wrap IntKind.i64 (List.getD l (Int.toNat i) (0 : Int))) (IntKind.wrap IntKind.i64 (Int.ofNat d - (1 : Int))) + (1 : Int)))) d) false) true false) (bc (bc (Nat.blt (Int.toNat (IntKind.wrap IntKind.i64 (Int.tmod (IntKind.wrap IntKind.i64 (List.getD l (Int.toNat i) (0 : Int))) (IntKind.wrap IntKind.i64 (Int.ofNat d - (1 : Int))) + (1 : Int)))) (List.length q)) true false) true false) false) false) false) (bc (bc (bc (bc (Nat.beq d d) (eqN true true) false) true false) (bc (bc (bc (bc (Nat.blt (Int.toNat (IntKind.wrap IntKind.i64 (Int.tmod (IntKind.wrap IntKind.i64 (List.getD l (Int.toNat i) (0 : Int))) (IntKind.wrap IntKind.i64 (Int.ofNat d - (1 : Int))) + (1 : Int)))) (List.length q)) true false) (bc (decide (U.int (List.getD (List.getD q (Int.toNat (IntKind.wrap IntKind.i64 (Int.tmod (IntKind.wrap IntKind.i64 (List.getD l (Int.toNat i) (0 : Int))) (IntKind.wrap IntKind.i64 (Int.ofNat d - (1 : Int))) + (1 : Int)))) []) (0 : Nat) (U.i (0 : Int))) = U.int (List.getD (List.getD q (Int.toNat (IntKind.wrap IntKind.i64 (Int.tmod (IntKind.wrap IntKind.i64 (List.getD l (Int.toNat i) (0 : Int))) (IntKind.wrap IntKind.i64 (Int.ofNat d - (1 : Int))) + (1 : Int)))) []) (0 : Nat) (U.i (0 : Int))))) (bc (decide (U.int (List.getD (List.getD q (Int.toNat (IntKind.wrap IntKind.i64 (Int.tmod (IntKind.wrap IntKind.i64 (List.getD l (Int.toNat i) (0 : Int))) (IntKind.wrap IntKind.i64 (Int.ofNat d - (1 : Int))) + (1 : Int)))) []) (Nat.succ (0 : Nat)) (U.i (0 : Int))) = U.int (List.getD (List.getD q (Int.toNat (IntKind.wrap IntKind.i64 (Int.tmod (IntKind.wrap IntKind.i64 (List.getD l (Int.toNat i) (0 : Int))) (IntKind.wrap IntKind.i64 (Int.ofNat d - (1 : Int))) + (1 : Int)))) []) (Nat.succ (0 : Nat)) (U.i (0 : Int))))) (bc (decide (U.int (List.getD (List.getD q (Int.toNat (IntKind.wrap IntKind.i64 (Int.tmod (IntKind.wrap IntKind.i64 (List.getD l (Int.toNat i) (0 : Int))) (IntKind.wrap IntKind.i64 (Int.ofNat d - (1 : Int))) + (1 : Int)))) []) (Nat.succ (Nat.succ (0 : Nat))) (U.i (0 : Int))) = U.int (List.getD (List.getD q (Int.toNat (IntKind.wrap IntKind.i64 (Int.tmod (IntKind.wrap IntKind.i64 (List.getD l (Int.toNat i) (0 : Int))) (IntKind.wrap IntKind.i64 (Int.ofNat d - (1 : Int))) + (1 : Int)))) []) (Nat.succ (Nat.succ (0 : Nat))) (U.i (0 : Int))))) (bc (decide (U.int (List.getD (List.getD q (Int.toNat (IntKind.wrap IntKind.i64 (Int.tmod (IntKind.wrap IntKind.i64 (List.getD l (Int.toNat i) (0 : Int))) (IntKind.wrap IntKind.i64 (Int.ofNat d - (1 : Int))) + (1 : Int)))) []) (Nat.succ (Nat.succ (Nat.succ (0 : Nat)))) (U.i (0 : Int))) = U.int (List.getD (List.getD q (Int.toNat (IntKind.wrap IntKind.i64 (Int.tmod (IntKind.wrap IntKind.i64 (List.getD l (Int.toNat i) (0 : Int))) (IntKind.wrap IntKind.i64 (Int.ofNat d - (1 : Int))) + (1 : Int)))) []) (Nat.succ (Nat.succ (Nat.succ (0 : Nat)))) (U.i (0 : Int))))) true false) false) false) false) false) true false) true false) false) true false) false) (bc (U.int (List.getD (List.getD q (Int.toNat (Int.tmod (IntKind.wrap IntKind.i64 (List.getD l (Int.toNat i) (0 : Int))) (IntKind.wrap IntKind.i64 (Int.ofNat d - (1 : Int))))) []) (Nat.succ (Nat.succ (0 : Nat))) (U.i (0 : Int))) == U.int (List.getD (List.getD q (Int.toNat (IntKind.wrap IntKind.i64 (Int.tmod (IntKind.wrap IntKind.i64 (List.getD l (Int.toNat i) (0 : Int))) (IntKind.wrap IntKind.i64 (Int.ofNat d - (1 : Int))) + (1 : Int)))) []) (Nat.succ (Nat.succ (0 : Nat))) (U.i (0 : Int)))) (.at (sE (n) (P) (q) (l) (d) (IntKind.wrap IntKind.i64 (i + (1 : Int))))) (bc (U.int (List.getD (List.getD q (Int.toNat (Int.tmod (IntKind.wrap IntKind.i64 (List.getD l (Int.toNat i) (0 : Int))) (IntKind.wrap IntKind.i64 (Int.ofNat d - (1 : Int))))) []) (Nat.succ (Nat.succ (0 : Nat))) (U.i (0 : Int))) == U.int (List.getD (List.getD q (Int.toNat (IntKind.wrap IntKind.i64 (Int.tmod (IntKind.wrap IntKind.i64 (List.getD l (Int.toNat i) (0 : Int))) (IntKind.wrap IntKind.i64 (Int.ofNat d - (1 : Int))) + (1 : Int)))) []) (Nat.succ (Nat.succ (Nat.succ (0 : Nat)))) (U.i (0 : Int)))) (.at (sE (n) (P) (q) (l) (d) (IntKind.wrap IntKind.i64 (i + (1 : Int))))) (bc (U.int (List.getD (List.getD q (Int.toNat (Int.tmod (IntKind.wrap IntKind.i64 (List.getD l (Int.toNat i) (0 : Int))) (IntKind.wrap IntKind.i64 (Int.ofNat d - (1 : Int))))) []) (Nat.succ (Nat.succ (Nat.succ (0 : Nat)))) (U.i (0 : Int))) == U.int (List.getD (List.getD q (Int.toNat (IntKind.wrap IntKind.i64 (Int.tmod (IntKind.wrap IntKind.i64 (List.getD l (Int.toNat i) (0 : Int))) (IntKind.wrap IntKind.i64 (Int.ofNat d - (1 : Int))) + (1 : Int)))) []) (Nat.succ (Nat.succ (0 : Nat))) (U.i (0 : Int)))) (.at (sE (n) (P) (q) (l) (d) (IntKind.wrap IntKind.i64 (i + (1 : Int))))) (bc (!U.int (List.getD (List.getD q (Int.toNat (Int.tmod (IntKind.wrap IntKind.i64 (List.getD l (Int.toNat i) (0 : Int))) (IntKind.wrap IntKind.i64 (Int.ofNat d - (1 : Int))))) []) (Nat.succ (Nat.succ (Nat.succ (0 : Nat)))) (U.i (0 : Int))) == U.int (List.getD (List.getD q (Int.toNat (IntKind.wrap IntKind.i64 (Int.tmod (IntKind.wrap IntKind.i64 (List.getD l (Int.toNat i) (0 : Int))) (IntKind.wrap IntKind.i64 (Int.ofNat d - (1 : Int))) + (1 : Int)))) []) (Nat.succ (Nat.succ (Nat.succ (0 : Nat)))) (U.i (0 : Int)))) (bc (bc (bc (bc (bc (decide ((0 : Int) ≤ Int.tmod (IntKind.wrap IntKind.i64 (List.getD l (Int.toNat i) (0 : Int))) (IntKind.wrap IntKind.i64 (Int.ofNat d - (1 : Int))))) (Nat.blt (Int.toNat (Int.tmod (IntKind.wrap IntKind.i64 (List.getD l (Int.toNat i) (0 : Int))) (IntKind.wrap IntKind.i64 (Int.ofNat d - (1 : Int))))) d) false) true false) (bc (Nat.blt (Int.toNat (Int.tmod (IntKind.wrap IntKind.i64 (List.getD l (Int.toNat i) (0 : Int))) (IntKind.wrap IntKind.i64 (Int.ofNat d - (1 : Int))))) (List.length q)) (bc (bc (bc (decide ((0 : Int) ≤ IntKind.wrap IntKind.i64 (Int.tmod (IntKind.wrap IntKind.i64 (List.getD l (Int.toNat i) (0 : Int))) (IntKind.wrap IntKind.i64 (Int.ofNat d - (1 : Int))) + (1 : Int)))) (Nat.blt (Int.toNat (IntKind.wrap IntKind.i64 (Int.tmod (IntKind.wrap IntKind.i64 (List.getD l (Int.toNat i) (0 : Int))) (IntKind.wrap IntKind.i64 (Int.ofNat d - (1 : Int))) + (1 : Int)))) d) false) true false) (bc (Nat.blt (Int.toNat (IntKind.wrap IntKind.i64 (Int.tmod (IntKind.wrap IntKind.i64 (List.getD l (Int.toNat i) (0 : Int))) (IntKind.wrap IntKind.i64 (Int.ofNat d - (1 : Int))) + (1 : Int)))) (List.length (List.set q (Int.toNat (Int.tmod (IntKind.wrap IntKind.i64 (List.getD l (Int.toNat i) (0 : Int))) (IntKind.wrap IntKind.i64 (Int.ofNat d - (1 : Int))))) [U.i (U.int (List.getD (List.getD q (Int.toNat (IntKind.wrap IntKind.i64 (Int.tmod (IntKind.wrap IntKind.i64 (List.getD l (Int.toNat i) (0 : Int))) (IntKind.wrap IntKind.i64 (Int.ofNat d - (1 : Int))) + (1 : Int)))) []) (0 : Nat) (U.i (0 : Int)))), U.i (U.int (List.getD (List.getD q (Int.toNat (IntKind.wrap IntKind.i64 (Int.tmod (IntKind.wrap IntKind.i64 (List.getD l (Int.toNat i) (0 : Int))) (IntKind.wrap IntKind.i64 (Int.ofNat d - (1 : Int))) + (1 : Int)))) []) (Nat.succ (0 : Nat)) (U.i (0 : Int)))), U.i (U.int (List.getD (List.getD q (Int.toNat (IntKind.wrap IntKind.i64 (Int.tmod (IntKind.wrap IntKind.i64 (List.getD l (Int.toNat i) (0 : Int))) (IntKind.wrap IntKind.i64 (Int.ofNat d - (1 : Int))) + (1 : Int)))) []) (Nat.succ (Nat.succ (0 : Nat))) (U.i (0 : Int)))), U.i (U.int (List.getD (List.getD q (Int.toNat (IntKind.wrap IntKind.i64 (Int.tmod (IntKind.wrap IntKind.i64 (List.getD l (Int.toNat i) (0 : Int))) (IntKind.wrap IntKind.i64 (Int.ofNat d - (1 : Int))) + (1 : Int)))) []) (Nat.succ (Nat.succ (Nat.succ (0 : Nat)))) (U.i (0 : Int))))]))) true false) false) false) false) (bc (bc (bc (bc (Nat.beq d d) (eqN true true) false) true false) (bc (bc (bc (decide (U.int (List.getD (List.getD q (Int.toNat (Int.tmod (IntKind.wrap IntKind.i64 (List.getD l (Int.toNat i) (0 : Int))) (IntKind.wrap IntKind.i64 (Int.ofNat d - (1 : Int))))) []) (0 : Nat) (U.i (0 : Int))) = U.int (List.getD (List.getD q (Int.toNat (Int.tmod (IntKind.wrap IntKind.i64 (List.getD l (Int.toNat i) (0 : Int))) (IntKind.wrap IntKind.i64 (Int.ofNat d - (1 : Int))))) []) (0 : Nat) (U.i (0 : Int))))) (bc (decide (U.int (List.getD (List.getD q (Int.toNat (Int.tmod (IntKind.wrap IntKind.i64 (List.getD l (Int.toNat i) (0 : Int))) (IntKind.wrap IntKind.i64 (Int.ofNat d - (1 : Int))))) []) (Nat.succ (0 : Nat)) (U.i (0 : Int))) = U.int (List.getD (List.getD q (Int.toNat (Int.tmod (IntKind.wrap IntKind.i64 (List.getD l (Int.toNat i) (0 : Int))) (IntKind.wrap IntKind.i64 (Int.ofNat d - (1 : Int))))) []) (Nat.succ (0 : Nat)) (U.i (0 : Int))))) (bc (decide (U.int (List.getD (List.getD q (Int.toNat (Int.tmod (IntKind.wrap IntKind.i64 (List.getD l (Int.toNat i) (0 : Int))) (IntKind.wrap IntKind.i64 (Int.ofNat d - (1 : Int))))) []) (Nat.succ (Nat.succ (0 : Nat))) (U.i (0 : Int))) = U.int (List.getD (List.getD q (Int.toNat (Int.tmod (IntKind.wrap IntKind.i64 (List.getD l (Int.toNat i) (0 : Int))) (IntKind.wrap IntKind.i64 (Int.ofNat d - (1 : Int))))) []) (Nat.succ (Nat.succ (0 : Nat))) (U.i (0 : Int))))) (bc (decide (U.int (List.getD (List.getD q (Int.toNat (Int.tmod (IntKind.wrap IntKind.i64 (List.getD l (Int.toNat i) (0 : Int))) (IntKind.wrap IntKind.i64 (Int.ofNat d - (1 : Int))))) []) (Nat.succ (Nat.succ (Nat.succ (0 : Nat)))) (U.i (0 : Int))) = U.int (List.getD (List.getD q (Int.toNat (Int.tmod (IntKind.wrap IntKind.i64 (List.getD l (Int.toNat i) (0 : Int))) (IntKind.wrap IntKind.i64 (Int.ofNat d - (1 : Int))))) []) (Nat.succ (Nat.succ (Nat.succ (0 : Nat)))) (U.i (0 : Int))))) true false) false) false) false) true false) true false) false) true false) false) (.at (sE (n) (P) (List.set (List.set q (Int.toNat (Int.tmod (IntKind.wrap IntKind.i64 (List.getD l (Int.toNat i) (0 : Int))) (IntKind.wrap IntKind.i64 (Int.ofNat d - (1 : Int))))) [U.i (U.int (List.getD (List.getD q (Int.toNat (IntKind.wrap IntKind.i64 (Int.tmod (IntKind.wrap IntKind.i64 (List.getD l (Int.toNat i) (0 : Int))) (IntKind.wrap IntKind.i64 (Int.ofNat d - (1 : Int))) + (1 : Int)))) []) (0 : Nat) (U.i (0 : Int)))), U.i (U.int (List.getD (List.getD q (Int.toNat (IntKind.wrap IntKind.i64 (Int.tmod (IntKind.wrap IntKind.i64 (List.getD l (Int.toNat i) (0 : Int))) (IntKind.wrap IntKind.i64 (Int.ofNat d - (1 : Int))) + (1 : Int)))) []) (Nat.succ (0 : Nat)) (U.i (0 : Int)))), U.i (U.int (List.getD (List.getD q (Int.toNat (IntKind.wrap IntKind.i64 (Int.tmod (IntKind.wrap IntKind.i64 (List.getD l (Int.toNat i) (0 : Int))) (IntKind.wrap IntKind.i64 (Int.ofNat d - (1 : Int))) + (1 : Int)))) []) (Nat.succ (Nat.succ (0 : Nat))) (U.i (0 : Int)))), U.i (U.int (List.getD (List.getD q (Int.toNat (IntKind.wrap IntKind.i64 (Int.tmod (IntKind.wrap IntKind.i64 (List.getD l (Int.toNat i) (0 : Int))) (IntKind.wrap IntKind.i64 (Int.ofNat d - (1 : Int))) + (1 : Int)))) []) (Nat.succ (Nat.succ (Nat.succ (0 : Nat)))) (U.i (0 : Int))))]) (Int.toNat (IntKind.wrap IntKind.i64 (Int.tmod (IntKind.wrap IntKind.i64 (List.getD l (Int.toNat i) (0 : Int))) (IntKind.wrap IntKind.i64 (Int.ofNat d - (1 : Int))) + (1 : Int)))) [U.i (U.int (List.getD (List.getD q (Int.toNat (Int.tmod (IntKind.wrap IntKind.i64 (List.getD l (Int.toNat i) (0 : Int))) (IntKind.wrap IntKind.i64 (Int.ofNat d - (1 : Int))))) []) (0 : Nat) (U.i (0 : Int)))), U.i (U.int (List.getD (List.getD q (Int.toNat (Int.tmod (IntKind.wrap IntKind.i64 (List.getD l (Int.toNat i) (0 : Int))) (IntKind.wrap IntKind.i64 (Int.ofNat d - (1 : Int))))) []) (Nat.succ (0 : Nat)) (U.i (0 : Int)))), U.i (U.int (List.getD (List.getD q (Int.toNat (Int.tmod (IntKind.wrap IntKind.i64 (List.getD l (Int.toNat i) (0 : Int))) (IntKind.wrap IntKind.i64 (Int.ofNat d - (1 : Int))))) []) (Nat.succ (Nat.succ (0 : Nat))) (U.i (0 : Int)))), U.i (U.int (List.getD (List.getD q (Int.toNat (Int.tmod (IntKind.wrap IntKind.i64 (List.getD l (Int.toNat i) (0 : Int))) (IntKind.wrap IntKind.i64 (Int.ofNat d - (1 : Int))))) []) (Nat.succ (Nat.succ (Nat.succ (0 : Nat)))) (U.i (0 : Int))))]) (l) (d) (IntKind.wrap IntKind.i64 (i + (1 : Int))))) .bad) (.at (sE (n) (P) (q) (l) (d) (IntKind.wrap IntKind.i64 (i + (1 : Int))))))))) .bad) .bad) (.done (EV.agg [(EV.v (Value.int IntKind.i64 (n))), (EV.slO 0 4 (d) true), (EV.lst (SyC.recs [(Sh.int IntKind.i64), (Sh.int IntKind.i64), (Sh.int IntKind.i64), (Sh.int IntKind.i64)] (P)))]) [(0, (EK.seq 71 (SyC.recs [(Sh.int IntKind.i64), (Sh.int IntKind.i64), (Sh.int IntKind.i64), (Sh.int IntKind.i64)] (q)) true))] 1)) (.done (EV.agg [(EV.v (Value.int IntKind.i64 (n))), (EV.slO 0 4 (d) true), (EV.lst (SyC.recs [(Sh.int IntKind.i64), (Sh.int IntKind.i64), (Sh.int IntKind.i64), (Sh.int IntKind.i64)] (P)))]) [(0, (EK.seq 71 (SyC.recs [(Sh.int IntKind.i64), (Sh.int IntKind.i64), (Sh.int IntKind.i64), (Sh.int IntKind.i64)] (q)) true))] 1)) := by kernel_rfl
end LExc
end Go.Proofs.Ytonbfalbfdkieaa.Ev
namespace Go.Proofs.Ytonbfalbfdkieaa.Ev
noncomputable def nrm (r : List U) : List U := [.i (xW r), .i (xA r), .i (xO r), .i (xU r)]

def Sm (r s : List U) : Prop := xW r = xW s ∧ xA r = xA s ∧ xO r = xO s ∧ xU r = xU s
theorem Sm.refl (r : List U) : Sm r r := ⟨rfl, rfl, rfl, rfl⟩
theorem Sm.nrm (r : List U) : Sm (nrm r) r := ⟨rfl, rfl, rfl, rfl⟩

noncomputable def shrB (x y : List U) : Bool := bc (xO x == xO y) true (bc (xO x == xU y) true (bc (xU x == xO y) true (xU x == xU y)))
theorem shrB_f {x y : List U} : shrB x y = false ↔ xO x ≠ xO y ∧ xO x ≠ xU y ∧ xU x ≠ xO y ∧ xU x ≠ xU y := by
  unfold shrB
  simp only [bc_eq, beq_iff_eq]
  by_cases h1 : xO x = xO y
  · simp [h1]
  by_cases h2 : xO x = xU y
  · simp [h2]
  by_cases h3 : xU x = xO y
  · simp [h1, h2, h3]
  by_cases h4 : xU x = xU y
  · simp [h1, h2, h3, h4]
  simp [h1, h2, h3, h4]
inductive Ex1 : List (List U) → List (List U) → Prop
  | mk (l1 l2 : List (List U)) (x y x' y' : List U) (hx : Sm x' x) (hy : Sm y' y) (hs : shrB x y = false) : Ex1 (l1 ++ x :: y :: l2) (l1 ++ y' :: x' :: l2)
inductive Exs : List (List U) → List (List U) → Prop
  | refl (a : List (List U)) : Exs a a
  | step {a b c : List (List U)} (h : Ex1 a b) (t : Exs b c) : Exs a c
theorem enB_iff {l : List Int} {r : List U} : enB l r = true ↔ (l.getD (xA r).toNat 0 = xO r ∧ l.getD ((xA r).toNat + 1) 0 = xU r) ∨ (l.getD (xA r).toNat 0 = xU r ∧ l.getD ((xA r).toNat + 1) 0 = xO r) := by
  unfold enB
  rw [bc_eq]
  split
  · rename_i h
    obtain ⟨h1, h2⟩ := bcT h
    exact ⟨fun _ => .inl ⟨by simpa using h1, by simpa using h2⟩, fun _ => rfl⟩
  · rename_i h
    constructor
    · intro k
      obtain ⟨h1, h2⟩ := bcT k
      exact .inr ⟨by simpa using h1, by simpa using h2⟩
    · rintro (⟨h1, h2⟩ | ⟨h1, h2⟩)
      · exact absurd (by rw [h1, h2]; simp [bc]) h
      · rw [h1, h2]; simp [bc]
noncomputable def swps : List Int → List (List U) → List Int
  | l, [] => l
  | l, r :: q => swps (swp l (xA r).toNat) q
theorem swps_len : ∀ (q : List (List U)) (l : List Int), (swps l q).length = l.length
  | [], _ => rfl
  | r :: q, l => by unfold swps; rw [swps_len q, swp_len]
theorem enF_cons (l : List Int) (r : List U) (q : List (List U)) : enF l (r :: q) = bc (enB l r) (enF (swp l (xA r).toNat) q) false := rfl
theorem swps_cons (l : List Int) (r : List U) (q : List (List U)) : swps l (r :: q) = swps (swp l (xA r).toNat) q := rfl
theorem enF_app {r : List (List U)} : ∀ (l1 : List (List U)) (l : List Int), enF l (l1 ++ r) = true ↔ enF l l1 = true ∧ enF (swps l l1) r = true
  | [], l => ⟨fun h => ⟨rfl, h⟩, fun h => h.2⟩
  | x :: l1, l => by
    show enF l (x :: (l1 ++ r)) = true ↔ _
    rw [enF_cons, enF_cons, swps_cons]
    cases enB l x
    · rw [bc_f, bc_f]; simp
    · rw [bc_t, bc_t]; exact enF_app l1 _
theorem list_ext {a b : List Int} (h : a.length = b.length) (k : ∀ j, a.getD j 0 = b.getD j 0) : a = b := by
  apply List.ext_getElem h
  intro j h1 h2
  have := k j
  rwa [getD_at h1, getD_at h2] at this
theorem okX_at {n : Int} {r : List U} (h : okX n r = true) : 0 ≤ xA r ∧ xA r ≤ n - 2 := by
  unfold okX at h
  obtain ⟨a1, h⟩ := bcT h
  obtain ⟨a2, _⟩ := bcT h
  exact ⟨of_decide_eq_true a1, of_decide_eq_true a2⟩
theorem enF_ex {n : Nat} {l : List Int} {x y : List U} {r : List (List U)} (hl : n ≤ l.length) (hx : okX n x = true) (hy : okX n y = true) (hs : shrB x y = false) (h : enF l (x :: y :: r) = true) : enF l (y :: x :: r) = true := by
  obtain ⟨s1, s2, s3, s4⟩ := shrB_f.1 hs
  obtain ⟨x1, x2⟩ := okX_at hx
  obtain ⟨y1, y2⟩ := okX_at hy
  rw [enF_cons, enF_cons] at h
  obtain ⟨h1, h2⟩ := bcT h
  obtain ⟨h2, h3⟩ := bcT h2
  have hx2 : (xA x).toNat + 1 < l.length := by omega
  have hy2 : (xA y).toNat + 1 < l.length := by omega
  have e1 := enB_iff.1 h1
  have e2 := enB_iff.1 h2
  rw [swp_get hx2, swp_get hx2] at e2
  have n1 : ¬ (xA y).toNat = (xA x).toNat + 1 := fun e => by
    rw [if_pos e] at e2
    rcases e1 with ⟨a1, a2⟩ | ⟨a1, a2⟩ <;> rcases e2 with ⟨a3, a4⟩ | ⟨a3, a4⟩ <;> omega
  rw [if_neg n1] at e2
  have n2 : ¬ (xA y).toNat = (xA x).toNat := fun e => by
    rw [if_pos e] at e2
    rcases e1 with ⟨a1, a2⟩ | ⟨a1, a2⟩ <;> rcases e2 with ⟨a3, a4⟩ | ⟨a3, a4⟩ <;> omega
  rw [if_neg n2, if_neg (show ¬ (xA y).toNat + 1 = (xA x).toNat + 1 by omega)] at e2
  have n3 : ¬ (xA y).toNat + 1 = (xA x).toNat := fun e => by
    rw [if_pos e] at e2
    rcases e1 with ⟨a1, a2⟩ | ⟨a1, a2⟩ <;> rcases e2 with ⟨a3, a4⟩ | ⟨a3, a4⟩ <;> omega
  rw [if_neg n3] at e2
  have e3 : swp (swp l (xA x).toNat) (xA y).toNat = swp (swp l (xA y).toNat) (xA x).toNat := by
    apply list_ext (by rw [swp_len, swp_len, swp_len, swp_len])
    intro j
    rw [swp_get (p := swp l (xA x).toNat) (by rw [swp_len]; exact hy2), swp_get (p := swp l (xA y).toNat) (by rw [swp_len]; exact hx2)]
    simp only [swp_get hx2, swp_get hy2]
    repeat' split
    all_goals first | rfl | omega
  rw [enF_cons, enF_cons, enB_iff.2 e2, bc_t]
  rw [show enB (swp l (xA y).toNat) x = true from enB_iff.2 (by
    rw [swp_get hy2, swp_get hy2, if_neg (by omega), if_neg (by omega), if_neg (by omega), if_neg (by omega)]
    exact e1), bc_t, ← e3]
  exact h3
theorem enB_sm {l : List Int} {x x' : List U} (h : Sm x' x) : enB l x' = enB l x := by
  unfold enB
  rw [h.2.1, h.2.2.1, h.2.2.2]
theorem enF_sm {l : List Int} {x x' : List U} {r : List (List U)} (h : Sm x' x) : enF l (x' :: r) = enF l (x :: r) := by
  rw [enF_cons, enF_cons, enB_sm h, h.2.1]
theorem okX_sm {n : Int} {x x' : List U} (h : Sm x' x) : okX n x' = okX n x := by
  unfold okX
  rw [h.1, h.2.1]
theorem Ex1.len {a b : List (List U)} (h : Ex1 a b) : b.length = a.length := by
  cases h with
  | mk l1 l2 x y x' y' hx hy hs => simp
theorem Ex1.chk {n : Int} {a b P : List (List U)} (h : Ex1 a b) (hc : chk17 n a P = 0) : chk17 n b P = 0 := by
  obtain ⟨c1, c2, c3, c4, c5, c6, c7⟩ := chk17_ok hc
  have hl := h.len
  cases h with
  | mk l1 l2 x y x' y' hx hy hs =>
    unfold chk17 numB at hc ⊢
    rw [List.all_append, List.all_cons, List.all_cons] at c6
    have o1 : l1.all (okX n) = true := by
      cases e : l1.all (okX n) <;> simp_all
    have o2 : okX n x = true := by cases e : okX n x <;> simp_all
    have o3 : okX n y = true := by cases e : okX n y <;> simp_all
    have o4 : l2.all (okX n) = true := by cases e : l2.all (okX n) <;> simp_all
    have o5 : (l1 ++ y' :: x' :: l2).all (okX n) = true := by
      rw [List.all_append, List.all_cons, List.all_cons, okX_sm hx, okX_sm hy, o1, o2, o3, o4]; rfl
    have o6 : (l1 ++ x :: y :: l2).all (okX n) = true := by
      rw [List.all_append, List.all_cons, List.all_cons, o1, o2, o3, o4]; rfl
    rw [hl, o5]
    rw [o6] at hc
    rw [c7, df (show ¬ 48 < n by omega), df (show ¬ 20000 < ((l1 ++ x :: y :: l2).length : Int) by omega), df (show ¬ 6400 < (P.length : Int) by omega), dt c1, bc_f, bc_f, bc_f, bc_t, bc_t, bc_t] at hc ⊢
    cases e : enF (lnI n.toNat) (l1 ++ x :: y :: l2) with
    | false => rw [e] at hc; cases hc
    | true =>
      obtain ⟨g1, g2⟩ := (enF_app l1 _).1 e
      have g3 : enF (lnI n.toNat) (l1 ++ y' :: x' :: l2) = true := (enF_app l1 _).2 ⟨g1, by
        obtain ⟨n, rfl⟩ := Int.eq_ofNat_of_zero_le (show 0 ≤ n by omega)
        have g4 := enF_ex (n := n) (by rw [swps_len, lnI_len]; exact Nat.le_refl _) o2 o3 hs g2
        rw [enF_sm hy]
        rw [enF_cons] at g4 ⊢
        obtain ⟨g5, g6⟩ := bcT g4
        rw [g5, bc_t, enF_sm hx]
        exact g6⟩
      rw [g3]; rfl

noncomputable def ctR (t : Int) (r : List U) : List (List U) := (bc (decide (xO r = t)) [mO r] []) ++ (bc (decide (xU r = t)) [mU r] [])
theorem hiF_cons (t : Int) (r : List U) (q : List (List U)) : hiF t (r :: q) = ctR t r ++ hiF t q := rfl
theorem hiF_app (t : Int) (b : List (List U)) : ∀ a : List (List U), hiF t (a ++ b) = hiF t a ++ hiF t b
  | [] => rfl
  | r :: a => by
    show hiF t (r :: (a ++ b)) = _
    rw [hiF_cons, hiF_cons, hiF_app t b a, List.append_assoc]
theorem ctR_sm {t : Int} {x x' : List U} (h : Sm x' x) : ctR t x' = ctR t x := by
  unfold ctR mO mU
  rw [h.2.2.1, h.2.2.2]
theorem ctR_no {t : Int} {r : List U} (h1 : xO r ≠ t) (h2 : xU r ≠ t) : ctR t r = [] := by
  unfold ctR
  rw [df h1, df h2]; rfl
theorem Ex1.hi {a b : List (List U)} (h : Ex1 a b) (t : Int) : hiF t b = hiF t a := by
  cases h with
  | mk l1 l2 x y x' y' hx hy hs =>
    obtain ⟨s1, s2, s3, s4⟩ := shrB_f.1 hs
    rw [hiF_app, hiF_app, hiF_cons, hiF_cons, hiF_cons, hiF_cons, ctR_sm hx, ctR_sm hy]
    congr 1
    rw [← List.append_assoc, ← List.append_assoc]
    congr 1
    by_cases h1 : xO x = t ∨ xU x = t
    · have e : ctR t y = [] := ctR_no (by omega) (by omega)
      rw [e]; simp
    · have e : ctR t x = [] := ctR_no (fun e => h1 (.inl e)) (fun e => h1 (.inr e))
      rw [e]; simp
theorem Exs.len {a b : List (List U)} (h : Exs a b) : b.length = a.length := by
  induction h with
  | refl a => rfl
  | step h t ih => rw [ih, h.len]
theorem Exs.chk {n : Int} {a b P : List (List U)} (h : Exs a b) (hc : chk17 n a P = 0) : chk17 n b P = 0 := by
  induction h with
  | refl a => exact hc
  | step h t ih => exact ih (h.chk hc)
theorem Exs.hi {a b : List (List U)} (h : Exs a b) (t : Int) : hiF t b = hiF t a := by
  induction h with
  | refl a => rfl
  | step h k ih => rw [ih, h.hi]

noncomputable def exS (a : Int) (q : List (List U)) : List (List U) := bc (decide (1 < q.length)) (bc (shrB (q.getD (a.toNat % (q.length - 1)) []) (q.getD (a.toNat % (q.length - 1) + 1) [])) q ((q.set (a.toNat % (q.length - 1)) (nrm (q.getD (a.toNat % (q.length - 1) + 1) []))).set (a.toNat % (q.length - 1) + 1) (nrm (q.getD (a.toNat % (q.length - 1)) [])))) q
noncomputable def exF : List Int → List (List U) → List (List U)
  | [], q => q
  | a :: l, q => exF l (exS a q)
theorem split2 {q : List (List U)} {k : Nat} (h : k + 1 < q.length) : q = q.take k ++ q.getD k [] :: q.getD (k + 1) [] :: q.drop (k + 2) := by
  have h1 : k < q.length := by omega
  rw [getD_at h1, getD_at h, List.getElem_cons_drop, List.getElem_cons_drop, List.take_append_drop]
theorem set2 {q : List (List U)} {k : Nat} (h : k + 1 < q.length) (x y : List U) : (q.set k y).set (k + 1) x = q.take k ++ y :: x :: q.drop (k + 2) := by
  apply List.ext_getElem
  · simp; omega
  · intro j h1 h2
    rw [List.getElem_set, List.getElem_set]
    have lt : (q.take k).length = k := by simp; omega
    split
    · rename_i e
      subst e
      rw [List.getElem_append_right (by omega)]
      simp [lt]
    · split
      · rename_i e1 e2
        subst e2
        rw [List.getElem_append_right (by omega)]
        simp [lt]
      · rename_i e1 e2
        by_cases h3 : j < k
        · rw [List.getElem_append_left (by omega)]; simp
        · rw [List.getElem_append_right (by omega)]
          obtain ⟨d, hd⟩ : ∃ d, j - (q.take k).length = d + 2 := ⟨j - k - 2, by omega⟩
          simp only [hd, List.getElem_cons_succ, List.getElem_drop]
          congr 1
          omega
theorem exS_ex (a : Int) (q : List (List U)) : Exs q (exS a q) := by
  unfold exS
  by_cases h1 : 1 < q.length
  · rw [dt h1, bc_t]
    generalize hk : a.toNat % (q.length - 1) = k
    have hk2 : k + 1 < q.length := by
      have := Nat.mod_lt a.toNat (show 0 < q.length - 1 by omega)
      omega
    cases hs : shrB (q.getD k []) (q.getD (k + 1) []) with
    | true => exact .refl _
    | false =>
      rw [bc_f, set2 hk2]
      have h2 := Ex1.mk (q.take k) (q.drop (k + 2)) (q.getD k []) (q.getD (k + 1) []) (nrm (q.getD k [])) (nrm (q.getD (k + 1) [])) (Sm.nrm _) (Sm.nrm _) hs
      rw [← split2 hk2] at h2
      exact .step h2 (.refl _)
  · rw [df h1, bc_f]; exact .refl _
theorem Exs.trans {a b c : List (List U)} (h : Exs a b) (k : Exs b c) : Exs a c := by
  induction h with
  | refl a => exact k
  | step h t ih => exact .step h (ih k)
theorem exF_ex : ∀ (l : List Int) (q : List (List U)), Exs q (exF l q)
  | [], q => .refl q
  | a :: l, q => (exS_ex a q).trans (exF_ex l _)
theorem exS_len (a : Int) (q : List (List U)) : (exS a q).length = q.length := (exS_ex a q).len
end Go.Proofs.Ytonbfalbfdkieaa.Ev
namespace Go.Proofs.Ytonbfalbfdkieaa.Ev

def Two (b : List (List U)) : Prop := ∀ r, r ∈ b → xO r ≠ xU r
theorem enF_two {n : Nat} : ∀ (X : List (List U)) (l : List Int), n ≤ l.length → Dis l → (∀ r, r ∈ X → okX n r = true) → enF l X = true → Two X
  | [], _, _, _, _, _ => fun r hr => by cases hr
  | r :: q, l, hl, hd, hx, he => fun r' hr => by
    obtain ⟨a1, a2⟩ := okX_at (hx r List.mem_cons_self)
    rw [enF_cons] at he
    obtain ⟨he1, he2⟩ := bcT he
    rcases List.mem_cons.1 hr with rfl | hr
    · intro e
      have h1 : l.getD (xA r').toNat 0 = l.getD ((xA r').toNat + 1) 0 := by
        rcases enB_iff.1 he1 with ⟨h1, h2⟩ | ⟨h1, h2⟩ <;> rw [h1, h2, e]
      have := hd _ _ (by omega) (by omega) h1
      omega
    · exact enF_two q _ (by rw [swp_len]; exact hl) (hd.swp (by omega)) (fun r2 h2 => hx r2 (List.mem_cons_of_mem _ h2)) he2 r' hr
theorem Dis_lnI (n : Nat) : Dis (lnI n) := fun a b ha hb e => by
  rw [lnI_len] at ha hb
  rw [lnI_get ha, lnI_get hb] at e
  omega
theorem chk17_en {n : Nat} {X P : List (List U)} (h : chk17 n X P = 0) : enF (lnI n) X = true := by
  obtain ⟨c1, c2, c3, c4, c5, c6, c7⟩ := chk17_ok h
  unfold chk17 numB at h
  rw [c6, c7, df (show ¬ 48 < (n : Int) by omega), df (show ¬ 20000 < (X.length : Int) by omega), df (show ¬ 6400 < (P.length : Int) by omega), dt c1, bc_f, bc_f, bc_f, bc_t, bc_t, bc_t] at h
  cases e : enF (lnI n) X with
  | true => rfl
  | false =>
    rw [show ((n : Int)).toNat = n from rfl, e] at h
    cases h
theorem chk17_two {n : Nat} {X P : List (List U)} (h : chk17 n X P = 0) : Two X := by
  obtain ⟨c1, c2, c3, c4, c5, c6, c7⟩ := chk17_ok h
  exact enF_two X (lnI n) (by rw [lnI_len]; exact Nat.le_refl _) (Dis_lnI n) (fun r hr => List.all_eq_true.1 c6 r hr) (chk17_en h)
theorem Two.tail {r : List U} {q : List (List U)} (h : Two (r :: q)) : Two q := fun x hx => h x (List.mem_cons_of_mem _ hx)
theorem ctR_O {t : Int} {r : List U} (h : xO r = t) (k : xU r ≠ t) : ctR t r = [mO r] := by
  unfold ctR
  rw [dt h, df k]; rfl
theorem ctR_U {t : Int} {r : List U} (h : xO r ≠ t) (k : xU r = t) : ctR t r = [mU r] := by
  unfold ctR
  rw [df h, dt k]; rfl
theorem atF_cons (t : Int) (r : List U) (q : List (List U)) (i : Nat) : atF t (r :: q) i = (bc (decide (xO r = t)) [(i : Int)] []) ++ (bc (decide (xU r = t)) [(i : Int)] []) ++ atF t q (i + 1) := rfl
theorem atF_hi (t : Int) : ∀ (b : List (List U)) (i : Nat), (atF t b i).length = (hiF t b).length
  | [], _ => rfl
  | r :: q, i => by
    rw [atF_cons, hiF_cons, List.length_append, List.length_append, List.length_append, atF_hi t q (i + 1)]
    unfold ctR
    rw [List.length_append]
    cases decide (xO r = t) <;> cases decide (xU r = t) <;> rfl
theorem at_idx {t : Int} : ∀ (b : List (List U)) (i0 j : Nat), Two b → j < (hiF t b).length → ∃ k : Nat, k < b.length ∧ (atF t b i0).getD j 0 = (i0 + k : Nat) ∧ hiF t (b.take k) = (hiF t b).take j ∧ ((xO (b.getD k []) = t ∧ (hiF t b).getD j [] = mO (b.getD k [])) ∨ (xU (b.getD k []) = t ∧ (hiF t b).getD j [] = mU (b.getD k [])))
  | [], _, j, _, h => by cases h
  | r :: q, i0, j, h2, h => by
    have hne := h2 r List.mem_cons_self
    rw [atF_cons, hiF_cons]
    rw [hiF_cons] at h
    by_cases e1 : xO r = t
    · have e2 : xU r ≠ t := fun e => hne (e1.trans e.symm)
      rw [ctR_O e1 e2] at h ⊢
      rw [dt e1, df e2, bc_t, bc_f]
      cases j with
      | zero => exact ⟨0, by simp, by simp, by simp [hiF], .inl ⟨e1, rfl⟩⟩
      | succ j =>
        obtain ⟨k, g1, g2, g3, g4⟩ := at_idx q (i0 + 1) j h2.tail (by simp at h; omega)
        refine ⟨k + 1, by simp; omega, ?_, ?_, ?_⟩
        · show (atF t q (i0 + 1)).getD j 0 = _
          rw [g2]; congr 1; omega
        · rw [List.take_succ_cons, hiF_cons, g3, ctR_O e1 e2]; rfl
        · exact g4
    · by_cases e2 : xU r = t
      · rw [ctR_U e1 e2] at h ⊢
        rw [df e1, dt e2, bc_t, bc_f]
        cases j with
        | zero => exact ⟨0, by simp, by simp, by simp [hiF], .inr ⟨e2, rfl⟩⟩
        | succ j =>
          obtain ⟨k, g1, g2, g3, g4⟩ := at_idx q (i0 + 1) j h2.tail (by simp at h; omega)
          refine ⟨k + 1, by simp; omega, ?_, ?_, ?_⟩
          · show (atF t q (i0 + 1)).getD j 0 = _
            rw [g2]; congr 1; omega
          · rw [List.take_succ_cons, hiF_cons, g3, ctR_U e1 e2]; rfl
          · exact g4
      · rw [ctR_no e1 e2] at h ⊢
        rw [df e1, df e2, bc_f]
        obtain ⟨k, g1, g2, g3, g4⟩ := at_idx q (i0 + 1) j h2.tail (by simpa using h)
        refine ⟨k + 1, by simp; omega, ?_, ?_, ?_⟩
        · show (atF t q (i0 + 1)).getD j 0 = _
          rw [g2]; congr 1; omega
        · rw [List.take_succ_cons, hiF_cons, g3, ctR_no e1 e2]; rfl
        · exact g4

noncomputable def cn (o u : Int) (b : List (List U)) : Nat := b.countP fun r => xO r == o && xU r == u
theorem cn_over (o u : Int) : ∀ b : List (List U), Two b → (hiF o b).countP (fun e => mT e == u && mV e) = cn o u b
  | [], _ => rfl
  | r :: q, h => by
    have hne := h r List.mem_cons_self
    unfold cn
    rw [hiF_cons, List.countP_append, cn_over o u q h.tail, List.countP_cons]
    by_cases e1 : xO r = o
    · have e2 : xU r ≠ o := fun e => hne (e1.trans e.symm)
      rw [ctR_O e1 e2, List.countP_cons, List.countP_nil]
      have m1 : mT (mO r) = xU r := rfl
      have m2 : mV (mO r) = true := rfl
      rw [m1, m2]
      unfold cn
      simp [e1]
      omega
    · have f : (xO r == o) = false := by simp [e1]
      rw [f]
      by_cases e2 : xU r = o
      · rw [ctR_U e1 e2, List.countP_cons, List.countP_nil]
        have m2 : mV (mU r) = false := rfl
        rw [m2]
        unfold cn
        simp
      · rw [ctR_no e1 e2, List.countP_nil]
        unfold cn
        simp
theorem cn_under (o u : Int) : ∀ b : List (List U), Two b → (hiF u b).countP (fun e => mT e == o && !mV e) = cn o u b
  | [], _ => rfl
  | r :: q, h => by
    have hne := h r List.mem_cons_self
    unfold cn
    rw [hiF_cons, List.countP_append, cn_under o u q h.tail, List.countP_cons]
    by_cases e2 : xU r = u
    · have e1 : xO r ≠ u := fun e => hne (e.trans e2.symm)
      rw [ctR_U e1 e2, List.countP_cons, List.countP_nil]
      have m1 : mT (mU r) = xO r := rfl
      have m2 : mV (mU r) = false := rfl
      rw [m1, m2]
      unfold cn
      simp [e2]
      omega
    · have f : (xU r == u) = false := by simp [e2]
      rw [f]
      by_cases e1 : xO r = u
      · rw [ctR_O e1 e2, List.countP_cons, List.countP_nil]
        have m2 : mV (mO r) = true := rfl
        rw [m2]
        unfold cn
        simp
      · rw [ctR_no e1 e2, List.countP_nil]
        unfold cn
        simp
theorem cn_take_lt {o u : Int} {b : List (List U)} {k k' : Nat} (hk : k < b.length) (h : k < k') (h1 : xO (b.getD k []) = o) (h2 : xU (b.getD k []) = u) : cn o u (b.take k) < cn o u (b.take k') := by
  have e1 : b.take k' = b.take (k + 1) ++ (b.drop (k + 1)).take (k' - (k + 1)) := by
    have e : k' = (k + 1) + (k' - (k + 1)) := by omega
    conv => lhs; rw [e]
    rw [List.take_add]
  have e2 : b.take (k + 1) = b.take k ++ [b.getD k []] := by
    rw [getD_at hk, List.take_append_getElem]
  unfold cn
  rw [e1, e2, List.countP_append, List.countP_append, List.countP_cons, h1, h2]
  simp
  omega
theorem Two.take {b : List (List U)} (h : Two b) (k : Nat) : Two (b.take k) := fun r hr => h r (List.mem_of_mem_take hr)
theorem hiF_take {t : Int} {a : List (List U)} {i : Nat} (hi : i < a.length) : hiF t a = hiF t (a.take i) ++ (ctR t (a.getD i []) ++ hiF t (a.drop (i + 1))) := by
  conv => lhs; rw [← List.take_append_drop i a, List.drop_eq_getElem_cons hi]
  rw [hiF_app, hiF_cons, getD_at hi]
theorem hiF_at {t : Int} {a : List (List U)} {i : Nat} {e : List U} (hi : i < a.length) (h : ctR t (a.getD i []) = [e]) : (hiF t (a.take i)).length < (hiF t a).length ∧ (hiF t a).getD (hiF t (a.take i)).length [] = e ∧ (hiF t a).take (hiF t (a.take i)).length = hiF t (a.take i) := by
  have h1 := hiF_take (t := t) hi
  rw [h] at h1
  refine ⟨?_, ?_, ?_⟩
  · rw [h1]; simp
  · rw [h1, List.getD_eq_getElem?_getD, List.getElem?_append_right (Nat.le_refl _)]; simp
  · conv => lhs; rw [h1]
    rw [List.take_left']
    rfl

theorem pair_same {a b : List (List U)} (ha : Two a) (hb : Two b) (hh : ∀ t, hiF t b = hiF t a) {i : Nat} (hi : i < a.length) : ∃ k : Nat, k < b.length ∧ (atF (xO (a.getD i [])) b 0).getD (hiF (xO (a.getD i [])) (a.take i)).length 0 = k ∧ (atF (xU (a.getD i [])) b 0).getD (hiF (xU (a.getD i [])) (a.take i)).length 0 = k ∧ xO (b.getD k []) = xO (a.getD i []) ∧ xU (b.getD k []) = xU (a.getD i []) ∧ hiF (xO (a.getD i [])) (b.take k) = hiF (xO (a.getD i [])) (a.take i) ∧ hiF (xU (a.getD i [])) (b.take k) = hiF (xU (a.getD i [])) (a.take i) := by
  have hne : xO (a.getD i []) ≠ xU (a.getD i []) := by rw [getD_at hi]; exact ha _ (List.getElem_mem hi)
  generalize hr : a.getD i [] = r at *
  obtain ⟨p1, p2, p3⟩ := hiF_at (t := xO r) hi (by rw [hr]; exact ctR_O rfl (fun e => hne e.symm))
  obtain ⟨q1, q2, q3⟩ := hiF_at (t := xU r) hi (by rw [hr]; exact ctR_U hne rfl)
  obtain ⟨k, k1, k2, k3, k4⟩ := at_idx (t := xO r) b 0 (hiF (xO r) (a.take i)).length hb (by rw [hh]; exact p1)
  obtain ⟨m, m1, m2, m3, m4⟩ := at_idx (t := xU r) b 0 (hiF (xU r) (a.take i)).length hb (by rw [hh]; exact q1)
  rw [hh, p2] at k4
  rw [hh, q2] at m4
  rw [hh, p3] at k3
  rw [hh, q3] at m3
  have f1 : xO (b.getD k []) = xO r ∧ xU (b.getD k []) = xU r := by
    rcases k4 with ⟨g1, g2⟩ | ⟨g1, g2⟩
    · have : mT (mO r) = mT (mO (b.getD k [])) := by rw [g2]
      exact ⟨g1, this.symm⟩
    · have : mV (mO r) = mV (mU (b.getD k [])) := by rw [g2]
      cases this
  have f2 : xO (b.getD m []) = xO r ∧ xU (b.getD m []) = xU r := by
    rcases m4 with ⟨g1, g2⟩ | ⟨g1, g2⟩
    · have : mV (mU r) = mV (mO (b.getD m [])) := by rw [g2]
      cases this
    · have : mT (mU r) = mT (mU (b.getD m [])) := by rw [g2]
      exact ⟨this.symm, g1⟩
  have c1 : cn (xO r) (xU r) (b.take k) = cn (xO r) (xU r) (a.take i) := by
    rw [← cn_over _ _ _ (hb.take k), k3, cn_over _ _ _ (ha.take i)]
  have c2 : cn (xO r) (xU r) (b.take m) = cn (xO r) (xU r) (a.take i) := by
    rw [← cn_under _ _ _ (hb.take m), m3, cn_under _ _ _ (ha.take i)]
  have e : k = m := by
    rcases Nat.lt_trichotomy k m with h | h | h
    · have := cn_take_lt k1 h f1.1 f1.2; omega
    · exact h
    · have := cn_take_lt m1 h f2.1 f2.2; omega
  subst e
  exact ⟨k, k1, by rw [k2]; congr 1; omega, by rw [m2]; congr 1; omega, f1.1, f1.2, k3, m3⟩
end Go.Proofs.Ytonbfalbfdkieaa.Ev
namespace Go.Proofs.Ytonbfalbfdkieaa.Ev

noncomputable def piI (a b : List (List U)) (i : Nat) : Nat := ((atF (xO (a.getD i [])) b 0).getD (hiF (xO (a.getD i [])) (a.take i)).length 0).toNat
theorem piI_ok {a b : List (List U)} (ha : Two a) (hb : Two b) (hh : ∀ t, hiF t b = hiF t a) {i : Nat} (hi : i < a.length) : piI a b i < b.length ∧ (atF (xO (a.getD i [])) b 0).getD (hiF (xO (a.getD i [])) (a.take i)).length 0 = piI a b i ∧ (atF (xU (a.getD i [])) b 0).getD (hiF (xU (a.getD i [])) (a.take i)).length 0 = piI a b i ∧ xO (b.getD (piI a b i) []) = xO (a.getD i []) ∧ xU (b.getD (piI a b i) []) = xU (a.getD i []) ∧ hiF (xO (a.getD i [])) (b.take (piI a b i)) = hiF (xO (a.getD i [])) (a.take i) ∧ hiF (xU (a.getD i [])) (b.take (piI a b i)) = hiF (xU (a.getD i [])) (a.take i) := by
  obtain ⟨k, h1, h2, h3⟩ := pair_same ha hb hh hi
  have e : piI a b i = k := by unfold piI; rw [h2]; rfl
  rw [e]
  exact ⟨h1, h2, h3⟩
theorem hiF_step {a : List (List U)} {i : Nat} (t : Int) (hi : i < a.length) : (hiF t (a.take (i + 1))).length = (hiF t (a.take i)).length + (ctR t (a.getD i [])).length := by
  rw [← List.take_append_getElem hi, hiF_app, List.length_append, getD_at hi, hiF_cons]
  congr 1
  show (ctR t a[i] ++ []).length = _
  rw [List.append_nil]
theorem incD_get {D : List Int} {j k : Nat} (h : j < D.length) : (incD D j).getD k 0 = D.getD k 0 + (if j = k then 1 else 0) := by
  unfold incD
  rw [List.getD_eq_getElem?_getD, List.getElem?_set]
  by_cases e : j = k
  · subst e; rw [if_pos rfl, if_pos h, if_pos rfl]; rfl
  · rw [if_neg e, if_neg e, ← List.getD_eq_getElem?_getD]; omega
theorem comF_all {n : Nat} {a b : List (List U)} (ha : Two a) (hb : Two b) (ta : thrs n a) (tb : thrs n b) (hh : ∀ t, hiF t b = hiF t a) : ∀ (m i : Nat) (D : List Int), i + m = a.length → D.length = n → (∀ t : Nat, t < n → D.getD t 0 = (hiF t (a.take i)).length) → comF b (rowsT (thF b 0 (th0 n))) (a.drop i) i D = ((List.range' i m).map (fun k : Nat => (k : Int)), (List.range' i m).map (fun k : Nat => (piI a b k : Int)))
  | 0, i, D, h, _, _ => by rw [List.drop_eq_nil_of_le (by omega)]; rfl
  | m + 1, i, D, h, hD, hc => by
    have hi : i < a.length := by omega
    obtain ⟨k1, k2, k3, k4, k5, k6, k7⟩ := piI_ok ha hb hh hi
    obtain ⟨o1, o2, u1, u2⟩ := ta _ (List.getElem_mem hi)
    have hne := ha _ (List.getElem_mem hi)
    have st : ∀ t, (hiF t (a.take (i + 1))).length = _ := fun t => hiF_step t hi
    have lo := (hiF_at (t := xO a[i]) hi (by rw [getD_at hi]; exact ctR_O rfl (fun e => hne e.symm))).1
    have lu := (hiF_at (t := xU a[i]) hi (by rw [getD_at hi]; exact ctR_U hne rfl)).1
    have hs : ∀ t : Int, ctR t (a.getD i []) = ctR t a[i] := fun t => by rw [getD_at hi]
    rw [getD_at hi] at k2 k3 k4 k5 k6 k7
    rw [List.drop_eq_getElem_cons hi, List.range'_succ]
    generalize hr : a[i] = r at *
    obtain ⟨o, ho⟩ := Int.eq_ofNat_of_zero_le o1
    obtain ⟨u, hu⟩ := Int.eq_ofNat_of_zero_le u1
    have co := hc o (by omega)
    have cu := hc u (by omega)
    have no : nxtF D (rowsT (thF b 0 (th0 n))) (xO r) = piI a b i := by
      rw [ho, nxtF_at tb (by omega), co, dt (by omega), bc_t, dt (by rw [atF_hi, hh, ← ho]; omega), bc_t, ← ho]
      exact k2
    have nu : nxtF D (rowsT (thF b 0 (th0 n))) (xU r) = piI a b i := by
      rw [hu, nxtF_at tb (by omega), cu, dt (by omega), bc_t, dt (by rw [atF_hi, hh, ← hu]; omega), bc_t, ← hu]
      exact k3
    have hB : comB b (rowsT (thF b 0 (th0 n))) D r = true := by
      unfold comB
      rw [no, nu, df (by omega), bc_f]
      rw [show ((piI a b i : Int) != (piI a b i : Int)) = false by simp, bc_f]
      rw [show ((piI a b i : Int)).toNat = piI a b i from rfl, k4]
      rw [show (xO r != xO r) = false by simp]; rfl
    unfold comF
    rw [hB, no, bc_t]
    rw [comF_all ha hb ta tb hh m (i + 1) (stepD true D r) (by omega) (by rw [stepD_len]; exact hD) (fun t ht => by
      unfold stepD
      rw [bc_t, incD_get (by rw [incD_len]; omega), incD_get (by omega), hc t ht, st t, hs t]
      by_cases e1 : xO r = (t : Int)
      · have e2 : xU r ≠ (t : Int) := fun e => hne (e1.trans e.symm)
        rw [ctR_O e1 e2, if_pos (by omega), if_neg (by omega)]; simp
      · by_cases e2 : xU r = (t : Int)
        · rw [ctR_U e1 e2, if_neg (by omega), if_pos (by omega)]; simp
        · rw [ctR_no e1 e2, if_neg (by omega), if_neg (by omega)]; simp)]
    rfl

def Kpt (a b : List (List U)) (x y : List Int) : Prop := x.length = y.length ∧ ∀ i : Nat, i < x.length → 0 ≤ x.getD i 0 ∧ x.getD i 0 < a.length ∧ 0 ≤ y.getD i 0 ∧ y.getD i 0 < b.length ∧ (0 < i → x.getD (i - 1) 0 < x.getD i 0) ∧ xO (a.getD (x.getD i 0).toNat []) = xO (b.getD (y.getD i 0).toNat []) ∧ xU (a.getD (x.getD i 0).toNat []) = xU (b.getD (y.getD i 0).toNat []) ∧ ∀ k : Nat, k < i → y.getD k 0 ≠ y.getD i 0 ∧ (shrB (b.getD (y.getD k 0).toNat []) (b.getD (y.getD i 0).toNat []) = true → y.getD k 0 ≤ y.getD i 0)
noncomputable instance (a b : List (List U)) (x y : List Int) : Decidable (Kpt a b x y) := Classical.propDecidable _
theorem take_mono {t : Int} {b : List (List U)} {k m : Nat} (h : k ≤ m) : (hiF t (b.take k)).length ≤ (hiF t (b.take m)).length := by
  have e1 : b.take m = b.take k ++ (b.drop k).take (m - k) := by
    have e : m = k + (m - k) := by omega
    conv => lhs; rw [e]
    rw [List.take_add]
  rw [e1, hiF_app, List.length_append]
  omega

theorem piI_lt {a b : List (List U)} (ha : Two a) (hb : Two b) (hh : ∀ t, hiF t b = hiF t a) {i k : Nat} (hi : i < a.length) (hk : k < i) {t : Int} (h1 : xO (a.getD k []) = t ∨ xU (a.getD k []) = t) (h2 : xO (a.getD i []) = t ∨ xU (a.getD i []) = t) : piI a b k < piI a b i := by
  have hk2 : k < a.length := by omega
  obtain ⟨_, _, _, _, _, p6, p7⟩ := piI_ok ha hb hh hk2
  obtain ⟨_, _, _, _, _, q6, q7⟩ := piI_ok ha hb hh hi
  have e1 : hiF t (b.take (piI a b k)) = hiF t (a.take k) := by
    rcases h1 with h1 | h1
    · rw [← h1]; exact p6
    · rw [← h1]; exact p7
  have e2 : hiF t (b.take (piI a b i)) = hiF t (a.take i) := by
    rcases h2 with h2 | h2
    · rw [← h2]; exact q6
    · rw [← h2]; exact q7
  have e3 : (hiF t (a.take k)).length < (hiF t (a.take i)).length := by
    have s := hiF_step (a := a) t hk2
    have m := take_mono (t := t) (b := a) (show k + 1 ≤ i by omega)
    have hne : xO (a.getD k []) ≠ xU (a.getD k []) := by rw [getD_at hk2]; exact ha _ (List.getElem_mem hk2)
    have c : (ctR t (a.getD k [])).length = 1 := by
      rcases h1 with h1 | h1
      · rw [ctR_O h1 (fun e => hne (h1.trans e.symm))]; rfl
      · rw [ctR_U (fun e => hne (e.trans h1.symm)) h1]; rfl
    omega
  rcases Nat.lt_or_ge (piI a b k) (piI a b i) with h | h
  · exact h
  · have := take_mono (t := t) (b := b) h
    rw [e1, e2] at this
    omega
theorem rng_get {m i : Nat} (f : Nat → Int) (h : i < m) : ((List.range' 0 m).map f).getD i 0 = f i := by
  rw [List.getD_eq_getElem?_getD, List.getElem?_map, List.getElem?_range' h]
  simp
theorem kpt_all {a b : List (List U)} (ha : Two a) (hb : Two b) (hh : ∀ t, hiF t b = hiF t a) : Kpt a b ((List.range' 0 a.length).map (fun k : Nat => (k : Int))) ((List.range' 0 a.length).map (fun k : Nat => (piI a b k : Int))) := by
  refine ⟨by simp, fun i hi => ?_⟩
  have hi : i < a.length := by simpa using hi
  obtain ⟨p1, p2, p3, p4, p5, p6, p7⟩ := piI_ok ha hb hh hi
  rw [rng_get _ hi, rng_get _ hi]
  simp only [show ∀ k : Nat, ((k : Int)).toNat = k from fun _ => rfl]
  refine ⟨by omega, by omega, by omega, by omega, fun h0 => by rw [rng_get _ (by omega)]; omega, p4.symm, p5.symm, fun k hk => ?_⟩
  have hk2 : k < a.length := by omega
  obtain ⟨q1, q2, q3, q4, q5, q6, q7⟩ := piI_ok ha hb hh hk2
  rw [rng_get _ hk2]
  simp only [show ∀ k : Nat, ((k : Int)).toNat = k from fun _ => rfl]
  cases hs : shrB (b.getD (piI a b k) []) (b.getD (piI a b i) []) with
  | false =>
    refine ⟨fun e => ?_, fun h => by cases h⟩
    have e : piI a b k = piI a b i := by omega
    rw [e] at hs
    exact (shrB_f.1 hs).1 rfl
  | true =>
    have key : ∃ t, (xO (a.getD k []) = t ∨ xU (a.getD k []) = t) ∧ (xO (a.getD i []) = t ∨ xU (a.getD i []) = t) := by
      apply Classical.byContradiction
      intro hn
      have hs2 : shrB (b.getD (piI a b k) []) (b.getD (piI a b i) []) = false := shrB_f.2 (by
        rw [p4, p5, q4, q5]
        exact ⟨fun e => hn ⟨_, .inl rfl, .inl e.symm⟩, fun e => hn ⟨_, .inl rfl, .inr e.symm⟩, fun e => hn ⟨_, .inr rfl, .inl e.symm⟩, fun e => hn ⟨_, .inr rfl, .inr e.symm⟩⟩)
      rw [hs] at hs2; cases hs2
    obtain ⟨t, h1, h2⟩ := key
    have := piI_lt ha hb hh hi hk h1 h2
    exact ⟨by omega, fun _ => by omega⟩
end Go.Proofs.Ytonbfalbfdkieaa.Ev
namespace Go.Proofs.Ytonbfalbfdkieaa.Ev

def Tu (z' z : List U) : Prop := xW z' = xW z ∧ xA z' = xA z ∧ xO z' = xU z ∧ xU z' = xO z
theorem enB_tu {l : List Int} {z z' : List U} (h : Tu z' z) : enB l z' = enB l z := by
  apply Bool.eq_iff_iff.2
  rw [enB_iff, enB_iff, h.2.1, h.2.2.1, h.2.2.2]
  exact or_comm
theorem enF_tu {l2 : List (List U)} {z z' : List U} (h : Tu z' z) {l1 : List (List U)} {l : List Int} (k : enF l (l1 ++ z :: l2) = true) : enF l (l1 ++ z' :: l2) = true := by
  obtain ⟨g1, g2⟩ := (enF_app l1 l).1 k
  refine (enF_app l1 l).2 ⟨g1, ?_⟩
  rw [enF_cons] at g2 ⊢
  rw [enB_tu h, h.2.1]
  exact g2
theorem set_split {b : List (List U)} {k : Nat} (h : k < b.length) (z : List U) : b.set k z = b.take k ++ z :: b.drop (k + 1) := by
  rw [List.set_eq_take_append_cons_drop, if_pos h]
theorem at_split {b : List (List U)} {k : Nat} (h : k < b.length) : b = b.take k ++ b.getD k [] :: b.drop (k + 1) := by
  rw [getD_at h, List.getElem_cons_drop, List.take_append_drop]
theorem chk_tu {n : Nat} {b P : List (List U)} {k : Nat} {z' : List U} (hk : k < b.length) (hz : Tu z' (b.getD k [])) (hc : chk17 n b P = 0) : chk17 n (b.set k z') P = 0 := by
  obtain ⟨c1, c2, c3, c4, c5, c6, c7⟩ := chk17_ok hc
  have he := chk17_en hc
  have hl : (b.set k z').length = b.length := by simp
  have hs := set_split hk z'
  have ha := at_split hk
  have he2 : enF (lnI n) (b.set k z') = true := by
    rw [hs]
    exact enF_tu hz (by rw [← ha]; exact he)
  have ho : (b.set k z').all (okX n) = true := by
    rw [List.all_eq_true] at c6 ⊢
    intro r hr
    rcases List.mem_or_eq_of_mem_set hr with h | h
    · exact c6 r h
    · have := c6 _ (List.getElem_mem hk)
      rw [h]
      rw [getD_at hk] at hz
      unfold okX at this ⊢
      rw [hz.1, hz.2.1]
      exact this
  unfold chk17 numB
  rw [hl, ho, c7, df (show ¬ 48 < (n : Int) by omega), df (show ¬ 20000 < (b.length : Int) by omega), df (show ¬ 6400 < (P.length : Int) by omega), dt c1, bc_f, bc_f, bc_f, bc_t, bc_t, bc_t]
  rw [show ((n : Int)).toNat = n from rfl, he2]; rfl
theorem paF_pre {x y : List U} {R S : List (List U)} (h1 : mT x = mT y) (h2 : mV x ≠ mV y) : ∀ (L : List (List U)) (i : Nat), paF i (L ++ x :: R) (L ++ y :: S) = (((i + L.length : Nat) : Int), 2, true)
  | [], i => by
    show paF i (x :: R) (y :: S) = _
    unfold paF
    rw [show (mT x != mT y) = false by simp [h1], bc_f, show (mV x != mV y) = true by simp [h2], bc_t]
    rfl
  | e :: L, i => by
    show paF i (e :: (L ++ x :: R)) (e :: (L ++ y :: S)) = _
    unfold paF
    rw [show (mT e != mT e) = false by simp, bc_f, show (mV e != mV e) = false by simp, bc_f, paF_pre h1 h2 L (i + 1)]
    rw [List.length_cons, show i + 1 + L.length = i + (L.length + 1) by omega]
theorem fiF_add (X Y : List (List U)) : ∀ (k t m : Nat), fiF X Y t (k + m) = fiF X Y t k ++ fiF X Y (t + k) m
  | 0, t, m => by rw [show 0 + m = m by omega]; rfl
  | k + 1, t, m => by
    rw [show k + 1 + m = (k + m) + 1 by omega]
    unfold fiF
    rw [fiF_add X Y k (t + 1) m, List.append_assoc, show t + 1 + k = t + (k + 1) by omega]
    cases m <;> rfl
theorem fiF_no {X Y : List (List U)} : ∀ (k t : Nat), (∀ s : Nat, t ≤ s → s < t + k → hiF s X = hiF s Y) → fiF X Y t k = []
  | 0, _, _ => rfl
  | k + 1, t, h => by
    unfold fiF
    rw [fiF_no k (t + 1) (fun s h1 h2 => h s (by omega) (by omega)), h t (Nat.le_refl _) (by omega)]
    have e : (paF 0 (hiF t Y) (hiF t Y)).2.2 = false := by rw [paF_meB, meB_refl]; rfl
    rw [e]; rfl
theorem fiF_one {X Y : List (List U)} {t : Nat} {p : Nat} (h : paF 0 (hiF t X) (hiF t Y) = ((p : Int), 2, true)) : fiF X Y t 1 = [[.i t, .i p, .i 2]] := by
  show bc (paF 0 (hiF t X) (hiF t Y)).2.2 _ [] ++ [] = _
  rw [h]; rfl
theorem sameF_all {X Y : List (List U)} (h : ∀ t, hiF t Y = hiF t X) : ∀ (k t : Nat), sameF X Y t k = true
  | 0, _ => rfl
  | k + 1, t => by
    unfold sameF
    rw [h, meB_refl, bc_t]
    exact sameF_all h k (t + 1)
theorem sameF_no {X Y : List (List U)} : ∀ (k t s : Nat), t ≤ s → s < t + k → meB (hiF s X) (hiF s Y) = false → sameF X Y t k = false
  | 0, t, s, h1, h2, _ => by omega
  | k + 1, t, s, h1, h2, h => by
    unfold sameF
    by_cases e : t = s
    · subst e; rw [h]; rfl
    · rw [sameF_no k (t + 1) s (by omega) (by omega) h]
      cases meB (hiF t X) (hiF t Y) <;> rfl

theorem turned {n : Nat} {a b : List (List U)} {k : Nat} {z' : List U} (hb : Two b) (tb : thrs n b) (hh : ∀ t, hiF t b = hiF t a) (hk : k < b.length) (hz : Tu z' (b.getD k [])) : ∃ p q : Nat, fiF a (b.set k z') 0 n = [[.i (min (xO (b.getD k [])) (xU (b.getD k []))), .i p, .i 2], [.i (max (xO (b.getD k [])) (xU (b.getD k []))), .i q, .i 2]] ∧ sameF a (b.set k z') 0 n = false := by
  have hs := set_split hk z'
  have ha := at_split hk
  have hne := hb _ (List.getElem_mem hk)
  obtain ⟨o1, o2, u1, u2⟩ := tb _ (List.getElem_mem hk)
  rw [← getD_at (d := []) hk] at hne o1 o2 u1 u2
  obtain ⟨z1, z2, z3, z4⟩ := hz
  generalize hzz : b.getD k [] = z at *
  have h1 : ∀ t, hiF t a = hiF t (b.take k) ++ (ctR t z ++ hiF t (b.drop (k + 1))) := fun t => by
    rw [← hh t]
    conv => lhs; rw [ha]
    rw [hiF_app, hiF_cons]
  have h2 : ∀ t, hiF t (b.set k z') = hiF t (b.take k) ++ (ctR t z' ++ hiF t (b.drop (k + 1))) := fun t => by
    rw [hs, hiF_app, hiF_cons]
  have no : ∀ t, xO z ≠ t → xU z ≠ t → hiF t a = hiF t (b.set k z') := fun t e1 e2 => by
    rw [h1, h2, ctR_no e1 e2, ctR_no (by rw [z3]; exact e2) (by rw [z4]; exact e1)]
  have yO : paF 0 (hiF (xO z) a) (hiF (xO z) (b.set k z')) = (((hiF (xO z) (b.take k)).length : Int), 2, true) := by
    rw [h1, h2, ctR_O rfl (fun e => hne e.symm), ctR_U (by rw [z3]; exact fun e => hne e.symm) z4]
    have m1 : mT (mO z) = mT (mU z') := by show xU z = xO z'; exact z3.symm
    have m2 : mV (mO z) ≠ mV (mU z') := fun e => by cases e
    have := paF_pre (R := hiF (xO z) (b.drop (k + 1))) (S := hiF (xO z) (b.drop (k + 1))) m1 m2 (hiF (xO z) (b.take k)) 0
    rw [Nat.zero_add] at this
    exact this
  have yU : paF 0 (hiF (xU z) a) (hiF (xU z) (b.set k z')) = (((hiF (xU z) (b.take k)).length : Int), 2, true) := by
    rw [h1, h2, ctR_U hne rfl, ctR_O z3 (by rw [z4]; exact hne)]
    have m1 : mT (mU z) = mT (mO z') := by show xO z = xU z'; exact z4.symm
    have m2 : mV (mU z) ≠ mV (mO z') := fun e => by cases e
    have := paF_pre (R := hiF (xU z) (b.drop (k + 1))) (S := hiF (xU z) (b.drop (k + 1))) m1 m2 (hiF (xU z) (b.take k)) 0
    rw [Nat.zero_add] at this
    exact this
  obtain ⟨o, ho⟩ := Int.eq_ofNat_of_zero_le o1
  obtain ⟨u, hu⟩ := Int.eq_ofNat_of_zero_le u1
  rw [ho] at no yO hne o2
  rw [hu] at no yU hne u2
  rw [ho, hu]
  have two : ∀ (l h p q : Nat), l < h → h < n → (∀ t : Nat, t ≠ l → t ≠ h → hiF t a = hiF t (b.set k z')) → paF 0 (hiF l a) (hiF l (b.set k z')) = ((p : Int), 2, true) → paF 0 (hiF h a) (hiF h (b.set k z')) = ((q : Int), 2, true) → fiF a (b.set k z') 0 n = [[.i l, .i p, .i 2], [.i h, .i q, .i 2]] := fun l h p q lh hn g1 g2 g3 => by
    have e : n = l + (1 + ((h - l - 1) + (1 + (n - h - 1)))) := by omega
    rw [e, fiF_add, fiF_add, fiF_add, fiF_add, fiF_no l 0 (fun s _ h2 => g1 s (by omega) (by omega)), Nat.zero_add, fiF_one g2, fiF_no (h - l - 1) (l + 1) (fun s h1 h2 => g1 s (by omega) (by omega)), show l + 1 + (h - l - 1) = h by omega, fiF_one g3, fiF_no (n - h - 1) (h + 1) (fun s h1 h2 => g1 s (by omega) (by omega))]
    rfl
  have hS : sameF a (b.set k z') 0 n = false := sameF_no n 0 o (Nat.zero_le _) (by omega) (by
    have := paF_meB 0 (hiF o a) (hiF o (b.set k z'))
    rw [yO] at this
    simpa using this.symm)
  have ne2 : o ≠ u := fun e => hne (by rw [e])
  rcases Nat.lt_or_ge o u with h | h
  · rw [Int.min_eq_left (by omega), Int.max_eq_right (by omega)]
    exact ⟨_, _, two o u _ _ h (by omega) (fun t e1 e2 => no t (by omega) (by omega)) yO yU, hS⟩
  · rw [Int.min_eq_right (by omega), Int.max_eq_left (by omega)]
    exact ⟨_, _, two u o _ _ (by omega) (by omega) (fun t e1 e2 => no t (by omega) (by omega)) yU yO, hS⟩
end Go.Proofs.Ytonbfalbfdkieaa.Ev
namespace Go.Proofs.Ytonbfalbfdkieaa.Ev
open Go.Proofs
def In16 (l : List Int) : Prop := ∀ j : Nat, 0 ≤ l.getD j 0 ∧ l.getD j 0 < 65536
theorem tmod_nat (m n : Nat) : Int.tmod (m : Int) (n : Int) = ((m % n : Nat) : Int) := rfl
namespace LExc
theorem step {n : Int} {P q : List (List U)} {l : List Int} {i : Nat} (hi : i < l.length) (hl : l.length ≤ 1000) (hq : q.length ≤ 20000) (h16 : In16 l) (h1 : 1 < q.length) : RUN (stOf (sE n P q l q.length i)) = .at (sE n P (exS (l.getD i 0) q) l q.length (i + 1 : Nat)) := by
  have h := step_t n P q l q.length i
  obtain ⟨a1, a2⟩ := h16 i
  rw [to_nat] at h
  unfold exS
  obtain ⟨a, ha⟩ := Int.eq_ofNat_of_zero_le a1
  rw [ha] at h ⊢
  have w1 : IntKind.wrap IntKind.i64 (a : Int) = (a : Int) := wrap_in _ (by omega) (by omega)
  have w2 : IntKind.wrap IntKind.i64 (Int.ofNat q.length - 1) = ((q.length - 1 : Nat) : Int) := by
    rw [wrap_in _ (by rw [ofn]; omega) (by rw [ofn]; omega), ofn]; omega
  have hm : a % (q.length - 1) < q.length - 1 := Nat.mod_lt _ (by omega)
  have w3 : IntKind.wrap IntKind.i64 (((a % (q.length - 1) : Nat) : Int) + 1) = ((a % (q.length - 1) + 1 : Nat) : Int) := wrap_in _ (by omega) (by omega)
  rw [w1, w2, tmod_nat, w3] at h
  have w4 : (((q.length - 1 : Nat) : Int) == 0) = false := by simp; omega
  rw [w4] at h
  rw [show ((a : Int)).toNat = a from rfl]
  generalize hk : a % (q.length - 1) = k at *
  have f0 : ∀ r : List U, U.int (List.getD r 0 (U.i 0)) = xW r := fun _ => rfl
  have f1 : ∀ r : List U, U.int (List.getD r (Nat.succ 0) (U.i 0)) = xA r := fun _ => rfl
  have f2 : ∀ r : List U, U.int (List.getD r (Nat.succ (Nat.succ 0)) (U.i 0)) = xO r := fun _ => rfl
  have f3 : ∀ r : List U, U.int (List.getD r (Nat.succ (Nat.succ (Nat.succ 0))) (U.i 0)) = xU r := fun _ => rfl
  simp only [f0, f1, f2, f3, to_nat] at h
  have fn : ∀ r : List U, [U.i (xW r), U.i (xA r), U.i (xO r), U.i (xU r)] = nrm r := fun _ => rfl
  simp only [fn] at h
  generalize hx : q.getD k [] = x at *
  generalize hy : q.getD (k + 1) [] = y at *
  rw [dt h1, bc_t]
  unfold shrB
  simp (disch := omega) only [Nat.add_eq, eqSy_self, eqN_self, bc_same, List.length_cons, ofn, wrap_in, dt, df, bltD, bltN, ble_of, bleN, beqD, bc_t, bc_f, nn_ok, Nat.zero_add, to_nat, Int.zero_add, Int.sub_zero, Int.sub_self, Int.cast_ofNat_Int, Int.natCast_zero, Int.toNat_zero, List.take_zero, List.nil_append, List.length_append, List.length_nil, bnot, List.length_set, decide_true, Bool.not_true, Bool.not_false] at h
  cases g1 : (xO x == xO y) <;> rw [g1] at h
  · cases g2 : (xO x == xU y) <;> rw [g2] at h
    · cases g3 : (xU x == xO y) <;> rw [g3] at h
      · cases g4 : (xU x == xU y) <;> rw [g4] at h
        · exact h
        · exact h
      · exact h
    · exact h
  · exact h
theorem exF_small {q : List (List U)} (h : q.length ≤ 1) : ∀ l : List Int, exF l q = q
  | [] => rfl
  | a :: l => by
    show exF l (exS a q) = q
    have e : exS a q = q := by unfold exS; rw [df (by omega), bc_f]
    rw [e]
    exact exF_small h l
noncomputable abbrev re (n : Int) (P q : List (List U)) : EV := .agg [iv n, .slO 0 4 q.length true, .lst (.recs [.int .i64, .int .i64, .int .i64, .int .i64] P)]
noncomputable abbrev reK (q : List (List U)) : List ZS := [(0, 71, .recs [.int .i64, .int .i64, .int .i64, .int .i64] q, true)]
theorem loop {n : Int} {P : List (List U)} {l : List Int} (hl : l.length ≤ 1000) (h16 : In16 l) : ∀ (k i : Nat) (q : List (List U)), i + k = l.length → q.length ≤ 20000 → EndZ 46 .nil true (stOf (sE n P q l q.length i)) (re n P (exF (l.drop i) q)) (zseqs (reK (exF (l.drop i) q))) 1
  | 0, i, q, h, hq => by
    have h1 := step_t n P q l q.length i
    rw [List.drop_eq_nil_of_le (by omega)]
    simp (disch := omega) only [Nat.add_eq, eqSy_self, eqN_self, bc_same, List.length_cons, ofn, wrap_in, dt, df, bltD, bltN, ble_of, bleN, beqD, bc_t, bc_f, nn_ok, Nat.zero_add, to_nat, Int.zero_add, Int.sub_zero, Int.sub_self, Int.cast_ofNat_Int, Int.natCast_zero, Int.toNat_zero, List.take_zero, List.nil_append, List.length_append, List.length_nil] at h1
    exact .done h1
  | k + 1, i, q, h, hq => by
    have hi : i < l.length := by omega
    by_cases h2 : 1 < q.length
    · have h1 := step (n := n) (P := P) hi hl hq h16 h2
      have ih := loop (n := n) (P := P) hl h16 k (i + 1) (exS (l.getD i 0) q) (by omega) (by rw [exS_len]; exact hq)
      rw [exS_len] at ih
      rw [List.drop_eq_getElem_cons hi, ← getD_at (d := 0) hi]
      exact .at (.nil _) h1 ih
    · have h1 := step_t n P q l q.length i
      rw [exF_small (by omega)]
      simp (disch := omega) only [Nat.add_eq, eqSy_self, eqN_self, bc_same, List.length_cons, ofn, wrap_in, dt, df, bltD, bltN, ble_of, bleN, beqD, bc_t, bc_f, nn_ok, Nat.zero_add, to_nat, Int.zero_add, Int.sub_zero, Int.sub_self, Int.cast_ofNat_Int, Int.natCast_zero, Int.toNat_zero, List.take_zero, List.nil_append, List.length_append, List.length_nil] at h1
      exact .done h1
end LExc
noncomputable instance (l : List Int) : Decidable (In16 l) := Classical.propDecidable _
theorem LExc.ends {n : Int} {X P : List (List U)} {l : List Int} (h1 : X.length ≤ 20000) (h2 : l.length ≤ 1000) (h3 : In16 l) : EndZ 46 .nil true (st0 46 [clE n X P, .lst (.ints .u16 l)]) (LExc.re n P (exF l X)) (zseqs (LExc.reK (exF l X))) 1 := by
  have h := LExc.in_t n X P l
  simp (disch := omega) only [Nat.add_eq, eqSy_self, eqN_self, bc_same, List.length_cons, ofn, wrap_in, dt, df, bltD, bltN, ble_of, bleN, beqD, bc_t, bc_f, nn_ok, Nat.zero_add, to_nat, Int.zero_add, Int.sub_zero, Int.sub_self, Int.cast_ofNat_Int, Int.natCast_zero, Int.toNat_zero, List.take_zero, List.nil_append, List.length_append, List.length_nil, decide_true] at h
  exact .at (.nil _) h (LExc.loop h2 h3 l.length 0 X (by omega) h1)
end Go.Proofs.Ytonbfalbfdkieaa.Ev
namespace Go.Proofs.Ytonbfalbfdkieaa.Ev
open Go.Proofs
noncomputable def spExc : ZCT := fun ax => match ax with
  | [.agg [.v (.int .i64 n), .lst (.recs [.int .i64, .int .i64, .int .i64, .int .i64] X), .lst (.recs [.int .i64, .int .i64, .int .i64, .int .i64] P)], .lst (.ints .u16 l)] => some ⟨decide (X.length ≤ 20000 ∧ l.length ≤ 1000 ∧ In16 l), LExc.re n P (exF l X), LExc.reK (exF l X), 1⟩
  | _ => none
theorem spExc_ok : ZCtOk Try.prog 46 spExc := fun γ w us ax r hs hc hax hN hfz => by
  unfold spExc at hs
  split at hs
  case h_2 => cases hs
  rename_i n X P l
  obtain ⟨rfl⟩ := Option.some.inj hs
  have hc_0 : decide (X.length ≤ 20000 ∧ l.length ≤ 1000 ∧ In16 l) = true := hc
  have hc := of_decide_eq_true hc_0
  exact EndZ.calls (LExc.ends hc.1 hc.2.1 hc.2.2) (.nil _) (by kernel_rfl) hax hN hfz
end Go.Proofs.Ytonbfalbfdkieaa.Ev
namespace Go.Proofs.Ytonbfalbfdkieaa.Ev
open Go.Proofs
noncomputable def shI (o u o2 u2 : Int) : Bool := bc (o == o2) true (bc (o == u2) true (bc (u == o2) true (u == u2)))
namespace LShr
noncomputable def RUN (s : ES) : ZF := RZ 115 .nil (fun _ => false) [] [] false s
theorem in0_t (w a o u w2 a2 o2 u2 : Int) : RUN (st0 115 [EV.agg [.v (.int .i64 w), .v (.int .i64 a), .v (.int .i64 o), .v (.int .i64 u)], EV.agg [.v (.int .i64 w2), .v (.int .i64 a2), .v (.int .i64 o2), .v (.int .i64 u2)]]) = (bc (o == o2) (.done (EV.v (Value.bool true)) [] 0) (bc (o == u2) (.done (EV.v (Value.bool true)) [] 0) (bc (u == o2) (.done (EV.v (Value.bool true)) [] 0) (.done (EV.v (Value.bool (u == u2))) [] 0)))) := by kernel_rfl
theorem in1_t (w a o u w2 a2 o2 u2 : Int) : RUN (st0 115 [EV.v (.agg (Array.mk [.int .i64 w, .int .i64 a, .int .i64 o, .int .i64 u])), EV.agg [.v (.int .i64 w2), .v (.int .i64 a2), .v (.int .i64 o2), .v (.int .i64 u2)]]) = (bc (o == o2) (.done (EV.v (Value.bool true)) [] 0) (bc (o == u2) (.done (EV.v (Value.bool true)) [] 0) (bc (u == o2) (.done (EV.v (Value.bool true)) [] 0) (.done (EV.v (Value.bool (u == u2))) [] 0)))) := by kernel_rfl
theorem in2_t (w a o u w2 a2 o2 u2 : Int) : RUN (st0 115 [EV.agg [.v (.int .i64 w), .v (.int .i64 a), .v (.int .i64 o), .v (.int .i64 u)], EV.v (.agg (Array.mk [.int .i64 w2, .int .i64 a2, .int .i64 o2, .int .i64 u2]))]) = (bc (o == o2) (.done (EV.v (Value.bool true)) [] 0) (bc (o == u2) (.done (EV.v (Value.bool true)) [] 0) (bc (u == o2) (.done (EV.v (Value.bool true)) [] 0) (.done (EV.v (Value.bool (u == u2))) [] 0)))) := by kernel_rfl
theorem in3_t (w a o u w2 a2 o2 u2 : Int) : RUN (st0 115 [EV.v (.agg (Array.mk [.int .i64 w, .int .i64 a, .int .i64 o, .int .i64 u])), EV.v (.agg (Array.mk [.int .i64 w2, .int .i64 a2, .int .i64 o2, .int .i64 u2]))]) = (bc (o == o2) (.done (EV.v (Value.bool true)) [] 0) (bc (o == u2) (.done (EV.v (Value.bool true)) [] 0) (bc (u == o2) (.done (EV.v (Value.bool true)) [] 0) (.done (EV.v (Value.bool (u == u2))) [] 0)))) := by kernel_rfl
theorem fin {s : ES} {o u o2 u2 : Int} (h : RUN s = bc (o == o2) (.done (bv true) [] 0) (bc (o == u2) (.done (bv true) [] 0) (bc (u == o2) (.done (bv true) [] 0) (.done (bv (u == u2)) [] 0)))) : EndZ 115 .nil false s (bv (shI o u o2 u2)) [] 0 := by
  unfold shI
  cases h1 : (o == o2) <;> rw [h1] at h
  · cases h2 : (o == u2) <;> rw [h2] at h
    · cases h3 : (u == o2) <;> rw [h3] at h
      · exact .done h
      · exact .done h
    · exact .done h
  · exact .done h
end LShr
noncomputable def spShr_0 : ZCT := fun ax => match ax with
  | [.agg [.v (.int .i64 w), .v (.int .i64 a), .v (.int .i64 o), .v (.int .i64 u)], .agg [.v (.int .i64 w2), .v (.int .i64 a2), .v (.int .i64 o2), .v (.int .i64 u2)]] => some ⟨decide (True), bv (shI o u o2 u2), [], 0⟩
  | _ => none
theorem spShr_0_ok : ZCtOk Try.prog 115 spShr_0 := fun γ w us ax r hs hc hax hN hfz => by
  unfold spShr_0 at hs
  split at hs
  case h_2 => cases hs
  rename_i w a o u w2 a2 o2 u2
  obtain ⟨rfl⟩ := Option.some.inj hs
  have hc_0 : decide (True) = true := hc
  have hc := of_decide_eq_true hc_0
  exact EndZ.calls (LShr.fin (LShr.in0_t w a o u w2 a2 o2 u2)) (.nil _) (by kernel_rfl) hax hN hfz
noncomputable def spShr_1 : ZCT := fun ax => match ax with
  | [.v (.agg (Array.mk [.int .i64 w, .int .i64 a, .int .i64 o, .int .i64 u])), .agg [.v (.int .i64 w2), .v (.int .i64 a2), .v (.int .i64 o2), .v (.int .i64 u2)]] => some ⟨decide (True), bv (shI o u o2 u2), [], 0⟩
  | _ => none
theorem spShr_1_ok : ZCtOk Try.prog 115 spShr_1 := fun γ w us ax r hs hc hax hN hfz => by
  unfold spShr_1 at hs
  split at hs
  case h_2 => cases hs
  rename_i w a o u w2 a2 o2 u2
  obtain ⟨rfl⟩ := Option.some.inj hs
  have hc_0 : decide (True) = true := hc
  have hc := of_decide_eq_true hc_0
  exact EndZ.calls (LShr.fin (LShr.in1_t w a o u w2 a2 o2 u2)) (.nil _) (by kernel_rfl) hax hN hfz
noncomputable def spShr_2 : ZCT := fun ax => match ax with
  | [.agg [.v (.int .i64 w), .v (.int .i64 a), .v (.int .i64 o), .v (.int .i64 u)], .v (.agg (Array.mk [.int .i64 w2, .int .i64 a2, .int .i64 o2, .int .i64 u2]))] => some ⟨decide (True), bv (shI o u o2 u2), [], 0⟩
  | _ => none
theorem spShr_2_ok : ZCtOk Try.prog 115 spShr_2 := fun γ w us ax r hs hc hax hN hfz => by
  unfold spShr_2 at hs
  split at hs
  case h_2 => cases hs
  rename_i w a o u w2 a2 o2 u2
  obtain ⟨rfl⟩ := Option.some.inj hs
  have hc_0 : decide (True) = true := hc
  have hc := of_decide_eq_true hc_0
  exact EndZ.calls (LShr.fin (LShr.in2_t w a o u w2 a2 o2 u2)) (.nil _) (by kernel_rfl) hax hN hfz
noncomputable def spShr_3 : ZCT := fun ax => match ax with
  | [.v (.agg (Array.mk [.int .i64 w, .int .i64 a, .int .i64 o, .int .i64 u])), .v (.agg (Array.mk [.int .i64 w2, .int .i64 a2, .int .i64 o2, .int .i64 u2]))] => some ⟨decide (True), bv (shI o u o2 u2), [], 0⟩
  | _ => none
theorem spShr_3_ok : ZCtOk Try.prog 115 spShr_3 := fun γ w us ax r hs hc hax hN hfz => by
  unfold spShr_3 at hs
  split at hs
  case h_2 => cases hs
  rename_i w a o u w2 a2 o2 u2
  obtain ⟨rfl⟩ := Option.some.inj hs
  have hc_0 : decide (True) = true := hc
  have hc := of_decide_eq_true hc_0
  exact EndZ.calls (LShr.fin (LShr.in3_t w a o u w2 a2 o2 u2)) (.nil _) (by kernel_rfl) hax hN hfz
noncomputable def spShr : ZCT := ZCT.or spShr_0 (ZCT.or spShr_1 (ZCT.or spShr_2 (spShr_3)))
theorem spShr_ok : ZCtOk Try.prog 115 spShr := spShr_0_ok.or (spShr_1_ok.or (spShr_2_ok.or (spShr_3_ok)))
noncomputable def ctSh : Tr ZCC := Tr.nil.put 115 (some (dC spShr))
theorem ctSh_ok : ZCtsOk Try.prog ctSh := (ZCtsOk.nil _).add rfl spShr_ok
end Go.Proofs.Ytonbfalbfdkieaa.Ev
namespace Go.Proofs.Ytonbfalbfdkieaa.Ev
open Go.Proofs
namespace LKpt
noncomputable def RUN (s : ES) : ZF := RZs 49 ctSh [(atS 0 49 4, [[(2,none),(3,none),(4,none),(5,none),(9,none)]]), (atS 0 49 12, [[(2,none),(3,none),(4,none),(5,none),(9,none),(11,none),(12,none)]])] [] false s

noncomputable def sO (n m : Int) (X P Y Q : List (List U)) (x y : List Int) (i : Int) : NS := ⟨[⟨49, 137, [(2, (EV.lst (SyC.ints IntKind.i64 (x)))), (3, (EV.lst (SyC.ints IntKind.i64 (y)))), (4, (EV.ptr 0 0)), (5, (EV.ptr 1 0)), (9, iv i)], [.it (.code (nav [1, 1, 0, 1, 0, 0, 0] (bodyOf Try.f49))), .it (.code (nav [1, 1, 0, 1, 0, 0, 1] (bodyOf Try.f49))), .it (.inLoop (nav [1, 1, 0, 1, 0, 0] (bodyOf Try.f49))), .it (.inBlock 0), .it (.code (nav [1, 1, 1] (bodyOf Try.f49)))], [], Option.none⟩], [(0, (EK.cells 25 [(EV.v (Value.int IntKind.i64 (n))), (EV.lst (SyC.recs [(Sh.int IntKind.i64), (Sh.int IntKind.i64), (Sh.int IntKind.i64), (Sh.int IntKind.i64)] (X))), (EV.lst (SyC.recs [(Sh.int IntKind.i64), (Sh.int IntKind.i64), (Sh.int IntKind.i64), (Sh.int IntKind.i64)] (P)))] true)), (1, (EK.cells 25 [(EV.v (Value.int IntKind.i64 (m))), (EV.lst (SyC.recs [(Sh.int IntKind.i64), (Sh.int IntKind.i64), (Sh.int IntKind.i64), (Sh.int IntKind.i64)] (Y))), (EV.lst (SyC.recs [(Sh.int IntKind.i64), (Sh.int IntKind.i64), (Sh.int IntKind.i64), (Sh.int IntKind.i64)] (Q)))] true))], 2⟩
noncomputable def sI (n m : Int) (X P Y Q : List (List U)) (x y : List Int) (w a o u : Int) (i k : Int) : NS := ⟨[⟨49, 137, [(2, (EV.lst (SyC.ints IntKind.i64 (x)))), (3, (EV.lst (SyC.ints IntKind.i64 (y)))), (4, (EV.ptr 0 0)), (5, (EV.ptr 1 0)), (9, (EV.v (Value.int IntKind.i64 (i)))), (11, (EV.ptr 2 0)), (12, iv k)], [.it (.code (nav [1, 1, 0, 1, 0, 0, 1, 0, 0, 1, 1, 1, 1, 0, 0, 0] (bodyOf Try.f49))), .it (.code (nav [1, 1, 0, 1, 0, 0, 1, 0, 0, 1, 1, 1, 1, 0, 0, 1] (bodyOf Try.f49))), .it (.inLoop (nav [1, 1, 0, 1, 0, 0, 1, 0, 0, 1, 1, 1, 1, 0, 0] (bodyOf Try.f49))), .it (.inBlock 2), .it (.inBlock 1), .it (.code (nav [1, 1, 0, 1, 0, 0, 1, 1] (bodyOf Try.f49))), .it (.inLoop (nav [1, 1, 0, 1, 0, 0] (bodyOf Try.f49))), .it (.inBlock 0), .it (.code (nav [1, 1, 1] (bodyOf Try.f49)))], [], Option.none⟩], [(0, (EK.cells 25 [(EV.v (Value.int IntKind.i64 (n))), (EV.lst (SyC.recs [(Sh.int IntKind.i64), (Sh.int IntKind.i64), (Sh.int IntKind.i64), (Sh.int IntKind.i64)] (X))), (EV.lst (SyC.recs [(Sh.int IntKind.i64), (Sh.int IntKind.i64), (Sh.int IntKind.i64), (Sh.int IntKind.i64)] (P)))] true)), (1, (EK.cells 25 [(EV.v (Value.int IntKind.i64 (m))), (EV.lst (SyC.recs [(Sh.int IntKind.i64), (Sh.int IntKind.i64), (Sh.int IntKind.i64), (Sh.int IntKind.i64)] (Y))), (EV.lst (SyC.recs [(Sh.int IntKind.i64), (Sh.int IntKind.i64), (Sh.int IntKind.i64), (Sh.int IntKind.i64)] (Q)))] true)), (2, EK.cells 71 [iv w, iv a, iv o, iv u] true)], 3⟩
theorem in_t (n m : Int) (X P Y Q : List (List U)) (x y : List Int) : RUN (st0 49 [clE n X P, clE m Y Q, il x, il y]) = (bc (Int.ofNat (List.length x) != Int.ofNat (List.length y)) (.done (EV.v (Value.bool false)) [] 0) (.at (sO (n) (m) (X) (P) (Y) (Q) (x) (y) ((0 : Int))))) := by kernel_rfl
theorem o_t (n m : Int) (X P Y Q : List (List U)) (x y : List Int) (i : Int) : RUN (stOf (sO n m X P Y Q x y i)) = (bc (decide (i < Int.ofNat (List.length x))) (bc (decide (List.getD x (Int.toNat i) (0 : Int) < (0 : Int))) (bc (bc (bc (bc (bc (decide ((0 : Int) ≤ i)) (Nat.blt (Int.toNat i) (List.length x)) false) true false) (bc (bc (Nat.blt (Int.toNat i) (List.length x)) true false) (bc (eqB (decide (List.getD x (Int.toNat i) (0 : Int) < (0 : Int))) true) true false) false) false) true false) (.done (EV.v (Value.bool false)) [] 0) .bad) (bc (decide (Int.ofNat (List.length X) ≤ List.getD x (Int.toNat i) (0 : Int))) (bc (bc (bc (bc (bc (decide ((0 : Int) ≤ i)) (Nat.blt (Int.toNat i) (List.length x)) false) true false) (bc (bc (Nat.blt (Int.toNat i) (List.length x)) true false) (bc (eqB (decide (List.getD x (Int.toNat i) (0 : Int) < (0 : Int))) false) (bc (bc (bc (decide ((0 : Int) ≤ i)) (Nat.blt (Int.toNat i) (List.length x)) false) true false) (bc (bc (Nat.blt (Int.toNat i) (List.length x)) true false) (bc (eqB (decide (Int.ofNat (List.length X) ≤ List.getD x (Int.toNat i) (0 : Int))) true) true false) false) false) false) false) false) true false) (.done (EV.v (Value.bool false)) [] 0) .bad) (bc (decide (List.getD y (Int.toNat i) (0 : Int) < (0 : Int))) (bc (bc (bc (bc (bc (decide ((0 : Int) ≤ i)) (Nat.blt (Int.toNat i) (List.length x)) false) true false) (bc (bc (Nat.blt (Int.toNat i) (List.length x)) true false) (bc (eqB (decide (List.getD x (Int.toNat i) (0 : Int) < (0 : Int))) false) (bc (bc (bc (decide ((0 : Int) ≤ i)) (Nat.blt (Int.toNat i) (List.length x)) false) true false) (bc (bc (Nat.blt (Int.toNat i) (List.length x)) true false) (bc (eqB (decide (Int.ofNat (List.length X) ≤ List.getD x (Int.toNat i) (0 : Int))) false) (bc (bc (bc (decide ((0 : Int) ≤ i)) (Nat.blt (Int.toNat i) (List.length y)) false) true false) (bc (bc (Nat.blt (Int.toNat i) (List.length y)) true false) (bc (eqB (decide (List.getD y (Int.toNat i) (0 : Int) < (0 : Int))) true) true false) false) false) false) false) false) false) false) false) true false) (.done (EV.v (Value.bool false)) [] 0) .bad) (bc (decide (Int.ofNat (List.length Y) ≤ List.getD y (Int.toNat i) (0 : Int))) (bc (bc (bc (bc (bc (decide ((0 : Int) ≤ i)) (Nat.blt (Int.toNat i) (List.length x)) false) true false) (bc (bc (Nat.blt (Int.toNat i) (List.length x)) true false) (bc (eqB (decide (List.getD x (Int.toNat i) (0 : Int) < (0 : Int))) false) (bc (bc (bc (decide ((0 : Int) ≤ i)) (Nat.blt (Int.toNat i) (List.length x)) false) true false) (bc (bc (Nat.blt (Int.toNat i) (List.length x)) true false) (bc (eqB (decide (Int.ofNat (List.length X) ≤ List.getD x (Int.toNat i) (0 : Int))) false) (bc (bc (bc (decide ((0 : Int) ≤ i)) (Nat.blt (Int.toNat i) (List.length y)) false) true false) (bc (bc (Nat.blt (Int.toNat i) (List.length y)) true false) (bc (eqB (decide (List.getD y (Int.toNat i) (0 : Int) < (0 : Int))) false) (bc (bc (bc (decide ((0 : Int) ≤ i)) (Nat.blt (Int.toNat i) (List.length y)) false) true false) (bc (bc (Nat.blt (Int.toNat i) (List.length y)) true false) (bc (eqB (decide (Int.ofNat (List.length Y) ≤ List.getD y (Int.toNat i) (0 : Int))) true) true false) false) false) false) false) false) false) false) false) false) false) false) true false) (.done (EV.v (Value.bool false)) [] 0) .bad) (bc (decide ((0 : Int) < i)) (bc (bc (bc (bc (bc (decide ((0 : Int) ≤ i)) (Nat.blt (Int.toNat i) (List.length x)) false) true false) (bc (bc (Nat.blt (Int.toNat i) (List.length x)) true false) (bc (eqB (decide (List.getD x (Int.toNat i) (0 : Int) < (0 : Int))) false) (bc (bc (bc (decide ((0 : Int) ≤ i)) (Nat.blt (Int.toNat i) (List.length x)) false) true false) (bc (bc (Nat.blt (Int.toNat i) (List.length x)) true false) (bc (eqB (decide (Int.ofNat (List.length X) ≤ List.getD x (Int.toNat i) (0 : Int))) false) (bc (bc (bc (decide ((0 : Int) ≤ i)) (Nat.blt (Int.toNat i) (List.length y)) false) true false) (bc (bc (Nat.blt (Int.toNat i) (List.length y)) true false) (bc (eqB (decide (List.getD y (Int.toNat i) (0 : Int) < (0 : Int))) false) (bc (bc (bc (decide ((0 : Int) ≤ i)) (Nat.blt (Int.toNat i) (List.length y)) false) true false) (bc (bc (Nat.blt (Int.toNat i) (List.length y)) true false) (bc (eqB (decide (Int.ofNat (List.length Y) ≤ List.getD y (Int.toNat i) (0 : Int))) false) (bc (eqB (decide ((0 : Int) < i)) true) (bc (bc (bc (decide ((0 : Int) ≤ i)) (Nat.blt (Int.toNat i) (List.length x)) false) true false) (bc (bc (Nat.blt (Int.toNat i) (List.length x)) true false) (bc (bc (bc (decide ((0 : Int) ≤ IntKind.wrap IntKind.i64 (i - (1 : Int)))) (Nat.blt (Int.toNat (IntKind.wrap IntKind.i64 (i - (1 : Int)))) (List.length x)) false) true false) (bc (bc (Nat.blt (Int.toNat (IntKind.wrap IntKind.i64 (i - (1 : Int)))) (List.length x)) true false) true false) false) false) false) false) false) false) false) false) false) false) false) false) false) false) false) false) true false) (bc (decide (List.getD x (Int.toNat i) (0 : Int) ≤ List.getD x (Int.toNat (IntKind.wrap IntKind.i64 (i - (1 : Int)))) (0 : Int))) (.done (EV.v (Value.bool false)) [] 0) (bc (bc (bc (bc (bc (decide ((0 : Int) ≤ i)) (Nat.blt (Int.toNat i) (List.length x)) false) true false) (bc (bc (Nat.blt (Int.toNat i) (List.length x)) true false) (bc (bc (bc (decide ((0 : Int) ≤ List.getD x (Int.toNat i) (0 : Int))) (Nat.blt (Int.toNat (List.getD x (Int.toNat i) (0 : Int))) (List.length X)) false) true false) (bc (bc (Nat.blt (Int.toNat (List.getD x (Int.toNat i) (0 : Int))) (List.length X)) true false) (bc (bc (bc (decide ((0 : Int) ≤ i)) (Nat.blt (Int.toNat i) (List.length y)) false) true false) (bc (bc (Nat.blt (Int.toNat i) (List.length y)) true false) (bc (bc (bc (decide ((0 : Int) ≤ List.getD y (Int.toNat i) (0 : Int))) (Nat.blt (Int.toNat (List.getD y (Int.toNat i) (0 : Int))) (List.length Y)) false) true false) (bc (bc (Nat.blt (Int.toNat (List.getD y (Int.toNat i) (0 : Int))) (List.length Y)) true false) true false) false) false) false) false) false) false) false) (bc (bc (bc (eqSy (SyC.recs [Sh.int IntKind.i64, Sh.int IntKind.i64, Sh.int IntKind.i64, Sh.int IntKind.i64] Y) (SyC.recs [Sh.int IntKind.i64, Sh.int IntKind.i64, Sh.int IntKind.i64, Sh.int IntKind.i64] Y)) true false) true false) true false) false) (bc (U.int (List.getD (List.getD X (Int.toNat (List.getD x (Int.toNat i) (0 : Int))) []) (Nat.succ (Nat.succ (0 : Nat))) (U.i (0 : Int))) != U.int (List.getD (List.getD Y (Int.toNat (List.getD y (Int.toNat i) (0 : Int))) []) (Nat.succ (Nat.succ (0 : Nat))) (U.i (0 : Int)))) (.done (EV.v (Value.bool false)) [] 0) (bc (U.int (List.getD (List.getD X (Int.toNat (List.getD x (Int.toNat i) (0 : Int))) []) (Nat.succ (Nat.succ (Nat.succ (0 : Nat)))) (U.i (0 : Int))) != U.int (List.getD (List.getD Y (Int.toNat (List.getD y (Int.toNat i) (0 : Int))) []) (Nat.succ (Nat.succ (Nat.succ (0 : Nat)))) (U.i (0 : Int)))) (.done (EV.v (Value.bool false)) [] 0) (.at (sI (n) (m) (X) (P) (Y) (Q) (x) (y) (U.int (List.getD (List.getD Y (Int.toNat (List.getD y (Int.toNat i) (0 : Int))) []) (0 : Nat) (U.i (0 : Int)))) (U.int (List.getD (List.getD Y (Int.toNat (List.getD y (Int.toNat i) (0 : Int))) []) (Nat.succ (0 : Nat)) (U.i (0 : Int)))) (U.int (List.getD (List.getD Y (Int.toNat (List.getD y (Int.toNat i) (0 : Int))) []) (Nat.succ (Nat.succ (0 : Nat))) (U.i (0 : Int)))) (U.int (List.getD (List.getD Y (Int.toNat (List.getD y (Int.toNat i) (0 : Int))) []) (Nat.succ (Nat.succ (Nat.succ (0 : Nat)))) (U.i (0 : Int)))) (i) ((0 : Int)))))) .bad)) .bad) (bc (bc (bc (bc (bc (decide ((0 : Int) ≤ i)) (Nat.blt (Int.toNat i) (List.length x)) false) true false) (bc (bc (Nat.blt (Int.toNat i) (List.length x)) true false) (bc (eqB (decide (List.getD x (Int.toNat i) (0 : Int) < (0 : Int))) false) (bc (bc (bc (decide ((0 : Int) ≤ i)) (Nat.blt (Int.toNat i) (List.length x)) false) true false) (bc (bc (Nat.blt (Int.toNat i) (List.length x)) true false) (bc (eqB (decide (Int.ofNat (List.length X) ≤ List.getD x (Int.toNat i) (0 : Int))) false) (bc (bc (bc (decide ((0 : Int) ≤ i)) (Nat.blt (Int.toNat i) (List.length y)) false) true false) (bc (bc (Nat.blt (Int.toNat i) (List.length y)) true false) (bc (eqB (decide (List.getD y (Int.toNat i) (0 : Int) < (0 : Int))) false) (bc (bc (bc (decide ((0 : Int) ≤ i)) (Nat.blt (Int.toNat i) (List.length y)) false) true false) (bc (bc (Nat.blt (Int.toNat i) (List.length y)) true false) (bc (eqB (decide (Int.ofNat (List.length Y) ≤ List.getD y (Int.toNat i) (0 : Int))) false) (bc (eqB (decide ((0 : Int) < i)) false) true false) false) false) false) false) false) false) false) false) false) false) false) false) true false) (bc (bc (bc (bc (bc (decide ((0 : Int) ≤ i)) (Nat.blt (Int.toNat i) (List.length x)) false) true false) (bc (bc (Nat.blt (Int.toNat i) (List.length x)) true false) (bc (bc (bc (decide ((0 : Int) ≤ List.getD x (Int.toNat i) (0 : Int))) (Nat.blt (Int.toNat (List.getD x (Int.toNat i) (0 : Int))) (List.length X)) false) true false) (bc (bc (Nat.blt (Int.toNat (List.getD x (Int.toNat i) (0 : Int))) (List.length X)) true false) (bc (bc (bc (decide ((0 : Int) ≤ i)) (Nat.blt (Int.toNat i) (List.length y)) false) true false) (bc (bc (Nat.blt (Int.toNat i) (List.length y)) true false) (bc (bc (bc (decide ((0 : Int) ≤ List.getD y (Int.toNat i) (0 : Int))) (Nat.blt (Int.toNat (List.getD y (Int.toNat i) (0 : Int))) (List.length Y)) false) true false) (bc (bc (Nat.blt (Int.toNat (List.getD y (Int.toNat i) (0 : Int))) (List.length Y)) true false) true false) false) false) false) false) false) false) false) (bc (bc (bc (eqSy (SyC.recs [Sh.int IntKind.i64, Sh.int IntKind.i64, Sh.int IntKind.i64, Sh.int IntKind.i64] Y) (SyC.recs [Sh.int IntKind.i64, Sh.int IntKind.i64, Sh.int IntKind.i64, Sh.int IntKind.i64] Y)) true false) true false) true false) false) (bc (U.int (List.getD (List.getD X (Int.toNat (List.getD x (Int.toNat i) (0 : Int))) []) (Nat.succ (Nat.succ (0 : Nat))) (U.i (0 : Int))) != U.int (List.getD (List.getD Y (Int.toNat (List.getD y (Int.toNat i) (0 : Int))) []) (Nat.succ (Nat.succ (0 : Nat))) (U.i (0 : Int)))) (.done (EV.v (Value.bool false)) [] 0) (bc (U.int (List.getD (List.getD X (Int.toNat (List.getD x (Int.toNat i) (0 : Int))) []) (Nat.succ (Nat.succ (Nat.succ (0 : Nat)))) (U.i (0 : Int))) != U.int (List.getD (List.getD Y (Int.toNat (List.getD y (Int.toNat i) (0 : Int))) []) (Nat.succ (Nat.succ (Nat.succ (0 : Nat)))) (U.i (0 : Int)))) (.done (EV.v (Value.bool false)) [] 0) (.at (sI (n) (m) (X) (P) (Y) (Q) (x) (y) (U.int (List.getD (List.getD Y (Int.toNat (List.getD y (Int.toNat i) (0 : Int))) []) (0 : Nat) (U.i (0 : Int)))) (U.int (List.getD (List.getD Y (Int.toNat (List.getD y (Int.toNat i) (0 : Int))) []) (Nat.succ (0 : Nat)) (U.i (0 : Int)))) (U.int (List.getD (List.getD Y (Int.toNat (List.getD y (Int.toNat i) (0 : Int))) []) (Nat.succ (Nat.succ (0 : Nat))) (U.i (0 : Int)))) (U.int (List.getD (List.getD Y (Int.toNat (List.getD y (Int.toNat i) (0 : Int))) []) (Nat.succ (Nat.succ (Nat.succ (0 : Nat)))) (U.i (0 : Int)))) (i) ((0 : Int)))))) .bad) .bad)))))) (.done (EV.v (Value.bool true)) [] 0)) := by kernel_rfl
theorem i_t (n m : Int) (X P Y Q : List (List U)) (x y : List Int) (w a o u : Int) (i k : Int) : RUN (stOf (sI n m X P Y Q x y w a o u i k)) = (bc (decide (k < i)) (bc (List.getD y (Int.toNat k) (0 : Int) == List.getD y (Int.toNat i) (0 : Int)) (bc (bc (bc (bc (bc (decide ((0 : Int) ≤ k)) (Nat.blt (Int.toNat k) (List.length y)) false) true false) (bc (bc (Nat.blt (Int.toNat k) (List.length y)) true false) (bc (bc (bc (decide ((0 : Int) ≤ i)) (Nat.blt (Int.toNat i) (List.length y)) false) true false) (bc (bc (Nat.blt (Int.toNat i) (List.length y)) true false) (bc (eqB (List.getD y (Int.toNat k) (0 : Int) == List.getD y (Int.toNat i) (0 : Int)) true) true false) false) false) false) false) true false) (.done (EV.v (Value.bool false)) [] 0) .bad) (bc (shI (U.int (List.getD (List.getD Y (Int.toNat (List.getD y (Int.toNat k) (0 : Int))) []) (Nat.succ (Nat.succ (0 : Nat))) (U.i (0 : Int)))) (U.int (List.getD (List.getD Y (Int.toNat (List.getD y (Int.toNat k) (0 : Int))) []) (Nat.succ (Nat.succ (Nat.succ (0 : Nat)))) (U.i (0 : Int)))) o u) (bc (bc (bc (bc (bc (decide ((0 : Int) ≤ k)) (Nat.blt (Int.toNat k) (List.length y)) false) true false) (bc (bc (Nat.blt (Int.toNat k) (List.length y)) true false) (bc (bc (bc (decide ((0 : Int) ≤ i)) (Nat.blt (Int.toNat i) (List.length y)) false) true false) (bc (bc (Nat.blt (Int.toNat i) (List.length y)) true false) (bc (eqB (List.getD y (Int.toNat k) (0 : Int) == List.getD y (Int.toNat i) (0 : Int)) false) (bc (bc (bc (decide ((0 : Int) ≤ k)) (Nat.blt (Int.toNat k) (List.length y)) false) true false) (bc (bc (Nat.blt (Int.toNat k) (List.length y)) true false) (bc (bc (bc (decide ((0 : Int) ≤ List.getD y (Int.toNat k) (0 : Int))) (Nat.blt (Int.toNat (List.getD y (Int.toNat k) (0 : Int))) (List.length Y)) false) true false) (bc (bc (Nat.blt (Int.toNat (List.getD y (Int.toNat k) (0 : Int))) (List.length Y)) true false) (bc (eqB (shI (U.int (List.getD (List.getD Y (Int.toNat (List.getD y (Int.toNat k) (0 : Int))) []) (Nat.succ (Nat.succ (0 : Nat))) (U.i (0 : Int)))) (U.int (List.getD (List.getD Y (Int.toNat (List.getD y (Int.toNat k) (0 : Int))) []) (Nat.succ (Nat.succ (Nat.succ (0 : Nat)))) (U.i (0 : Int)))) o u) true) (bc (bc (bc (decide ((0 : Int) ≤ k)) (Nat.blt (Int.toNat k) (List.length y)) false) true false) (bc (bc (Nat.blt (Int.toNat k) (List.length y)) true false) (bc (bc (bc (decide ((0 : Int) ≤ i)) (Nat.blt (Int.toNat i) (List.length y)) false) true false) (bc (bc (Nat.blt (Int.toNat i) (List.length y)) true false) true false) false) false) false) false) false) false) false) false) false) false) false) false) false) true false) (bc (decide (List.getD y (Int.toNat i) (0 : Int) < List.getD y (Int.toNat k) (0 : Int))) (.done (EV.v (Value.bool false)) [] 0) (.at (sI (n) (m) (X) (P) (Y) (Q) (x) (y) (w) (a) (o) (u) (i) (IntKind.wrap IntKind.i64 (k + (1 : Int)))))) .bad) (bc (bc (bc (bc (bc (decide ((0 : Int) ≤ k)) (Nat.blt (Int.toNat k) (List.length y)) false) true false) (bc (bc (Nat.blt (Int.toNat k) (List.length y)) true false) (bc (bc (bc (decide ((0 : Int) ≤ i)) (Nat.blt (Int.toNat i) (List.length y)) false) true false) (bc (bc (Nat.blt (Int.toNat i) (List.length y)) true false) (bc (eqB (List.getD y (Int.toNat k) (0 : Int) == List.getD y (Int.toNat i) (0 : Int)) false) (bc (bc (bc (decide ((0 : Int) ≤ k)) (Nat.blt (Int.toNat k) (List.length y)) false) true false) (bc (bc (Nat.blt (Int.toNat k) (List.length y)) true false) (bc (bc (bc (decide ((0 : Int) ≤ List.getD y (Int.toNat k) (0 : Int))) (Nat.blt (Int.toNat (List.getD y (Int.toNat k) (0 : Int))) (List.length Y)) false) true false) (bc (bc (Nat.blt (Int.toNat (List.getD y (Int.toNat k) (0 : Int))) (List.length Y)) true false) (bc (eqB (shI (U.int (List.getD (List.getD Y (Int.toNat (List.getD y (Int.toNat k) (0 : Int))) []) (Nat.succ (Nat.succ (0 : Nat))) (U.i (0 : Int)))) (U.int (List.getD (List.getD Y (Int.toNat (List.getD y (Int.toNat k) (0 : Int))) []) (Nat.succ (Nat.succ (Nat.succ (0 : Nat)))) (U.i (0 : Int)))) o u) false) true false) false) false) false) false) false) false) false) false) false) true false) (.at (sI (n) (m) (X) (P) (Y) (Q) (x) (y) (w) (a) (o) (u) (i) (IntKind.wrap IntKind.i64 (k + (1 : Int))))) .bad))) (.at (sO (n) (m) (X) (P) (Y) (Q) (x) (y) (IntKind.wrap IntKind.i64 (i + (1 : Int)))))) := by kernel_rfl
end LKpt
end Go.Proofs.Ytonbfalbfdkieaa.Ev
namespace Go.Proofs.Ytonbfalbfdkieaa.Ev
open Go.Proofs
theorem beqI_n {a b : Int} (h : a ≠ b) : (a == b) = false := by simp [h]
theorem bneI_n {a b : Int} (h : a = b) : (a != b) = false := by simp [h]
namespace LKpt
theorem inner {n m : Int} {X P Y Q : List (List U)} {x y : List Int} {i : Nat} {r : List U} (hx : x.length ≤ 20000) (hy : y.length = x.length) (hi : i < x.length) (hr : r = Y.getD (y.getD i 0).toNat []) (h0 : ∀ j : Nat, j < x.length → 0 ≤ y.getD j 0 ∧ y.getD j 0 < Y.length) (hk : ∀ k : Nat, k < i → y.getD k 0 ≠ y.getD i 0 ∧ (shrB (Y.getD (y.getD k 0).toNat []) (Y.getD (y.getD i 0).toNat []) = true → y.getD k 0 ≤ y.getD i 0)) (hn : EndZ 49 ctSh false (stOf (sO n m X P Y Q x y (i + 1 : Nat))) (bv true) [] 0) : ∀ (f k : Nat), k + f = i → EndZ 49 ctSh false (stOf (sI n m X P Y Q x y (xW r) (xA r) (xO r) (xU r) i k)) (bv true) [] 0
  | 0, k, h => by
    have h1 := i_t n m X P Y Q x y (xW r) (xA r) (xO r) (xU r) i k
    simp (disch := omega) only [Nat.add_eq, eqSy_self, eqN_self, bc_same, List.length_cons, ofn, wrap_in, dt, df, bltD, bltN, ble_of, bleN, beqD, bc_t, bc_f, nn_ok, Nat.zero_add, to_nat, Int.zero_add, Int.sub_zero, Int.sub_self, Int.cast_ofNat_Int, Int.natCast_zero, Int.toNat_zero, List.take_zero, List.nil_append, List.length_append, List.length_nil] at h1
    exact .at ctSh_ok h1 hn
  | f + 1, k, h => by
    have h1 := i_t n m X P Y Q x y (xW r) (xA r) (xO r) (xU r) i k
    obtain ⟨k1, k2⟩ := hk k (by omega)
    obtain ⟨y1, y2⟩ := h0 k (by omega)
    obtain ⟨z1, z2⟩ := h0 i hi
    have ih := inner (n := n) (m := m) (X := X) (P := P) (Q := Q) hx hy hi hr h0 hk hn f (k + 1) (by omega)
    rw [to_nat, to_nat] at h1
    obtain ⟨p, hp⟩ := Int.eq_ofNat_of_zero_le y1
    obtain ⟨q, hq⟩ := Int.eq_ofNat_of_zero_le z1
    rw [hp, hq] at k1 k2
    rw [hp] at y2
    rw [hq] at z2 hr
    rw [hp, hq, beqI_n k1] at h1
    simp only [show ∀ k : Nat, ((k : Int)).toNat = k from fun _ => rfl] at h1 k2 hr
    have e : shI (U.int (List.getD (Y.getD p []) (Nat.succ (Nat.succ 0)) (U.i 0))) (U.int (List.getD (Y.getD p []) (Nat.succ (Nat.succ (Nat.succ 0))) (U.i 0))) (xO r) (xU r) = shrB (Y.getD p []) (Y.getD q []) := by rw [hr]; rfl
    rw [e] at h1
    cases hs : shrB (Y.getD p []) (Y.getD q []) with
    | false =>
      rw [hs] at h1
      simp (disch := omega) only [Nat.add_eq, eqSy_self, eqN_self, bc_same, List.length_cons, ofn, wrap_in, dt, df, bltD, bltN, ble_of, bleN, beqD, bc_t, bc_f, nn_ok, Nat.zero_add, to_nat, Int.zero_add, Int.sub_zero, Int.sub_self, Int.cast_ofNat_Int, Int.natCast_zero, Int.toNat_zero, List.take_zero, List.nil_append, List.length_append, List.length_nil, eqB, decide_true] at h1
      exact .at ctSh_ok h1 ih
    | true =>
      have := k2 hs
      rw [hs] at h1
      simp (disch := omega) only [Nat.add_eq, eqSy_self, eqN_self, bc_same, List.length_cons, ofn, wrap_in, dt, df, bltD, bltN, ble_of, bleN, beqD, bc_t, bc_f, nn_ok, Nat.zero_add, to_nat, Int.zero_add, Int.sub_zero, Int.sub_self, Int.cast_ofNat_Int, Int.natCast_zero, Int.toNat_zero, List.take_zero, List.nil_append, List.length_append, List.length_nil, eqB, decide_true] at h1
      exact .at ctSh_ok h1 ih
theorem outer {n m : Int} {X P Y Q : List (List U)} {x y : List Int} (hx : x.length ≤ 20000) (hX : X.length ≤ 30000) (hY : Y.length ≤ 30000) (hK : Kpt X Y x y) : ∀ (f i : Nat), i + f = x.length → EndZ 49 ctSh false (stOf (sO n m X P Y Q x y i)) (bv true) [] 0
  | 0, i, h => by
    have h1 := o_t n m X P Y Q x y i
    simp (disch := omega) only [Nat.add_eq, eqSy_self, eqN_self, bc_same, List.length_cons, ofn, wrap_in, dt, df, bltD, bltN, ble_of, bleN, beqD, bc_t, bc_f, nn_ok, Nat.zero_add, to_nat, Int.zero_add, Int.sub_zero, Int.sub_self, Int.cast_ofNat_Int, Int.natCast_zero, Int.toNat_zero, List.take_zero, List.nil_append, List.length_append, List.length_nil] at h1
    exact .done h1
  | f + 1, i, h => by
    have ih := outer (n := n) (m := m) (P := P) (Q := Q) hx hX hY hK f (i + 1) (by omega)
    have hi : i < x.length := by omega
    obtain ⟨hy, hK2⟩ := hK
    obtain ⟨a1, a2, a3, a4, a5, a6, a7, a8⟩ := hK2 i hi
    have h1 := o_t n m X P Y Q x y i
    suffices h2 : RUN (stOf (sO n m X P Y Q x y i)) = ZF.at (sI n m X P Y Q x y (xW (Y.getD (y.getD i 0).toNat [])) (xA (Y.getD (y.getD i 0).toNat [])) (xO (Y.getD (y.getD i 0).toNat [])) (xU (Y.getD (y.getD i 0).toNat [])) i (0 : Nat)) from .at ctSh_ok h2 (inner hx hy.symm hi rfl (fun j hj => by obtain ⟨_, _, b3, b4, _⟩ := hK2 j hj; exact ⟨b3, b4⟩) a8 ih i 0 (by omega))
    rw [to_nat] at h1
    obtain ⟨p, hp⟩ := Int.eq_ofNat_of_zero_le a1
    obtain ⟨q, hq⟩ := Int.eq_ofNat_of_zero_le a3
    rw [hp] at h1 a2 a5 a6 a7
    rw [hq] at h1 a4 a6 a7 ⊢
    have f0 : ∀ r : List U, U.int (List.getD r 0 (U.i 0)) = xW r := fun _ => rfl
    have f1 : ∀ r : List U, U.int (List.getD r (Nat.succ 0) (U.i 0)) = xA r := fun _ => rfl
    have f2 : ∀ r : List U, U.int (List.getD r (Nat.succ (Nat.succ 0)) (U.i 0)) = xO r := fun _ => rfl
    have f3 : ∀ r : List U, U.int (List.getD r (Nat.succ (Nat.succ (Nat.succ 0))) (U.i 0)) = xU r := fun _ => rfl
    simp only [show ∀ k : Nat, ((k : Int)).toNat = k from fun _ => rfl] at h1 a6 a7 ⊢
    simp only [f0, f1, f2, f3] at h1
    rw [bneI_n a6, bneI_n a7] at h1
    cases i with
    | zero =>
      simp (disch := omega) only [Nat.add_eq, eqSy_self, eqN_self, bc_same, List.length_cons, ofn, wrap_in, dt, df, bltD, bltN, ble_of, bleN, beqD, bc_t, bc_f, nn_ok, Nat.zero_add, to_nat, Int.zero_add, Int.sub_zero, Int.sub_self, Int.cast_ofNat_Int, Int.natCast_zero, Int.toNat_zero, List.take_zero, List.nil_append, List.length_append, List.length_nil, eqB, decide_true] at h1
      exact h1
    | succ j =>
      have w : IntKind.wrap IntKind.i64 (((j + 1 : Nat) : Int) - 1) = (j : Int) := by rw [wrap_in _ (by omega) (by omega)]; omega
      have a5 := a5 (by omega)
      rw [Nat.add_sub_cancel] at a5
      rw [w] at h1
      simp only [show ∀ k : Nat, ((k : Int)).toNat = k from fun _ => rfl] at h1
      simp (disch := omega) only [Nat.add_eq, eqSy_self, eqN_self, bc_same, List.length_cons, ofn, wrap_in, dt, df, bltD, bltN, ble_of, bleN, beqD, bc_t, bc_f, nn_ok, Nat.zero_add, to_nat, Int.zero_add, Int.sub_zero, Int.sub_self, Int.cast_ofNat_Int, Int.natCast_zero, Int.toNat_zero, List.take_zero, List.nil_append, List.length_append, List.length_nil, eqB, decide_true] at h1
      exact h1
end LKpt
noncomputable def spKpt : ZCT := fun ax => match ax with
  | [.agg [.v (.int .i64 n), .lst (.recs [.int .i64, .int .i64, .int .i64, .int .i64] X), .lst (.recs [.int .i64, .int .i64, .int .i64, .int .i64] P)], .agg [.v (.int .i64 m), .lst (.recs [.int .i64, .int .i64, .int .i64, .int .i64] Y), .lst (.recs [.int .i64, .int .i64, .int .i64, .int .i64] Q)], .lst (.ints .i64 x), .lst (.ints .i64 y)] => some ⟨decide (x.length ≤ 20000 ∧ X.length ≤ 30000 ∧ Y.length ≤ 30000 ∧ Kpt X Y x y), bv true, [], 0⟩
  | _ => none
theorem spKpt_ok : ZCtOk Try.prog 49 spKpt := fun γ w us ax r hs hc hax hN hfz => by
  unfold spKpt at hs
  split at hs
  case h_2 => cases hs
  rename_i n X P m Y Q x y
  obtain ⟨rfl⟩ := Option.some.inj hs
  have hc_0 : decide (x.length ≤ 20000 ∧ X.length ≤ 30000 ∧ Y.length ≤ 30000 ∧ Kpt X Y x y) = true := hc
  have hc := of_decide_eq_true hc_0
  exact EndZ.calls (by
    obtain ⟨h1, h2, h3, h4⟩ := hc
    have h := LKpt.in_t n m X P Y Q x y
    have e : (Int.ofNat x.length != Int.ofNat y.length) = false := by rw [h4.1]; simp
    rw [e, bc_f] at h
    exact .at ctSh_ok h (LKpt.outer h1 h2 h3 h4 x.length 0 (by omega))) ctSh_ok (by kernel_rfl) hax hN hfz
end Go.Proofs.Ytonbfalbfdkieaa.Ev
namespace Go.Proofs.Ytonbfalbfdkieaa.Ev
open Go.RowKit
variable {P : Program} {γ γ' : G} {w0 : Bs} {w : World} {H H' : Tr EK} {n n' : Nat}


noncomputable def shB' (n k : Nat) : EV → Option EV := Nat.rec (fun _ => none) (fun _ ih a => match a with
  | .v x => some (.v x)
  | .arr c => some (.arr c)
  | .slO i z len nn => some (.slO (n + i) z len nn)
  | .tup l => match shZ.mapZ ih l with
    | some l => some (.tup l)
    | none => none
  | .agg l => match shZ.mapZ ih l with
    | some l => some (.agg l)
    | none => none
  | _ => none) k
theorem shB_ok {n : Nat} : ∀ {k : Nat} {a a' : EV} {x : Value}, shB' n k a = some a' → EC γ a x → (∀ i, γ' (n + i) = γ i) → EC γ' a' x
  | 0, a, a', x, h, _, _ => by cases h
  | k + 1, a, a', x, h, hc, hγ => by
    cases hc with
    | v x => injection (show some (EV.v x) = some a' from h) with h; subst h; exact .v x
    | arr c vs hv => injection (show some (EV.arr c) = some a' from h) with h; subst h; exact .arr c vs hv
    | slO i z len nn x hs =>
      injection (show some (EV.slO (n + i) z len nn) = some a' from h) with h; subst h
      exact .slO (n + i) z len nn x ⟨hs.1, fun q => let ⟨b, m, c, q1, q2⟩ := hs.2 q; ⟨b, m, c, by rw [hγ]; exact q1, q2⟩⟩
    | tup l vs hl hh =>
      have h' : (match shZ.mapZ (shB' n k) l with
        | some l => some (EV.tup l)
        | none => none) = some a' := h
      split at h'
      case h_2 => cases h'
      rename_i r hr
      injection h' with h'; subst h'
      obtain ⟨g1, g2⟩ := mapZ_ok hr
      refine .tup r vs (by omega) fun j b y hb hy => ?_
      obtain ⟨b0, g3, g4⟩ := g2 j b hb
      exact shB_ok g4 (hh j b0 y g3 hy) hγ
    | agg l vs hl hh =>
      have h' : (match shZ.mapZ (shB' n k) l with
        | some l => some (EV.agg l)
        | none => none) = some a' := h
      split at h'
      case h_2 => cases h'
      rename_i r hr
      injection h' with h'; subst h'
      obtain ⟨g1, g2⟩ := mapZ_ok hr
      refine .agg r vs (by omega) fun j b y hb hy => ?_
      obtain ⟨b0, g3, g4⟩ := g2 j b hb
      exact shB_ok g4 (hh j b0 y g3 hy) hγ
    | _ => cases h

noncomputable def flatC (c : SyC) : Bool := allL (fun s => match s with
  | .list _ => false
  | _ => true) c.sh
theorem flatC_ok {c : SyC} (h : flatC c = true) {vs : List Value} (hc : ECL γ c.enc vs) : ECL γ' c.enc vs := by
  refine ⟨hc.1, fun j a x ha hx => (hc.2 j a x ha hx).scal (k := 1) ?_⟩
  have hm := List.mem_of_getElem? ha
  rw [c.enc_rows] at hm
  obtain ⟨r, _, hr⟩ := List.mem_flatMap.1 hm
  obtain ⟨f, hf, rfl⟩ := List.getElem_of_mem hr
  rw [recE_len] at hf
  have := recE_get (s := c.sh[f]) (f := f) r (List.getElem?_eq_getElem hf)
  rw [List.getElem?_eq_getElem (by rw [recE_len]; exact hf)] at this
  injection this with this
  rw [this]
  have h2 := allL_ok h c.sh[f] (List.getElem_mem hf)
  cases h3 : c.sh[f] with
  | list sh => rw [h3] at h2; cases h2
  | int k => rfl
  | bool => rfl
  | str => rfl
def G.behindB (γ : G) (n : Nat) (γ' : G) : G := ⟨fun j => if j < n then γ j else γ' (j - n), γ.fz, γ.rw⟩
theorem G.behindB_new (γ : G) (n : Nat) (γ' : G) (m : Nat) : γ.behindB n γ' (n + m) = γ' m := by show (if n + m < n then γ (n + m) else γ' (n + m - n)) = _; rw [if_neg (by omega)]; congr 1; omega
theorem HR.mergeB (hH : HR γ w0 H n w) {γ0 : G} {K : List ZS} {w' : World} (h : HR γ' (Bs.ofG w γ0) (mkT (zseqs K)) n' w') (hK : ∀ p, p ∈ K → (mkT (zseqs K)).get p.1 = some (.seq p.2.1 p.2.2.1 p.2.2.2)) (hb : ∀ p, p ∈ K → n + p.1 ≤ 65535) (hfl : ∀ p, p ∈ K → flatC p.2.2.1 = true) : GLe γ (γ.behindB n γ') ∧ HR (γ.behindB n γ') w0 (putZ n K H) (n + n') w' := by
  have hle0 : ∀ i p, γ i = some p → (γ.behindB n γ') i = some p := fun i p e => by
    show (if i < n then γ i else γ' (i - n)) = some p
    split
    · exact e
    · rw [hH.fresh i (by omega)] at e; cases e
  have hle : GLe γ (γ.behindB n γ') := ⟨hle0, fun _ _ h => h, fun _ _ _ _ h => h⟩
  refine ⟨hle, ?_⟩
  have old : ∀ b : Nat, b < w.heap.size → w'.heap[b]? = w.heap[b]? := fun b hb => h.stays.block b hb
  have hsz : w.heap.size ≤ w'.heap.size := h.stays.size
  have cls : ∀ j k, (putZ n K H).get j = some k → k.Nil ∨ (∃ b m, γ j = some (b, m) ∧ H.get j = some k ∧ ¬ k.Nil ∧ (γ.behindB n γ') j = some (b, m) ∧ b.k < w.heap.size ∧ ¬ w0.F b.k ∧ k.ok (γ.behindB n γ') b m w') ∨ (∃ q b m, j = n + q ∧ (mkT (zseqs K)).get q = some k ∧ ¬ k.Nil ∧ γ' q = some (b, m) ∧ (γ.behindB n γ') j = some (b, m) ∧ w.heap.size ≤ b.k ∧ k.ok (γ.behindB n γ') b m w') := fun j k hk => by
    by_cases hn : k.Nil
    · exact .inl hn
    right
    rcases putZ_get hb hk with ⟨p, hp, rfl, rfl⟩ | hk
    · right
      have hg := hK p hp
      obtain ⟨b, m, e1, e2, e3⟩ := h.hp p.1 _ hg hn
      obtain ⟨ca, q1, q2, q3, q4⟩ := e3
      exact ⟨p.1, b, m, rfl, hg, hn, e1, (G.behindB_new γ n γ' p.1).trans e1, Nat.le_of_not_lt e2, ca, q1, q2, q3, flatC_ok (hfl p hp) q4⟩
    · left
      obtain ⟨b, m, e1, e2, e3⟩ := hH.hp j k hk hn
      exact ⟨b, m, e1, hk, hn, hle _ _ e1, hH.lt j _ e1, e2, EK.ok_mono hle (old _ (hH.lt j _ e1)) e3⟩
  have nst : ∀ j k, (putZ n K H).get j = some k → k.nestB = true → H.get j = some k := fun j k hk hb2 => by
    rcases putZ_get hb hk with ⟨p, hp, rfl, rfl⟩ | hk
    · cases hb2
    · exact hk
  refine ⟨fun j k hk => ?_, fun j l kj kl hj hl nj nl hne bj bl ej el => ?_, fun j hj => ?_, fun j hj => ?_, fun j p e => ?_, ?_, ⟨fun k a hk => ?_, fun k hk => ?_, fun i v q p e => ?_, fun i me ty sh rows v ho nn e => ?_, fun i me ty sh rows v ho nn e j f sh' hj hf hh k m hk => ?_⟩⟩
  · rcases cls j k hk with h1 | ⟨b, m, h1, h2, h3, h4, h5, h6, h7⟩ | ⟨q, b, m, h1, h2, h3, h4, h5, h6, h7⟩
    · exact .inl h1
    · exact .inr ⟨b, m, h4, h6, h7⟩
    · exact .inr ⟨b, m, h5, hH.notF h6, h7⟩
  · rcases cls j kj hj with h1 | ⟨b, m, h1, h2, h3, h4, h5, h6, h7⟩ | ⟨q, b, m, h1, h2, h3, h4, h5, h6, h7⟩
    · exact absurd h1 nj
    · rw [h4] at ej; injection ej with ej; subst ej
      rcases cls l kl hl with g1 | ⟨b', m', g1, g2, g3, g4, g5, g6, g7⟩ | ⟨q', b', m', g1, g2, g3, g4, g5, g6, g7⟩
      · exact absurd g1 nl
      · rw [g4] at el; injection el with el; subst el
        exact hH.inj0 j l kj kl h2 g2 h3 g3 hne _ _ h1 g1
      · rw [g5] at el; injection el with el; subst el
        show b.k ≠ b'.k
        omega
    · rw [h5] at ej; injection ej with ej; subst ej
      rcases cls l kl hl with g1 | ⟨b', m', g1, g2, g3, g4, g5, g6, g7⟩ | ⟨q', b', m', g1, g2, g3, g4, g5, g6, g7⟩
      · exact absurd g1 nl
      · rw [g4] at el; injection el with el; subst el
        show b.k ≠ b'.k
        omega
      · rw [g5] at el; injection el with el; subst el
        exact h.inj0 q q' kj kl h2 g2 h3 g3 (fun e => hne (by omega)) _ _ h4 g4
  · show (if j < n then γ j else γ' (j - n)) = none
    rw [if_neg (by omega)]
    exact h.fresh _ (by omega)
  · obtain ⟨r1, r2⟩ := hH.rsv j hj
    exact ⟨by show (if j < n then γ j else γ' (j - n)) = none; rw [if_pos r2]; exact r1, by omega⟩
  · have e : (if j < n then γ j else γ' (j - n)) = some p := e
    split at e
    · have := hH.lt j p e; omega
    · exact h.lt _ p e
  · refine ⟨h.stays.os.trans hH.stays.os, h.stays.tape.trans hH.stays.tape, h.stays.output.trans hH.stays.output, by have := hH.stays.size; omega, fun k hk => ?_⟩
    have := hH.stays.size
    have := w0.lt k hk
    rw [old k (by omega)]; exact hH.stays.block k hk
  · obtain ⟨⟨ty, fz, g1⟩, g2, g3⟩ := hH.fzk.at' k a hk
    have hkl : k < w.heap.size := (Array.getElem?_eq_some_iff.1 g1).1
    refine ⟨⟨ty, fz, (old k hkl).trans g1⟩, g2, fun j kj b m hj nj ej => ?_⟩
    rcases cls j kj hj with h1 | ⟨b', m', h1, h2, h3, h4, h5, h6, h7⟩ | ⟨q, b', m', h1, h2, h3, h4, h5, h6, h7⟩
    · exact absurd h1 nj
    · rw [h4] at ej; injection ej with ej; injection ej with e1 e2; subst e1
      exact g3 j kj _ _ h2 h3 h1
    · rw [h5] at ej; injection ej with ej; injection ej with e1 e2; subst e1
      omega
  · exact hH.fzk.base k hk
  · obtain ⟨b, hb⟩ := hH.fzk.nst.rwg i v q p e
    exact ⟨b, hle0 _ _ hb⟩
  · exact hH.fzk.nst.me i me ty sh rows v ho nn (nst i _ e rfl)
  · obtain ⟨q1, q2, q3, q4, arr, ty3, q5, q6, q7⟩ := hH.fzk.nst.at' i me ty sh rows v ho nn (nst i _ e rfl) j f sh' hj hf hh k m hk
    have hkl := q5.lt
    refine ⟨q1, q2, fun i' ki b m' hi' ni ei => ?_, fun i2 me2 ty2 sh2 rows2 v2 ho2 nn2 e2 => q4 i2 me2 ty2 sh2 rows2 v2 ho2 nn2 (nst i2 _ e2 rfl), arr, ty3, q5.mono (old k hkl), q6, fun a g s ha hs => let ⟨x, hx, hc⟩ := q7 a g s ha hs; ⟨x, hx, hc.mono hle⟩⟩
    rcases cls i' ki hi' with h1 | ⟨b', m2, h1, h2, h3, h4, h5, h6, h7⟩ | ⟨q, b', m2, h1, h2, h3, h4, h5, h6, h7⟩
    · exact absurd h1 ni
    · rw [h4] at ei; injection ei with ei; injection ei with e1 e2; subst e1
      exact q3 i' ki _ _ h2 h3 h1
    · rw [h5] at ei; injection ei with ei; injection ei with e1 e2; subst e1
      omega

noncomputable def twoZ (n : Nat) (K : List ZS) : Bool := match K with
  | [] => true
  | [p] => bc (Nat.ble (n + p.1) 65535) (flatC p.2.2.1) false
  | [p, q] => bc (Nat.beq p.1 q.1) false (bc (bc (Nat.ble (n + p.1) 65535) (flatC p.2.2.1) false) (bc (Nat.ble (n + q.1) 65535) (flatC q.2.2.1) false) false)
  | _ => false
theorem mkT1 {p : Nat × EK} {l : List (Nat × EK)} (h : p.1 ≤ 65535) : mkT (p :: l) = (mkT l).put p.1 (some p.2) := by
  show bc (Nat.ble p.1 65535) _ _ = _
  rw [bc_eq, if_pos (Nat.ble_eq_true_of_le h)]; rfl
theorem twoZ_ok {n : Nat} {K : List ZS} (h : twoZ n K = true) : (∀ p, p ∈ K → (mkT (zseqs K)).get p.1 = some (.seq p.2.1 p.2.2.1 p.2.2.2)) ∧ (∀ p, p ∈ K → n + p.1 ≤ 65535) ∧ ∀ p, p ∈ K → flatC p.2.2.1 = true := by
  match K, h with
  | [], _ => exact ⟨fun p hp => by simp at hp, fun p hp => by simp at hp, fun p hp => by simp at hp⟩
  | [p1], h =>
    obtain ⟨h1, h2⟩ := bcT h
    have h1 := Nat.le_of_ble_eq_true h1
    refine ⟨fun p hp => ?_, fun p hp => by simp at hp; subst hp; exact h1, fun p hp => by simp at hp; subst hp; exact h2⟩
    simp at hp; subst hp
    show (mkT [(p.1, EK.seq p.2.1 p.2.2.1 p.2.2.2)]).get p.1 = _
    rw [mkT1 (by show p.1 ≤ _; omega), Tr.get_put (Nat.ble_eq_true_of_le (by show p.1 ≤ _; omega)), if_pos rfl]
  | [p1, p2], h =>
    have h : bc (Nat.beq p1.1 p2.1) false (bc (bc (Nat.ble (n + p1.1) 65535) (flatC p1.2.2.1) false) (bc (Nat.ble (n + p2.1) 65535) (flatC p2.2.2.1) false) false) = true := h
    rw [bc_eq] at h
    split at h
    · cases h
    · rename_i hne
      have hne : p1.1 ≠ p2.1 := fun e => hne (by rw [e]; exact Nat.beq_refl _)
      obtain ⟨h1, h2⟩ := bcT h
      obtain ⟨a1, a2⟩ := bcT h1
      obtain ⟨b1, b2⟩ := bcT h2
      have a1 := Nat.le_of_ble_eq_true a1
      have b1 := Nat.le_of_ble_eq_true b1
      have key : mkT (zseqs [p1, p2]) = ((mkT ([] : List (Nat × EK))).put p2.1 (some (EK.seq p2.2.1 p2.2.2.1 p2.2.2.2))).put p1.1 (some (EK.seq p1.2.1 p1.2.2.1 p1.2.2.2)) := by
        show mkT [(p1.1, _), (p2.1, _)] = _
        rw [mkT1 (by show p1.1 ≤ _; omega), mkT1 (by show p2.1 ≤ _; omega)]
      refine ⟨fun p hp => ?_, fun p hp => ?_, fun p hp => ?_⟩
      · rw [key]
        simp at hp
        rcases hp with rfl | rfl
        · rw [Tr.get_put (Nat.ble_eq_true_of_le (by omega)), if_pos rfl]
        · rw [Tr.get_put (Nat.ble_eq_true_of_le (by omega)), if_neg (fun e => hne e.symm), Tr.get_put (Nat.ble_eq_true_of_le (by omega)), if_pos rfl]
      · simp at hp; rcases hp with rfl | rfl
        · exact a1
        · exact b1
      · simp at hp; rcases hp with rfl | rfl
        · exact a2
        · exact b2
  | _ :: _ :: _ :: _, h => cases h
noncomputable def moreZ (m : Nat) (K : List ZS) (K0 : List (Nat × EK)) : List (Nat × EK) := List.rec K0 (fun p _ ih => (m + p.1, .seq p.2.1 p.2.2.1 p.2.2.2) :: ih) K
theorem moreZ_ok {m : Nat} {K0 : List (Nat × EK)} : ∀ {K : List ZS}, (∀ p, p ∈ K → m + p.1 ≤ 65535) → mkT (moreZ m K K0) = putZ m K (mkT K0)
  | [], _ => rfl
  | p :: K, h => by
    show mkT ((m + p.1, EK.seq p.2.1 p.2.2.1 p.2.2.2) :: moreZ m K K0) = Tr.put (putZ m K (mkT K0)) (m + p.1) _
    rw [mkT1 (h p (by simp)), moreZ_ok fun q hq => h q (by simp [hq])]

noncomputable def bM (sp : ZCT) : ZMT := fun ax K0 m => match frzL (frzE 6) ax (mkT K0) with
  | some (cf, ax', _) => bc (allL (dataB 6) ax') (match sp ax' with
    | some r => match shB' m 6 r.a with
      | some a => bc (twoZ m r.K) (some ⟨bc cf r.c false, a, moreZ m r.K K0, m + r.n, m⟩) none
      | none => none
    | none => none) none
  | none => none
theorem bM_ok {g : FuncId} {sp : ZCT} (hsp : ZCtOk P g sp) : ZMtOk P g (bM sp) := by
  intro γ w0 w us ax K0 m r h hc hres ha hH
  unfold bM at h
  split at h
  case h_2 => cases h
  rename_i cf ax' H1 hf
  rw [bc_eq] at h
  split at h
  case isFalse => cases h
  rename_i hd
  split at h
  case h_2 => cases h
  rename_i q hq
  split at h
  case h_2 => cases h
  rename_i a hsh
  rw [bc_eq] at h
  split at h
  case isFalse => cases h
  rename_i htwo
  injection h with h; subst h
  obtain ⟨k1, k2⟩ := bcT hc
  obtain ⟨γ1, g1, g2, g3⟩ := frzL_ok (f := frzE 6) (fun hH ha h hc => frzE_ok hH ha h hc) hH ha hf k1
  refine (hsp γ1.dat w us ax' q hq k2 (g3.dat hd) (fun _ => rfl) g2.fzAt).mono ?_
  rintro e w' ⟨γ', x, rfl, p1, p2⟩
  obtain ⟨o1, o2, o3⟩ := twoZ_ok htwo
  obtain ⟨m1, m2⟩ := hH.mergeB p2 o1 o2 o3
  refine ⟨γ.behindB m γ', x, rfl, shB_ok hsh p1 (fun i => G.behindB_new γ m γ' i), ?_, fun j p hj e => m1 _ _ e⟩
  show HR _ _ (mkT (moreZ m q.K K0)) _ _
  rw [moreZ_ok o2]; exact m2
end Go.Proofs.Ytonbfalbfdkieaa.Ev
namespace Go.Proofs.Ytonbfalbfdkieaa.Ev
open Go.Proofs

noncomputable def nnI (l : List Int) : Bool := bc (Nat.beq l.length 0) false true
noncomputable def nnR (l : List (List U)) : Bool := bc (Nat.beq l.length 0) false true
theorem nnI_app (x : List Int) (b : Bool) (a : Int) : nnI (x ++ bc b [a] []) = bc b true (nnI x) := by
  unfold nnI
  cases b
  · rw [bc_f, bc_f, List.append_nil]
  · rw [bc_t, bc_t, List.length_append]
    show bc (Nat.beq (x.length + 1) 0) false true = true
    rfl
theorem nnR_app (x : List (List U)) (b : Bool) (a : List U) : nnR (x ++ bc b [a] []) = bc b true (nnR x) := by
  unfold nnR
  cases b
  · rw [bc_f, bc_f, List.append_nil]
  · rw [bc_t, bc_t, List.length_append]
    show bc (Nat.beq (x.length + 1) 0) false true = true
    rfl
namespace PCom
noncomputable def coK (x y : List Int) : List ZS := [(0, 3, .ints .i64 x, nnI x), (1, 3, .ints .i64 y, nnI y)]
noncomputable def coE (x y : List Int) : EV := .tup [.slO 0 1 x.length (nnI x), .slO 1 1 y.length (nnI y), iv 0]

theorem lastO_t (m : Int) (X Y Q R : List (List U)) (D x y : List Int) (d : Nat) (nx ny : Bool) (i : Int) : RZ 48 ctPC (atS 0 48 9) [] [[]] true (stOf (sC m X Y Q R D x y d nx ny X.length i)) = (bc (decide (i < (Nat.cast (List.length X) : Int))) (.at ⟨[⟨48, 92, [], [.it (.code (nav [1, 1, 1, 1, 1, 0, 1, 0, 0, 1, 1, 0, 0] (bodyOf Try.f48))), .it (.inBlock 1), .it (.code (nav [1, 1, 1, 1, 1, 0, 1, 0, 0, 1, 1, 1] (bodyOf Try.f48))), .it (.inLoop (nav [1, 1, 1, 1, 1, 0, 1, 0, 0] (bodyOf Try.f48))), .it (.inBlock 0), .it (.code (nav [1, 1, 1, 1, 1, 1] (bodyOf Try.f48)))], [], Option.none⟩], [], 0⟩) (.done (EV.tup [(EV.slO 0 1 (List.length x) (nx)), (EV.slO 1 1 (List.length y) (ny)), (EV.v (Value.int IntKind.i64 (0)))]) [(0, (EK.seq 3 (SyC.ints IntKind.i64 (x)) (nx))), (1, (EK.seq 3 (SyC.ints IntKind.i64 (y)) (ny)))] 2)) := by kernel_rfl
end PCom
namespace PFir
noncomputable def fiK (q : List (List U)) : List ZS := [(0, 73, .recs [.int .i64, .int .i64, .int .i64] q, nnR q)]
noncomputable def fiO (q : List (List U)) : EV := .tup [.slO 0 3 q.length (nnR q), iv 0]
theorem lastO_t (R S q : List (List U)) (nn : Bool) (z i : Int) : RZ 17 ctPF (atS 0 17 11) [] [[]] true (stOf (sO R S q nn z i)) = (bc (decide (i < z)) (bc (bc (bc (decide ((0 : Int) ≤ i)) (Nat.blt (Int.toNat i) (List.length R)) false) true false) (bc (bc (Nat.blt (Int.toNat i) (List.length R)) true false) (bc (bc (bc (bc (bc (decide ((0 : Int) ≤ i)) (Nat.blt (Int.toNat i) (List.length S)) false) true false) (bc (bc (Nat.blt (Int.toNat i) (List.length S)) true false) true false) false) true false) (.at ⟨[⟨17, 103, [], [.it (.code (nav [1, 1, 1, 1, 0, 1, 0, 0, 1, 1, 0, 0, 1, 1, 1, 0, 0, 0, 0] (bodyOf Try.f17))), .it (.code (nav [1, 1, 1, 1, 0, 1, 0, 0, 1, 1, 0, 0, 1, 1, 1, 0, 0, 0, 1] (bodyOf Try.f17))), .it (.inLoop (nav [1, 1, 1, 1, 0, 1, 0, 0, 1, 1, 0, 0, 1, 1, 1, 0, 0, 0] (bodyOf Try.f17))), .it (.inBlock 2), .it (.code (nav [1, 1, 1, 1, 0, 1, 0, 0, 1, 1, 0, 0, 1, 1, 1, 1] (bodyOf Try.f17))), .it (.inBlock 1), .it (.code (nav [1, 1, 1, 1, 0, 1, 0, 0, 1, 1, 1] (bodyOf Try.f17))), .it (.inLoop (nav [1, 1, 1, 1, 0, 1, 0, 0] (bodyOf Try.f17))), .it (.inBlock 0), .it (.code (nav [1, 1, 1, 1, 1] (bodyOf Try.f17)))], [], Option.none⟩], [], 0⟩) .bad) .bad) .bad) (.done (EV.tup [(EV.slO 0 3 (List.length q) (nn)), (EV.v (Value.int IntKind.i64 (0)))]) [(0, (EK.seq 73 (SyC.recs [(Sh.int IntKind.i64), (Sh.int IntKind.i64), (Sh.int IntKind.i64)] (q)) (nn)))] 1)) := by kernel_rfl
end PFir
end Go.Proofs.Ytonbfalbfdkieaa.Ev
namespace Go.Proofs.Ytonbfalbfdkieaa.Ev
open Go.Proofs
namespace PCom
theorem lastO {m : Int} {X Y Q R : List (List U)} {D x y : List Int} {d : Nat} {i : Nat} (hi : X.length ≤ i) : EndZ 48 ctPC true (stOf (sC m X Y Q R D x y d (nnI x) (nnI y) X.length i)) (coE x y) (zseqs (coK x y)) 2 := by
  have h := lastO_t m X Y Q R D x y d (nnI x) (nnI y) i
  simp (disch := omega) only [Nat.add_eq, eqSy_self, eqN_self, bc_same, List.length_cons, ofn, wrap_in, dt, df, bltD, bltN, ble_of, bleN, beqD, bc_t, bc_f, nn_ok, Nat.zero_add, to_nat, Int.zero_add, Int.sub_zero, Int.sub_self, Int.cast_ofNat_Int, Int.natCast_zero, Int.toNat_zero, List.take_zero, List.nil_append, List.length_append, List.length_nil] at h
  exact .done h
theorem loopO {n : Nat} {m : Int} {X Y Q : List (List U)} (hX : X.length ≤ 20000) (hY : Y.length ≤ 20000) (hn : n ≤ 48) (tx : thrs n X) (ty : thrs n Y) : ∀ (k i : Nat) (D x y : List Int), i + k = X.length → D.length = n → Cnt D (2 * i) → x.length ≤ i → y.length ≤ i → EndZ 48 ctPC true (stOf (sC m X Y Q (rowsT (thF Y 0 (th0 n))) D x y n (nnI x) (nnI y) X.length i)) (coE (x ++ (comF Y (rowsT (thF Y 0 (th0 n))) (X.drop i) i D).1) (y ++ (comF Y (rowsT (thF Y 0 (th0 n))) (X.drop i) i D).2)) (zseqs (coK (x ++ (comF Y (rowsT (thF Y 0 (th0 n))) (X.drop i) i D).1) (y ++ (comF Y (rowsT (thF Y 0 (th0 n))) (X.drop i) i D).2))) 2
  | 0, i, D, x, y, h, hD, hc, hx, hy => by
    rw [List.drop_eq_nil_of_le (by omega)]
    show EndZ _ _ _ _ (coE (x ++ []) (y ++ [])) (zseqs (coK (x ++ []) (y ++ []))) _
    rw [List.append_nil, List.append_nil]
    exact lastO (by omega)
  | k + 1, i, D, x, y, h, hD, hc, hx, hy => by
    have hi : i < X.length := by omega
    have h1 := step (m := m) (Q := Q) (nx := nnI x) (ny := nnI y) hi hX hY hn tx ty hD hc hx hy
    refine .at ctPC_ok h1 ?_
    have h2 := loopO (m := m) (Q := Q) hX hY hn tx ty k (i + 1) (stepD (comB Y (rowsT (thF Y 0 (th0 n))) D X[i]) D X[i]) (x ++ bc (comB Y (rowsT (thF Y 0 (th0 n))) D X[i]) [(i : Int)] []) (y ++ bc (comB Y (rowsT (thF Y 0 (th0 n))) D X[i]) [nxtF D (rowsT (thF Y 0 (th0 n))) (xO X[i])] []) (by omega) (by rw [stepD_len]; exact hD) (by
      have := hc.step (q := comB Y (rowsT (thF Y 0 (th0 n))) D X[i]) (r := X[i]) (by omega)
      rw [show (2 * ((i + 1 : Nat) : Int)) = 2 * (i : Int) + 2 by omega]
      exact this) (by
      rw [List.length_append]
      cases comB Y (rowsT (thF Y 0 (th0 n))) D X[i] <;> simp [bc] <;> omega) (by
      rw [List.length_append]
      cases comB Y (rowsT (thF Y 0 (th0 n))) D X[i] <;> simp [bc] <;> omega)
    rw [nnI_app, nnI_app] at h2
    rw [List.drop_eq_getElem_cons hi]
    unfold comF
    rw [List.append_assoc, List.append_assoc] at h2
    revert h2
    cases comB Y (rowsT (thF Y 0 (th0 n))) D X[i]
    · exact fun h2 => h2
    · exact fun h2 => h2
theorem endsO (n m : Int) (X P Y Q : List (List U)) (hE : fiE n m X P Y Q = 0) : EndZ 48 ctPC true (st0 48 [clE n X P, clE m Y Q]) (coE (coP n m X P Y Q).1 (coP n m X P Y Q).2) (zseqs (coK (coP n m X P Y Q).1 (coP n m X P Y Q).2)) 2 := by
  have h := in_t n m X P Y Q
  have z1 : chk17 n X P = 0 := by
    apply Classical.byContradiction
    intro z
    unfold fiE at hE
    rw [show (chk17 n X P != 0) = true by simp [z], bc_t] at hE
    exact z hE
  have b1 : (chk17 n X P != 0) = false := by simp [z1]
  have z2 : chk17 m Y Q = 0 := by
    apply Classical.byContradiction
    intro z
    unfold fiE at hE
    rw [b1, bc_f, show (chk17 m Y Q != 0) = true by simp [z], bc_t] at hE
    exact z hE
  have b3 : (chk17 m Y Q != 0) = false := by simp [z2]
  have z3 : n = m := by
    apply Classical.byContradiction
    intro z
    unfold fiE at hE
    rw [b1, bc_f, b3, bc_f, show (n != m) = true by simp [z], bc_t] at hE
    cases hE
  have b4 : (n != m) = false := by simp [z3]
  rw [b1, bc_f, b3, bc_f, b4, bc_f] at h
  obtain ⟨c1, c2, c3, c4, c5, _⟩ := chk17_ok z1
  obtain ⟨d1, d2, d3, d4, d5, _⟩ := chk17_ok z2
  unfold coP
  rw [hE]
  subst z3
  obtain ⟨n, rfl⟩ := Int.eq_ofNat_of_zero_le (show 0 ≤ n by omega)
  rw [dt (show (0 : Int) ≤ n ∧ (n : Int) ≤ 48 ∧ Y.length ≤ 20000 ∧ thrs n Y from ⟨by omega, by omega, by omega, d5⟩), bc_t] at h
  simp (disch := omega) only [Nat.add_eq, eqSy_self, eqN_self, bc_same, List.length_cons, ofn, wrap_in, dt, df, bltD, bltN, ble_of, bleN, beqD, bc_t, bc_f, nn_ok, Nat.zero_add, to_nat, Int.zero_add, Int.sub_zero, Int.sub_self, Int.cast_ofNat_Int, Int.natCast_zero, Int.toNat_zero, List.take_zero, List.nil_append, List.length_append, List.length_nil] at h
  have hz : (zerosL n).length = n := by unfold zerosL; simp
  rw [hz] at h
  exact .at ctPC_ok h (loopO c3 d3 (by omega) c5 d5 X.length 0 (zerosL n) [] [] (by omega) hz (fun j => by
    unfold zerosL
    rw [List.getD_eq_getElem?_getD, List.getElem?_replicate]
    split <;> simp) (Nat.le_refl _) (Nat.le_refl _))
end PCom
noncomputable def spPComO : ZCT := fun ax => match ax with
  | [.agg [.v (.int .i64 n), .lst (.recs [.int .i64, .int .i64, .int .i64, .int .i64] X), .lst (.recs [.int .i64, .int .i64, .int .i64, .int .i64] P)], .agg [.v (.int .i64 m), .lst (.recs [.int .i64, .int .i64, .int .i64, .int .i64] Y), .lst (.recs [.int .i64, .int .i64, .int .i64, .int .i64] Q)]] => some ⟨decide (fiE n m X P Y Q = 0), PCom.coE (coP n m X P Y Q).1 (coP n m X P Y Q).2, PCom.coK (coP n m X P Y Q).1 (coP n m X P Y Q).2, 2⟩
  | _ => none
theorem spPComO_ok : ZCtOk Try.prog 48 spPComO := fun γ w us ax r hs hc hax hN hfz => by
  unfold spPComO at hs
  split at hs
  case h_2 => cases hs
  rename_i n X P m Y Q
  obtain ⟨rfl⟩ := Option.some.inj hs
  have hc_0 : decide (fiE n m X P Y Q = 0) = true := hc
  have hc := of_decide_eq_true hc_0
  exact EndZ.calls (PCom.endsO n m X P Y Q hc) ctPC_ok (by kernel_rfl) hax hN hfz
namespace PFir
theorem lastO {R S q : List (List U)} {z i : Int} (hi : z ≤ i) : EndZ 17 ctPF true (stOf (sO R S q (nnR q) z i)) (fiO q) (zseqs (fiK q)) 1 := by
  have h1 := lastO_t R S q (nnR q) z i
  simp (disch := omega) only [Nat.add_eq, eqSy_self, eqN_self, bc_same, List.length_cons, ofn, wrap_in, dt, df, bltD, bltN, ble_of, bleN, beqD, bc_t, bc_f, nn_ok, Nat.zero_add, to_nat, Int.zero_add, Int.sub_zero, Int.sub_self, Int.cast_ofNat_Int, Int.natCast_zero, Int.toNat_zero, List.take_zero, List.nil_append, List.length_append, List.length_nil] at h1
  exact .done h1
theorem loopO {n : Nat} {X Y : List (List U)} (hX : X.length ≤ 20000) (hY : Y.length ≤ 20000) (hn : n ≤ 48) (tx : thrs n X) (ty : thrs n Y) : ∀ (k i : Nat) (q : List (List U)), i + k = n → q.length ≤ i → EndZ 17 ctPF true (stOf (sO (rowsT (thF X 0 (th0 n))) (rowsT (thF Y 0 (th0 n))) q (nnR q) n i)) (fiO (q ++ fiF X Y i k)) (zseqs (fiK (q ++ fiF X Y i k))) 1
  | 0, i, q, h, hq => by
    show EndZ _ _ _ _ (fiO (q ++ [])) (zseqs (fiK (q ++ []))) _
    rw [List.append_nil]
    exact lastO (by omega)
  | k + 1, i, q, h, hq => by
    have hi : i < n := by omega
    have lA : (thF X 0 (th0 n)).length = n := by rw [thF_len]; unfold th0; simp
    have lB : (thF Y 0 (th0 n)).length = n := by rw [thF_len]; unfold th0; simp
    have g0 : (getT (th0 n) i).1 = [] := by
      unfold getT th0
      rw [List.getD_eq_getElem?_getD, List.getElem?_replicate, if_pos hi]; rfl
    have l0 : (th0 n).length = n := by unfold th0; simp
    have gA : (getT (thF X 0 (th0 n)) i).1 = hiF i X := by
      rw [thF_hi i X 0 (th0 n) (by omega) (fun r hr => by rw [l0]; exact tx r hr), g0]; rfl
    have gB : (getT (thF Y 0 (th0 n)) i).1 = hiF i Y := by
      rw [thF_hi i Y 0 (th0 n) (by omega) (fun r hr => by rw [l0]; exact ty r hr), g0]; rfl
    have h1 := o_t (rowsT (thF X 0 (th0 n))) (rowsT (thF Y 0 (th0 n))) q (nnR q) n i
    have mA : U.list (List.getD (List.getD (rowsT (thF X 0 (th0 n))) i []) 0 (U.i 0)) = hiF i X := (getM (by omega)).trans gA
    have mB : U.list (List.getD (List.getD (rowsT (thF Y 0 (th0 n))) i []) (Nat.add 0 0) (U.i 0)) = hiF i Y := (getM (by omega)).trans gB
    have rA : (rowsT (thF X 0 (th0 n))).length = n := by rw [rowsT_len, lA]
    have rB : (rowsT (thF Y 0 (th0 n))).length = n := by rw [rowsT_len, lB]
    rw [to_nat, mA, mB, rA, rB] at h1
    simp (disch := omega) only [Nat.add_eq, eqSy_self, eqN_self, bc_same, List.length_cons, ofn, wrap_in, dt, df, bltD, bltN, ble_of, bleN, beqD, bc_t, bc_f, nn_ok, Nat.zero_add, to_nat, Int.zero_add, Int.sub_zero, Int.sub_self, Int.cast_ofNat_Int, Int.natCast_zero, Int.toNat_zero, List.take_zero, List.nil_append, List.length_append, List.length_nil] at h1
    have hx := hiF_len i X
    have hy := hiF_len i Y
    refine .at ctPF_ok h1 (inner (by omega) (by omega) (by omega) (by omega) (max (hiF i X).length (hiF i Y).length) 0 (nnR q) (by omega) (by omega) (by omega) ?_)
    have h2 := loopO hX hY hn tx ty k (i + 1) (q ++ adP i (paF 0 (hiF i X) (hiF i Y))) (by omega) (by
      rw [List.length_append]
      unfold adP
      cases (paF 0 (hiF i X) (hiF i Y)).2.2 <;> simp [bc] <;> omega)
    rw [List.append_assoc] at h2
    rw [show nnR (q ++ adP i (paF 0 (hiF i X) (hiF i Y))) = bc (paF 0 (hiF i X) (hiF i Y)).2.2 true (nnR q) from nnR_app _ _ _] at h2
    exact h2
theorem endsO (n m : Int) (X P Y Q : List (List U)) (hE : fiE n m X P Y Q = 0) : EndZ 17 ctPF true (st0 17 [clE n X P, clE m Y Q]) (fiO (fiL n m X P Y Q)) (zseqs (fiK (fiL n m X P Y Q))) 1 := by
  have h := in_t n m X P Y Q
  have z1 : chk17 n X P = 0 := by
    apply Classical.byContradiction
    intro z
    unfold fiE at hE
    rw [show (chk17 n X P != 0) = true by simp [z], bc_t] at hE
    exact z hE
  have b1 : (chk17 n X P != 0) = false := by simp [z1]
  have z2 : chk17 m Y Q = 0 := by
    apply Classical.byContradiction
    intro z
    unfold fiE at hE
    rw [b1, bc_f, show (chk17 m Y Q != 0) = true by simp [z], bc_t] at hE
    exact z hE
  have b3 : (chk17 m Y Q != 0) = false := by simp [z2]
  have z3 : n = m := by
    apply Classical.byContradiction
    intro z
    unfold fiE at hE
    rw [b1, bc_f, b3, bc_f, show (n != m) = true by simp [z], bc_t] at hE
    cases hE
  have b4 : (n != m) = false := by simp [z3]
  rw [b1, bc_f, b3, bc_f, b4, bc_f] at h
  obtain ⟨c1, c2, c3, c4, c5, _⟩ := chk17_ok z1
  obtain ⟨d1, d2, d3, d4, d5, _⟩ := chk17_ok z2
  unfold fiL
  rw [hE]
  subst z3
  obtain ⟨n, rfl⟩ := Int.eq_ofNat_of_zero_le (show 0 ≤ n by omega)
  rw [dt (show (0 : Int) ≤ n ∧ (n : Int) ≤ 48 ∧ Y.length ≤ 20000 ∧ thrs n Y from ⟨by omega, by omega, by omega, d5⟩), bc_t, dt (show (0 : Int) ≤ n ∧ (n : Int) ≤ 48 ∧ X.length ≤ 20000 ∧ thrs n X from ⟨by omega, by omega, by omega, c5⟩), bc_t] at h
  have l0 : (th0 n).length = n := by unfold th0; simp
  rw [to_nat, rowsT_len, thF_len, l0] at h
  exact .at ctPF_ok h (loopO c3 d3 (by omega) c5 d5 n 0 [] (by omega) (Nat.le_refl _))
end PFir
noncomputable def spPFirO : ZCT := fun ax => match ax with
  | [.agg [.v (.int .i64 n), .lst (.recs [.int .i64, .int .i64, .int .i64, .int .i64] X), .lst (.recs [.int .i64, .int .i64, .int .i64, .int .i64] P)], .agg [.v (.int .i64 m), .lst (.recs [.int .i64, .int .i64, .int .i64, .int .i64] Y), .lst (.recs [.int .i64, .int .i64, .int .i64, .int .i64] Q)]] => some ⟨decide (fiE n m X P Y Q = 0), PFir.fiO (fiL n m X P Y Q), PFir.fiK (fiL n m X P Y Q), 1⟩
  | _ => none
theorem spPFirO_ok : ZCtOk Try.prog 17 spPFirO := fun γ w us ax r hs hc hax hN hfz => by
  unfold spPFirO at hs
  split at hs
  case h_2 => cases hs
  rename_i n X P m Y Q
  obtain ⟨rfl⟩ := Option.some.inj hs
  have hc_0 : decide (fiE n m X P Y Q = 0) = true := hc
  have hc := of_decide_eq_true hc_0
  exact EndZ.calls (PFir.endsO n m X P Y Q hc) ctPF_ok (by kernel_rfl) hax hN hfz
end Go.Proofs.Ytonbfalbfdkieaa.Ev
namespace Go.Proofs.Ytonbfalbfdkieaa.Ev
open Go.Proofs
noncomputable def ctCS : Tr ZCC := (((((((Tr.nil.put 45 (some (dC spPHis))).put 46 (some (dC spExc))).put 47 (some (dC spPSam))).put 48 (some (mC (bM spPComO)))).put 17 (some (mC (bM spPFirO)))).put 49 (some (dC spKpt))).put 15 (some (dC spFar))).put 16 (some (dC spTrue))
theorem ctCS_ok : ZCtsOk Try.prog ctCS := ((((((((ZCtsOk.nil _).add rfl spPHis_ok).add rfl spExc_ok).add rfl spPSam_ok).addM rfl (bM_ok spPComO_ok)).addM rfl (bM_ok spPFirO_ok)).add rfl spKpt_ok).add rfl spFar_ok).add rfl spShown_ok
namespace ACmS
noncomputable def RUN (s : ES) : ZF := RZs 9 ctCS [(atS 0 9 14, [[(2,none),(3,none),(9,none)]]), (atS 0 9 16, [[(3,none),(9,none),(16,none),(17,none)]]), (atS 0 9 17, [[(3,none),(9,none),(17,none)]])] [] false s

noncomputable def sA (n t : Int) (X P q : List (List U)) : NS := ⟨[⟨9, 198, [(2, (EV.v (Value.int IntKind.u16 (t)))), (3, (EV.ptr 0 0)), (9, (EV.ptr 1 0))], [.it (.code (nav [1, 1, 1, 1, 1, 1, 1, 1, 1, 1] (bodyOf Try.f9)))], [], Option.none⟩], [(0, (EK.cells 25 [(EV.v (Value.int IntKind.i64 (n))), (EV.lst (SyC.recs [(Sh.int IntKind.i64), (Sh.int IntKind.i64), (Sh.int IntKind.i64), (Sh.int IntKind.i64)] (X))), (EV.lst (SyC.recs [(Sh.int IntKind.i64), (Sh.int IntKind.i64), (Sh.int IntKind.i64), (Sh.int IntKind.i64)] (P)))] true)), (1, EK.cells 25 [iv n, EV.slO 2 4 q.length true, EV.lst (.recs shX P)] true), (2, EK.seq 71 (.recs shX q) true)], 3⟩
noncomputable def sK (n : Int) (X P q : List (List U)) (k zw za zo zu : Int) : NS := ⟨[⟨9, 198, [(3, (EV.ptr 0 0)), (9, (EV.ptr 1 0)), (16, iv k), (17, (EV.ptr 2 0))], [.it (.code (nav [1, 1, 1, 1, 1, 1, 1, 1, 1, 1, 1, 1] (bodyOf Try.f9)))], [], Option.none⟩], [(0, (EK.cells 25 [(EV.v (Value.int IntKind.i64 (n))), (EV.lst (SyC.recs [(Sh.int IntKind.i64), (Sh.int IntKind.i64), (Sh.int IntKind.i64), (Sh.int IntKind.i64)] (X))), (EV.lst (SyC.recs [(Sh.int IntKind.i64), (Sh.int IntKind.i64), (Sh.int IntKind.i64), (Sh.int IntKind.i64)] (P)))] true)), (1, (EK.cells 25 [(EV.v (Value.int IntKind.i64 (n))), (EV.slO 3 4 (List.length q) true), (EV.lst (SyC.recs [(Sh.int IntKind.i64), (Sh.int IntKind.i64), (Sh.int IntKind.i64), (Sh.int IntKind.i64)] (P)))] true)), (2, EK.cells 71 [iv zw, iv za, iv zo, iv zu] true), (3, EK.seq 71 (.recs shX q) true)], 4⟩
noncomputable def sB (n : Int) (X P q : List (List U)) (d : Nat) (zw za zo zu : Int) : NS := ⟨[⟨9, 198, [(3, (EV.ptr 0 0)), (9, (EV.ptr 1 0)), (17, (EV.ptr 2 0))], [.it (.code (nav [1, 1, 1, 1, 1, 1, 1, 1, 1, 1, 1, 1, 1] (bodyOf Try.f9)))], [], Option.none⟩], [(0, (EK.cells 25 [(EV.v (Value.int IntKind.i64 (n))), (EV.lst (SyC.recs [(Sh.int IntKind.i64), (Sh.int IntKind.i64), (Sh.int IntKind.i64), (Sh.int IntKind.i64)] (X))), (EV.lst (SyC.recs [(Sh.int IntKind.i64), (Sh.int IntKind.i64), (Sh.int IntKind.i64), (Sh.int IntKind.i64)] (P)))] true)), (1, EK.cells 25 [iv n, EV.slO 3 4 d true, EV.lst (.recs shX P)] true), (2, (EK.cells 71 [(EV.v (Value.int IntKind.i64 (zw))), (EV.v (Value.int IntKind.i64 (za))), (EV.v (Value.int IntKind.i64 (zo))), (EV.v (Value.int IntKind.i64 (zu)))] true)), (3, EK.seq 71 (.recs shX q) true)], 4⟩
theorem in_t (n t : Int) (X P : List (List U)) (l : List Int) : RUN (st0 9 [clE n X P, .lst (.ints .u16 l), .v (.int .u16 t)]) = (bc (farB n (100 : Int) X P) (.done (EV.v (Value.bool true)) [] 0) (bc (decide ((300 : Int) < Int.ofNat (List.length l))) (.done (EV.v (Value.bool true)) [] 0) (bc (hisE n (0 : Int) X P != (0 : Int)) (bc (Int.ofNat (List.length (hisL n (0 : Int) X P)) == (0 : Int)) (.done (EV.v (Value.bool true)) [] 0) (.done (EV.v (Value.bool false)) [] 0)) (bc (decide (List.length X ≤ (20000 : Nat) ∧ List.length l ≤ (1000 : Nat) ∧ In16 l)) (bc (bc (bc (bc (bc (Nat.beq (List.length (exF l X)) (List.length (exF l X))) true false) true false) (decide True) false) true false) (bc (bc (bc (bc (bc (Nat.beq (List.length (exF l X)) (List.length (exF l X))) true false) true false) (decide (fiE n n X P (exF l X) P = (0 : Int))) false) true false) (bc (bc (bc (bc (bc (Nat.beq (List.length (exF l X)) (List.length (exF l X))) true false) true false) (decide (fiE n n X P (exF l X) P = (0 : Int))) false) true false) (bc (botE n n X P (exF l X) P != (0 : Int)) (.done (EV.v (Value.bool false)) [] 0) (bc (!samB n n X P (exF l X) P) (.done (EV.v (Value.bool false)) [] 0) (bc (Int.ofNat (List.length (fiL n n X P (exF l X) P)) != (0 : Int)) (.done (EV.v (Value.bool false)) [] 0) (bc (Int.ofNat (List.length (Prod.fst (coP n n X P (exF l X) P))) != Int.ofNat (List.length X)) (.done (EV.v (Value.bool false)) [] 0) (bc (Int.ofNat (List.length (Prod.snd (coP n n X P (exF l X) P))) != Int.ofNat (List.length (Prod.fst (coP n n X P (exF l X) P)))) (.done (EV.v (Value.bool false)) [] 0) (bc (bc (bc (bc (bc (Nat.beq (List.length (exF l X)) (List.length (exF l X))) true false) (bc (Nat.beq (List.length (Prod.fst (coP n n X P (exF l X) P))) (List.length (Prod.fst (coP n n X P (exF l X) P)))) (bc (Nat.beq (List.length (Prod.snd (coP n n X P (exF l X) P))) (List.length (Prod.snd (coP n n X P (exF l X) P)))) true false) false) false) (decide (List.length (Prod.fst (coP n n X P (exF l X) P)) ≤ (20000 : Nat) ∧ List.length X ≤ (30000 : Nat) ∧ List.length (exF l X) ≤ (30000 : Nat) ∧ Kpt X (exF l X) (Prod.fst (coP n n X P (exF l X) P)) (Prod.snd (coP n n X P (exF l X) P)))) false) true false) (bc (Int.ofNat (List.length (exF l X)) == (0 : Int)) (.done (EV.v (Value.bool true)) [] 0) (.at (sA (n) (t) (X) (P) (exF l X)))) .bad)))))) .bad) .bad) .bad) .bad)))) := by kernel_rfl
theorem a_t (n t : Int) (X P q : List (List U)) : RUN (stOf (sA n t X P q)) = (bc (bc (bnot (Int.ofNat (List.length q) == (0 : Int))) true false) (bc (bc (bc (decide ((0 : Int) ≤ Int.tmod (IntKind.wrap IntKind.i64 t) (Int.ofNat (List.length q)))) (Nat.blt (Int.toNat (Int.tmod (IntKind.wrap IntKind.i64 t) (Int.ofNat (List.length q)))) (List.length q)) false) true false) (bc (bc (Nat.blt (Int.toNat (Int.tmod (IntKind.wrap IntKind.i64 t) (Int.ofNat (List.length q)))) (List.length q)) true false) (.at (sK (n) (X) (P) (q) (Int.tmod (IntKind.wrap IntKind.i64 t) (Int.ofNat (List.length q))) (U.int (List.getD (List.getD q (Int.toNat (Int.tmod (IntKind.wrap IntKind.i64 t) (Int.ofNat (List.length q)))) []) (0 : Nat) (U.i (0 : Int)))) (U.int (List.getD (List.getD q (Int.toNat (Int.tmod (IntKind.wrap IntKind.i64 t) (Int.ofNat (List.length q)))) []) (Nat.succ (0 : Nat)) (U.i (0 : Int)))) (U.int (List.getD (List.getD q (Int.toNat (Int.tmod (IntKind.wrap IntKind.i64 t) (Int.ofNat (List.length q)))) []) (Nat.succ (Nat.succ (0 : Nat))) (U.i (0 : Int)))) (U.int (List.getD (List.getD q (Int.toNat (Int.tmod (IntKind.wrap IntKind.i64 t) (Int.ofNat (List.length q)))) []) (Nat.succ (Nat.succ (Nat.succ (0 : Nat)))) (U.i (0 : Int)))))) .bad) .bad) .bad) := by kernel_rfl
theorem k_t (n : Int) (X P q : List (List U)) (k zw za zo zu : Int) : RUN (stOf (sK n X P q k zw za zo zu)) = (bc (bc (bc (bc (bc (decide ((0 : Int) ≤ k)) (Nat.blt (Int.toNat k) (List.length q)) false) true false) (bc (Nat.blt (Int.toNat k) (List.length q)) (bc (bc (bc (decide ((0 : Int) ≤ k)) (Nat.blt (Int.toNat k) (List.length q)) false) true false) (bc (Nat.blt (Int.toNat k) (List.length (List.set q (Int.toNat k) (List.headD (List.getD q (Int.toNat k) []) (U.i (0 : Int)) :: List.headD (List.tail (List.getD q (Int.toNat k) [])) (U.i (0 : Int)) :: ([U.i zu] ++ List.drop (List.length [U.i zu]) (List.tail (List.tail (List.getD q (Int.toNat k) [])))))))) true false) false) false) false) (bc (bc (bc (bc (Nat.beq (List.length q) (List.length q)) (eqN true true) false) true false) (bc (bc (decide (zo = zo)) true false) true false) false) true false) false) (.at (sB (n) (X) (P) (List.set (List.set q (Int.toNat k) (List.headD (List.getD q (Int.toNat k) []) (U.i (0 : Int)) :: List.headD (List.tail (List.getD q (Int.toNat k) [])) (U.i (0 : Int)) :: ([U.i zu] ++ List.drop (List.length [U.i zu]) (List.tail (List.tail (List.getD q (Int.toNat k) [])))))) (Int.toNat k) (List.headD (List.getD (List.set q (Int.toNat k) (List.headD (List.getD q (Int.toNat k) []) (U.i (0 : Int)) :: List.headD (List.tail (List.getD q (Int.toNat k) [])) (U.i (0 : Int)) :: ([U.i zu] ++ List.drop (List.length [U.i zu]) (List.tail (List.tail (List.getD q (Int.toNat k) [])))))) (Int.toNat k) []) (U.i (0 : Int)) :: List.headD (List.tail (List.getD (List.set q (Int.toNat k) (List.headD (List.getD q (Int.toNat k) []) (U.i (0 : Int)) :: List.headD (List.tail (List.getD q (Int.toNat k) [])) (U.i (0 : Int)) :: ([U.i zu] ++ List.drop (List.length [U.i zu]) (List.tail (List.tail (List.getD q (Int.toNat k) [])))))) (Int.toNat k) [])) (U.i (0 : Int)) :: List.headD (List.tail (List.tail (List.getD (List.set q (Int.toNat k) (List.headD (List.getD q (Int.toNat k) []) (U.i (0 : Int)) :: List.headD (List.tail (List.getD q (Int.toNat k) [])) (U.i (0 : Int)) :: ([U.i zu] ++ List.drop (List.length [U.i zu]) (List.tail (List.tail (List.getD q (Int.toNat k) [])))))) (Int.toNat k) []))) (U.i (0 : Int)) :: ([U.i zo] ++ List.drop (List.length [U.i zo]) (List.tail (List.tail (List.tail (List.getD (List.set q (Int.toNat k) (List.headD (List.getD q (Int.toNat k) []) (U.i (0 : Int)) :: List.headD (List.tail (List.getD q (Int.toNat k) [])) (U.i (0 : Int)) :: ([U.i zu] ++ List.drop (List.length [U.i zu]) (List.tail (List.tail (List.getD q (Int.toNat k) [])))))) (Int.toNat k) []))))))) (List.length q) (zw) (za) (zo) (zu))) .bad) := by kernel_rfl
theorem b_t (n : Int) (X P q : List (List U)) (d : Nat) (zw za zo zu : Int) : RUN (stOf (sB n X P q d zw za zo zu)) = (bc (bc (bc (bc (bc (Nat.beq d (List.length q)) true false) true false) (decide True) false) true false) (bc (bc (bc (bc (bc (Nat.beq d (List.length q)) true false) true false) (decide (fiE n n X P q P = (0 : Int))) false) true false) (bc (botE n n X P q P != (0 : Int)) (.done (EV.v (Value.bool false)) [] 0) (bc (samB n n X P q P) (.done (EV.v (Value.bool false)) [] 0) (bc (Int.ofNat (List.length (fiL n n X P q P)) != (2 : Int)) (.done (EV.v (Value.bool false)) [] 0) (bc (bc (Nat.blt (Int.toNat (0 : Int)) (List.length (fiL n n X P q P))) true false) (bc (bc (Nat.blt (Int.toNat (0 : Int)) (List.length (fiL n n X P q P))) true false) (bc (U.int (List.getD (List.getD (fiL n n X P q P) (Int.toNat (0 : Int)) []) (Nat.add (0 : Nat) (2 : Nat)) (U.i (0 : Int))) != (2 : Int)) (.done (EV.v (Value.bool false)) [] 0) (bc (bc (Nat.blt (Int.toNat (1 : Int)) (List.length (fiL n n X P q P))) true false) (bc (bc (Nat.blt (Int.toNat (1 : Int)) (List.length (fiL n n X P q P))) true false) (bc (U.int (List.getD (List.getD (fiL n n X P q P) (Int.toNat (1 : Int)) []) (Nat.add (0 : Nat) (2 : Nat)) (U.i (0 : Int))) != (2 : Int)) (.done (EV.v (Value.bool false)) [] 0) (bc (U.int (List.getD (List.getD (fiL n n X P q P) (Int.toNat (0 : Int)) []) (Nat.add (0 : Nat) (0 : Nat)) (U.i (0 : Int))) == if zu < zo then zu else zo) (bc (U.int (List.getD (List.getD (fiL n n X P q P) (Int.toNat (1 : Int)) []) (Nat.add (0 : Nat) (0 : Nat)) (U.i (0 : Int))) == if zu > zo then zu else zo) (bc (bc (bc (bc (Nat.blt (Int.toNat (0 : Int)) (List.length (fiL n n X P q P))) true false) (bc (bc (Nat.blt (Int.toNat (0 : Int)) (List.length (fiL n n X P q P))) true false) (bc (eqB (U.int (List.getD (List.getD (fiL n n X P q P) (Int.toNat (0 : Int)) []) (Nat.add (0 : Nat) (0 : Nat)) (U.i (0 : Int))) == if zu < zo then zu else zo) true) (bc (bc (Nat.blt (Int.toNat (1 : Int)) (List.length (fiL n n X P q P))) true false) (bc (bc (Nat.blt (Int.toNat (1 : Int)) (List.length (fiL n n X P q P))) true false) (bc (eqB (U.int (List.getD (List.getD (fiL n n X P q P) (Int.toNat (1 : Int)) []) (Nat.add (0 : Nat) (0 : Nat)) (U.i (0 : Int))) == if zu > zo then zu else zo) true) true false) false) false) false) false) false) true false) (.done (EV.v (Value.bool true)) [] 0) .bad) (bc (bc (bc (bc (Nat.blt (Int.toNat (0 : Int)) (List.length (fiL n n X P q P))) true false) (bc (bc (Nat.blt (Int.toNat (0 : Int)) (List.length (fiL n n X P q P))) true false) (bc (eqB (U.int (List.getD (List.getD (fiL n n X P q P) (Int.toNat (0 : Int)) []) (Nat.add (0 : Nat) (0 : Nat)) (U.i (0 : Int))) == if zu < zo then zu else zo) true) (bc (bc (Nat.blt (Int.toNat (1 : Int)) (List.length (fiL n n X P q P))) true false) (bc (bc (Nat.blt (Int.toNat (1 : Int)) (List.length (fiL n n X P q P))) true false) (bc (eqB (U.int (List.getD (List.getD (fiL n n X P q P) (Int.toNat (1 : Int)) []) (Nat.add (0 : Nat) (0 : Nat)) (U.i (0 : Int))) == if zu > zo then zu else zo) false) true false) false) false) false) false) false) true false) (.done (EV.v (Value.bool false)) [] 0) .bad)) (bc (bc (bc (bc (Nat.blt (Int.toNat (0 : Int)) (List.length (fiL n n X P q P))) true false) (bc (bc (Nat.blt (Int.toNat (0 : Int)) (List.length (fiL n n X P q P))) true false) (bc (eqB (U.int (List.getD (List.getD (fiL n n X P q P) (Int.toNat (0 : Int)) []) (Nat.add (0 : Nat) (0 : Nat)) (U.i (0 : Int))) == if zu < zo then zu else zo) false) true false) false) false) true false) (.done (EV.v (Value.bool false)) [] 0) .bad))) .bad) .bad)) .bad) .bad)))) .bad) .bad) := by kernel_rfl
end ACmS
end Go.Proofs.Ytonbfalbfdkieaa.Ev
namespace Go.Proofs.Ytonbfalbfdkieaa.Ev
open Go.Proofs
theorem u16_fit {n : Int} (h : (Lit.int .u16 n).wf = true) : 0 ≤ n ∧ n ≤ 65535 := by
  have h1 : IntKind.u16.min ≤ n ∧ n ≤ IntKind.u16.max := by simpa [Lit.wf] using h
  have e1 : IntKind.u16.min = 0 := rfl
  have e2 : IntKind.u16.max = 65535 := rfl
  omega
theorem in16_of {l : List (List U)} (h : UFit (.list [.int .u16]) (.l l)) : In16 (l.map fun r => (r.headD (.i 0)).int) := fun j => by
  cases h with
  | list _ _ hl hr hf =>
    rw [List.getD_eq_getElem?_getD, List.getElem?_map]
    by_cases hj : j < l.length
    · have h1 := hf j 0 (.int .u16) hj rfl
      rw [List.getElem?_eq_getElem hj]
      rw [getD_at hj] at h1
      have e : (l[j].headD (.i 0)) = l[j].getD 0 (.i 0) := by cases l[j] <;> rfl
      show 0 ≤ U.int _ ∧ U.int _ < 65536
      rw [e]
      cases h2 : l[j].getD 0 (.i 0) with
      | i n =>
        rw [h2] at h1
        cases h1 with
        | int _ _ hw =>
          have := u16_fit hw
          show 0 ≤ n ∧ n < 65536
          omega
      | b x => rw [h2] at h1; cases h1
      | s x => rw [h2] at h1; cases h1
      | l x => rw [h2] at h1; cases h1
    · rw [List.getElem?_eq_none (by omega)]
      exact ⟨Int.le_refl _, by decide⟩
namespace ACmS
theorem coP_all {n : Nat} {X P q : List (List U)} (hX : chk17 n X P = 0) (hq : chk17 n q P = 0) (hh : ∀ t, hiF t q = hiF t X) : fiE n n X P q P = 0 ∧ botE n n X P q P = 0 ∧ samB n n X P q P = true ∧ fiL n n X P q P = [] ∧ coP n n X P q P = ((List.range' 0 X.length).map (fun k : Nat => (k : Int)), (List.range' 0 X.length).map (fun k : Nat => (piI X q k : Int))) := by
  have b1 : (chk17 n X P != 0) = false := by simp [hX]
  have b2 : (chk17 n q P != 0) = false := by simp [hq]
  have b3 : ((n : Int) != (n : Int)) = false := by simp
  have e1 : fiE n n X P q P = 0 := by unfold fiE; rw [b1, b2, b3]; rfl
  have e2 : botE n n X P q P = 0 := by unfold botE; rw [b1, hq]; rfl
  obtain ⟨c1, c2, c3, c4, c5, _⟩ := chk17_ok hX
  obtain ⟨d1, d2, d3, d4, d5, _⟩ := chk17_ok hq
  refine ⟨e1, e2, ?_, ?_, ?_⟩
  · unfold samB
    rw [e2, b3]
    exact sameF_all hh n 0
  · unfold fiL
    rw [e1]
    exact fiF_no n 0 (fun s _ _ => (hh s).symm)
  · unfold coP
    rw [e1]
    have hz : (zerosL n).length = n := by unfold zerosL; simp
    have := comF_all (chk17_two hX) (chk17_two hq) c5 d5 hh X.length 0 (zerosL n) (by omega) hz (fun t ht => by
      unfold zerosL
      rw [List.getD_eq_getElem?_getD, List.getElem?_replicate, if_pos ht]; rfl)
    exact this
theorem head0 (r : List U) : U.int (r.headD (.i 0)) = xW r := by cases r <;> rfl
theorem head1 (r : List U) : U.int (r.tail.headD (.i 0)) = xA r := by
  match r with
  | [] => rfl
  | [_] => rfl
  | _ :: _ :: _ => rfl
theorem last (n : Nat) {X P q : List (List U)} {k : Nat} {z' : List U} (hX : chk17 n X P = 0) (hq : chk17 n q P = 0) (hh : ∀ t, hiF t q = hiF t X) (hk : k < q.length) (hz : Tu z' (q.getD k [])) : EndZ 9 ctCS false (stOf (sB n X P (q.set k z') q.length (xW (q.getD k [])) (xA (q.getD k [])) (xO (q.getD k [])) (xU (q.getD k [])))) (bv true) [] 0 := by
  have h := b_t n X P (q.set k z') q.length (xW (q.getD k [])) (xA (q.getD k [])) (xO (q.getD k [])) (xU (q.getD k []))
  have hq2 := chk_tu hk hz hq
  have b1 : (chk17 n X P != 0) = false := by simp [hX]
  have b2 : (chk17 n (q.set k z') P != 0) = false := by simp [hq2]
  have b3 : ((n : Int) != (n : Int)) = false := by simp
  have e1 : fiE n n X P (q.set k z') P = 0 := by unfold fiE; rw [b1, b2, b3]; rfl
  have e2 : botE n n X P (q.set k z') P = 0 := by unfold botE; rw [b1, hq2]; rfl
  obtain ⟨d1, d2, d3, d4, d5, _⟩ := chk17_ok hq
  obtain ⟨a, b, t1, t2⟩ := turned (chk17_two hq) d5 hh hk hz
  have e3 : samB n n X P (q.set k z') P = false := by
    unfold samB
    rw [e2, b3]
    exact t2
  have e4 : fiL n n X P (q.set k z') P = [[.i (min (xO (q.getD k [])) (xU (q.getD k []))), .i a, .i 2], [.i (max (xO (q.getD k [])) (xU (q.getD k []))), .i b, .i 2]] := by
    unfold fiL
    rw [e1]; exact t1
  rw [e1, e2, e3, e4] at h
  generalize xO (q.getD k []) = o at *
  generalize xU (q.getD k []) = u at *
  have m1 : (if u < o then u else o) = min o u := by split <;> omega
  have m2 : (if u > o then u else o) = max o u := by split <;> omega
  rw [m1, m2] at h
  have f1 : U.int (List.getD (List.getD [[U.i (min o u), .i a, .i 2], [U.i (max o u), .i b, .i 2]] (Int.toNat 0) []) (Nat.add 0 0) (U.i 0)) = min o u := rfl
  have f2 : U.int (List.getD (List.getD [[U.i (min o u), .i a, .i 2], [U.i (max o u), .i b, .i 2]] (Int.toNat 1) []) (Nat.add 0 0) (U.i 0)) = max o u := rfl
  have f3 : U.int (List.getD (List.getD [[U.i (min o u), .i a, .i 2], [U.i (max o u), .i b, .i 2]] (Int.toNat 0) []) (Nat.add 0 2) (U.i 0)) = 2 := rfl
  have f4 : U.int (List.getD (List.getD [[U.i (min o u), .i a, .i 2], [U.i (max o u), .i b, .i 2]] (Int.toNat 1) []) (Nat.add 0 2) (U.i 0)) = 2 := rfl
  rw [f1, f2, f3, f4, List.length_set, Nat.beq_refl] at h
  simp only [beq_self_eq_true, bc_t, bne_self_eq_false, bc_f, decide_true, eqB] at h
  exact .done h
theorem turn {n : Nat} {X P q : List (List U)} {k : Nat} (hX : chk17 n X P = 0) (hq : chk17 n q P = 0) (hh : ∀ t, hiF t q = hiF t X) (hk : k < q.length) : EndZ 9 ctCS false (stOf (sK n X P q k (xW (q.getD k [])) (xA (q.getD k [])) (xO (q.getD k [])) (xU (q.getD k [])))) (bv true) [] 0 := by
  have h := k_t n X P q k (xW (q.getD k [])) (xA (q.getD k [])) (xO (q.getD k [])) (xU (q.getD k []))
  rw [to_nat] at h
  generalize hr : q.getD k [] = r at *
  generalize hr1 : (List.headD r (U.i 0) :: List.headD (List.tail r) (U.i 0) :: ([U.i (xU r)] ++ List.drop (List.length [U.i (xU r)]) (List.tail (List.tail r)))) = r1 at h
  have g1 : (q.set k r1).getD k [] = r1 := by
    rw [List.getD_eq_getElem?_getD, List.getElem?_set, if_pos rfl, if_pos hk]; rfl
  rw [g1, List.set_set] at h
  generalize hr2 : (List.headD r1 (U.i 0) :: List.headD (List.tail r1) (U.i 0) :: List.headD (List.tail (List.tail r1)) (U.i 0) :: ([U.i (xO r)] ++ List.drop (List.length [U.i (xO r)]) (List.tail (List.tail (List.tail r1))))) = r2 at h
  have tu : Tu r2 r := by
    rw [← hr2, ← hr1]
    exact ⟨head0 r, head1 r, rfl, rfl⟩
  simp (disch := omega) only [Nat.add_eq, eqSy_self, eqN_self, bc_same, List.length_cons, ofn, wrap_in, dt, df, bltD, bltN, ble_of, bleN, beqD, bc_t, bc_f, nn_ok, Nat.zero_add, to_nat, Int.zero_add, Int.sub_zero, Int.sub_self, Int.cast_ofNat_Int, Int.natCast_zero, Int.toNat_zero, List.take_zero, List.nil_append, List.length_append, List.length_nil, List.length_set, decide_true] at h
  have h2 := last n hX hq hh hk (z' := r2) (by rw [hr]; exact tu)
  rw [hr] at h2
  exact .at ctCS_ok h h2
theorem ends (n t : Int) (X P : List (List U)) (l : List Int) (h16 : In16 l) (ht : 0 ≤ t ∧ t ≤ 65535) : EndZ 9 ctCS false (st0 9 [clE n X P, .lst (.ints .u16 l), .v (.int .u16 t)]) (bv true) [] 0 := by
  have h := in_t n t X P l
  cases h1 : farB n 100 X P <;> rw [h1] at h
  case true => exact .done h
  rw [bc_f, ofn] at h
  by_cases h2 : 300 < (l.length : Int)
  · rw [dt h2, bc_t] at h; exact .done h
  rw [df h2, bc_f] at h
  cases h3 : (hisE n 0 X P != 0)
  case true =>
    have : hisL n 0 X P = [] := by unfold hisL; rw [h3, bc_t]
    rw [h3, this, bc_t] at h
    exact .done h
  rw [h3, bc_f] at h
  have hX : chk17 n X P = 0 := by
    have h4 : hisE n 0 X P = 0 := by simpa using h3
    unfold hisE at h4
    by_cases z : chk17 n X P = 0
    · exact z
    · rw [show (chk17 n X P != 0) = true by simp [z], bc_t] at h4; exact h4
  obtain ⟨c1, c2, c3, c4, c5, _⟩ := chk17_ok hX
  obtain ⟨n, rfl⟩ := Int.eq_ofNat_of_zero_le (show 0 ≤ n by omega)
  have ex := exF_ex l X
  generalize exF l X = q at *
  have hq : chk17 n q P = 0 := ex.chk hX
  have hl := ex.len
  have hh := ex.hi
  obtain ⟨e1, e2, e3, e4, e5⟩ := coP_all hX hq hh
  have l1 : ((List.range' 0 X.length).map (fun k : Nat => (k : Int))).length = X.length := by simp
  have l2 : ((List.range' 0 X.length).map (fun k : Nat => (piI X q k : Int))).length = X.length := by simp
  have hK := kpt_all (chk17_two hX) (chk17_two hq) hh
  rw [dt (show X.length ≤ 20000 ∧ l.length ≤ 1000 ∧ In16 l from ⟨c3, by omega, h16⟩), e1, e2, e3, e4, e5] at h
  simp only [l1, l2, Nat.beq_refl, bc_t, bc_f, bne_self_eq_false, decide_true, Bool.not_true, List.length_nil] at h
  rw [dt (show X.length ≤ 20000 ∧ X.length ≤ 30000 ∧ q.length ≤ 30000 ∧ Kpt X q ((List.range' 0 X.length).map (fun k : Nat => (k : Int))) ((List.range' 0 X.length).map (fun k : Nat => (piI X q k : Int))) from ⟨c3, by omega, by omega, hK⟩), bc_t, bc_t] at h
  have z0 : (Int.ofNat 0 != 0) = false := rfl
  rw [z0, bc_f] at h
  cases h5 : (Int.ofNat q.length == 0) <;> rw [h5] at h
  case true => exact .done h
  have hq0 : 0 < q.length := by
    have : Int.ofNat q.length ≠ 0 := by simpa using h5
    rw [ofn] at this; omega
  refine .at ctCS_ok h ?_
  have ha := a_t n t X P q
  have w1 : IntKind.wrap IntKind.i64 t = t := wrap_in _ (by omega) (by omega)
  obtain ⟨t, rfl⟩ := Int.eq_ofNat_of_zero_le ht.1
  rw [w1, ofn, tmod_nat] at ha
  have hm : t % q.length < q.length := Nat.mod_lt _ hq0
  generalize t % q.length = k at *
  have w4 : ((q.length : Int) == 0) = false := beqI_n (by omega)
  rw [w4] at ha
  simp (disch := omega) only [Nat.add_eq, eqSy_self, eqN_self, bc_same, List.length_cons, ofn, wrap_in, dt, df, bltD, bltN, ble_of, bleN, beqD, bc_t, bc_f, nn_ok, Nat.zero_add, to_nat, Int.zero_add, Int.sub_zero, Int.sub_self, Int.cast_ofNat_Int, Int.natCast_zero, Int.toNat_zero, List.take_zero, List.nil_append, List.length_append, List.length_nil, bnot] at ha
  exact .at ctCS_ok ha (turn hX hq hh hm)
end ACmS
theorem compareSame_calls {γ : G} {w : World} {us : Array Value} (ra : List U) (wa : RowFit [.int .i64, .list shX, .list shX] ra) (l : List (List U)) (wl : UFit (.list [.int .u16]) (.l l)) (t : Int) (wt : (Lit.int .u16 t).wf = true)
    (hax : ECL γ [.agg (recE [.int .i64, .list shX, .list shX] ra), .lst (mkC [.int .u16] l), .v (.int .u16 t)] us.toList) (hN : ∀ i, γ i = none) (hfz : FzAt γ w) : Calls Try.prog 9 us w fun e w' => e = .returned (.bool true) ∧ Stays w w' := by
  have hla := wa.len
  match ra, hla with
  | [x1, x2, x3], _ =>
    exact law_of ((ACmS.ends _ _ _ _ _ (in16_of wl) (u16_fit wt)).calls ctCS_ok (by kernel_rfl) hax hN hfz)
end Go.Proofs.Ytonbfalbfdkieaa.Ev
namespace Go.Proofs.Ytonbfalbfdkieaa
open Go.ChangeShapes Go.WideShapes Go.ChangeAt Go.RowKit Go.ChangeMaps
theorem knobCompareSame : ownKnob Try.prog.godebug = none := by kernel_rfl
theorem kidsCompareSame : Kids Try.prog (· < Try.prog.types.size) := kids_rows (by kernel_rfl) (by kernel_rfl)
theorem fullCompareSame : ∀ t e, t < Try.prog.types.size → Try.prog.underlying t = some (.slice e) → 0 < Try.prog.cellsOf e := slices_full_of Try.prog (by kernel_rfl)
set_option maxRecDepth 100000 in
theorem liftedCompareSame (os : Os) (started : os.Started) (H : Type) (enc : TypeId × Value → H) :
    ReturnsInHanded {} Try.checked os 9 .any (Rows.compareSameSpec.pre6 enc Try.prog Try.f9 Rows.compareSameRow.domain false) (Rows.compareSameSpec.post enc Try.prog Try.f9 false true false false) := by
  refine returnsInHanded_of_change (C := Try.checked) knobCompareSame started (by kernel_rfl) Try.func9
    (ChangeSpec.witness6 (enc := enc) (C := Try.checked) false ⟨#[], #[.agg #[.int .i64 0, .slice none 0 0, .slice none 0 0], .slice none 0 0, .int .u16 0], []⟩ 8 (by kernel_rfl) (by kernel_rfl) (by kernel_rfl) (by kernel_rfl)) ?_
  intro W base args ds gs before hval0 hW hcnd _
  have hval : ∀ (j : Nat) t v, Try.f9.params[j]? = some t → args[j]? = some v → Value.okWide Try.prog W .any base t v := hval0
  have hW' := hW
  obtain ⟨p, q, hA0, hV, rfl, hfz, hnd⟩ := hW
  have hA : DataW.TrodAll enc Try.prog W 0 (fun _ => true) true Try.f9.params.toList args.toList ds p := hA0
  have hAk := hA
  rw [Try.params9] at hA hval
  obtain ⟨rfl, rfl⟩ := trodVars_none hV
  obtain ⟨v0, v1, v2, d0, d1, d2, p0, p1, p2, rfl, rfl, rfl, h0, h1, h2⟩ := trodAll_three hA
  obtain ⟨ra, wra, era⟩ := Ev.open_agg (k := 8) Try.underlying25 (by kernel_rfl : Ev.shB Try.prog 8 25 = some [.int .i64, .list [.int .i64, .int .i64, .int .i64, .int .i64], .list [.int .i64, .int .i64, .int .i64, .int .i64]]) (hval 0 25 v0 rfl rfl) h0
  obtain ⟨l, wl, el⟩ := Ev.open_lst (k := 8) Try.underlying60 (by kernel_rfl : Ev.shB Try.prog 8 60 = some [.list [.int .u16]]) (hval 1 60 v1 rfl rfl) h1
  obtain ⟨t, rfl, rfl, rfl, wt⟩ := open_int Try.underlying61 (hval 2 61 v2 rfl rfl) h2
  clear hA0 hval0
  refine (Ev.compareSame_calls ra wra l wl t wt (γ := Ev.gAll W) (.cons era (.cons el (.cons (.v _) (.nil _)))) (fun i => rfl) (Ev.fzAll_at W)).mono fun e W' ⟨he, hg⟩ => ?_
  subst he
  exact ⟨_, rfl, post_law kidsCompareSame fullCompareSame Try.underlying4 (by kernel_rfl) (by kernel_rfl) rfl rfl (by rw [Try.params9]; decide) hW' hAk hg (ok_one (by kernel_rfl) rfl (okWide_bool_mk Try.underlying4 _))⟩
theorem compareSame_holds : Rows.CompareSameSaid :=
  OpenClaim.holds_of_wide 9 Try.f9 rfl rfl rfl rfl rfl rfl rfl ⟨rfl, rfl, rfl, rfl, rfl⟩ rfl rfl rfl rfl rfl (by kernel_rfl) Try.func9 (by kernel_rfl)
    (of_decide_eq_true (by kernel_rfl)) (by unfold Func.isWrapper; first | (rw [if_pos (by decide +kernel)]; kernel_rfl) | (rw [if_neg (by decide +kernel)]; exact ⟨rfl, rfl⟩))
    (fun os started H enc _ => liftedCompareSame os started H enc)
end Go.Proofs.Ytonbfalbfdkieaa
