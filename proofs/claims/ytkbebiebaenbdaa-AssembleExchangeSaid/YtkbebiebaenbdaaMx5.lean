/- Laid together: Runs over open leaves that fork: one run says what comes of all cases. No program is named. Runs over open leaves to a place, with new numbers there; calls. No program is named. Runs of a call whose arguments lead to memory that it changes: the first k numbers stay what they are. No program is named. The reckoner: what calls of strings.Join and strings.Repeat come to. No program is named. Contracts of the library, laid at this program by the kit's tool. The reckoner: calls of strings.Join and strings.Repeat of this program. The deferred call of pattern.look does nothing when nothing panics. The table of functions for the reckoner. What all functions of a seat share: runs, leads, calls. What laws share: from a call's end to the statement's; closed calls that return true. References of the stitches and the sheets: index, Check, Check. Contracts of strings.Repeat, strings.Join over data. No program is named. The program's stitches and sheets: Check, Check. Plain facts on sheets that are checked. Reference of the assembling: Same, place, Beside, Below, Times. The reference's Cut: Touch, Kept, Cut. Plain law: the order from one list to another one, by taking always the first element that is ready. No program is named. -/
import Derived.Below
import Derived.Lib.Join
import Derived.Lib.Repeat
import Derived.Shelf.Strings.Builder1
import Derived.Shelf.Strings.Builder2
import Derived.Shelf.Strings.OnBuilder
import Derived.Shelf.Small.Strs
import Derived.Shelf.Strings.BuilderF
import Derived.Shelf.Strings.BuilderK
import Derived.Shelf.Strings.Builder2Cap
import Derived.Shelf.Strings.Search1
import Derived.Shelf.Strings.Prefix
import Derived.Shelf.Bits.Mul64
import Derived.Shelf.Strings.Repeat
import Derived.Shelf.Strings.BuilderCap
import Derived.Shelf.Slices.Reverse
import Derived.Shelf.Slices.Clone
import Derived.Shelf.Slices.Cells
import Derived.Shelf.SlicesE.Reverse
import Derived.Shelf.SlicesE.Clone
import Derived.Test.YtkbebiebaenbdaaProg
import Derived.Tactics
import Derived.Tactics2
import Derived.Recover
import Derived.Test.YtkbebiebaenbdaaChecked
import Derived.Test.YtkbebiebaenbdaaMx4
set_option linter.unusedSimpArgs false
set_option linter.unusedVariables false
namespace Go.Proofs.Ytkbebiebaenbdaa.Ev
open Go.RowKit
variable {P : Program} {γ γ' : G} {w0 : Bs} {w : World} {H H' : Tr EK} {n n' : Nat} {T : Tr EV} {cs : List Frame} {fid : FuncId} {FT : Tr FI} {tmps : Array Value} {o : Oper} {α : Type}

/-- the next operation, as it gives -/
noncomputable def opG (s : ES) (ops : Array Oper) (o : Oper) (l : List Oper) (k : List IM) (er : ER) : EO := match setD s.top.T s.top.N o.dst (er.val.getD (.v undef)) with
  | some T' => .go { s with top := { s.top with T := T', todo := .ops ops l :: k }, H := er.H, n := er.n }
  | none => .fail
theorem opG_ok {s : ES} {ops : Array Oper} {l : List Oper} {k : List IM} {i : Nat} {rest : List Nat} {todo : List Item} {ds : List Deferred} {ro : Option Nat} {frs : List Frame} {er : ER}
    (hret : s.top.ret = false) (h1 : tmps.size = s.top.N) (h2 : TOk γ s.top.T tmps) (hk : All2 (IR γ) k todo) (h4 : All2 (DR γ) s.top.dfs ds) (h5 : RR γ s.top.round ro) (hfs : All2 (FR γ) s.rest frs) (hH : HR γ w0 s.H s.n w)
    (ho : ops[i]? = some o) (hrest : rest.map (ops[·]?) = l.map some) (hw : Region.wanted o (yielded ops tmps) = true) (hs : SndL P .nil s.top.T o s.H s.n (er.val.getD (.v undef)) er.H er.n) :
    SOk P γ w0 cs fid (lone (fram s.top.fn tmps (.inRegion ops (i :: rest) :: todo) ds ro) (frs ++ cs) w) (opG s ops o l k er) := by
  unfold opG
  split
  case h_2 => trivial
  rename_i T' hT'
  obtain ⟨γ', w', x, hle, hH2, hcx, hst⟩ := hs γ w0 w s.top.fn tmps ops i rest todo ds ro (frs ++ cs) (ROk.none _ _) h2 hH ho hw
  obtain ⟨g1, g2⟩ := setD_ok (h2.mono hle) h1 hT' hcx
  exact ⟨γ', _, hle, hst, _, frs, w', rfl, ⟨_, _, ds, ro, by simp [fram, hret, modeOf], g2, g1, .cons (.ops ops l rest hrest) (hk.mono fun _ _ h => h.mono hle), h4.mono fun _ _ h => h.mono hle, h5.mono hle⟩, hfs.mono fun _ _ h => h.mono hle, hH2⟩
noncomputable def stZ (P : Program) (FT : Tr FI) (ct : Tr ZCC) (T : Tr EV) (o : Oper) (H : Tr EK) (n : Nat) : Option YR := match zToBo P T o H n with
  | some r => some r
  | none => match qcZ P FT ct [] T o H n with
    | some p => some ⟨p.1, ⟨some p.2, H, n⟩⟩
    | none => match zCt FT ct T o with
      | some (sp, ax) => match zCallA sp ax H n with
        | some r => some ⟨r.1, ⟨some r.2.1, r.2.2.1, r.2.2.2⟩⟩
        | none => none
      | none => zOwn P T o H n
theorem stZ_ok (hF : FTok P FT) {ct : Tr ZCC} (hct : ZCtsOk P ct) {r : YR} (h : stZ P FT ct T o H n = some r) (hc : r.c = true) : SndL P .nil T o H n (r.er.val.getD (.v undef)) r.er.H r.er.n := by
  unfold stZ at h
  split at h
  · rename_i r' hr
    injection h with h; subst h
    exact snd_givesO (zToBo_nd hr) fun γ w0 w tmps hT hH => zToBo_ok hT hH hr hc
  split at h
  · rename_i p hp
    injection h with h; subst h
    exact (qcZ_ok hF hct hp hc).2.1
  · split at h
    · rename_i sp ax hctx
      obtain ⟨_, g, k1, k2⟩ := zCt_ok hF hct hctx
      split at h
      case h_2 => cases h
      rename_i q hq
      injection h with h; subst h
      exact k2 fun γ w0 w us hH ha => zCallA_ok k1 hH ha hq hc
    · have hd : notDefer o.op = true := by
        have hr := h
        unfold zOwn at hr
        split at hr
        all_goals first | (rename_i ho; rw [ho]; rfl) | cases hr
      exact snd_givesO hd fun γ w0 w tmps hT hH => (zOwn_ok hT hH h hc).2
noncomputable def zOps (P : Program) (FT : Tr FI) (fid : FuncId) (dr : ES → Nat → Array Oper → List IM → EO) (ct : Tr ZCC) (s : ES) (ops : Array Oper) (o : Oper) (l : List Oper) (k : List IM) : Bool × EO := match exGuard s.top.T ops o with
  | some true => match stZ P FT ct s.top.T o s.H s.n with
    | some r => (r.c, opG s ops o l k r.er)
    | none => (true, exStep P FT fid dr s)
  | _ => (true, exStep P FT fid dr s)
noncomputable def zMain (P : Program) (FT : Tr FI) (fid : FuncId) (dr : ES → Nat → Array Oper → List IM → EO) (sub : Sub) (ct : Tr ZCC) (ov : List (Nat × Bool)) (s : ES) : Bool × EO := match s.top.ret with
  | false => match s.top.todo with
    | .ops ops (o :: l) :: k => zOps P FT fid dr ct s ops o l k
    | .it (.code (.region _ ops true)) :: k => drZ P FT sub ct ov s ops k (ancs ops.toList []) (llen ops.toList)
    | _ => (true, exStep P FT fid dr s)
  | true => zRet P FT fid s
theorem zMain_ok (hm0 : P.follows .mixedOrders = true) (hF : FTok P FT) {dr : ES → Nat → Array Oper → List IM → EO} (hdr : DrOk P dr) {sub : Sub} (hsub : LoudOk P sub) {ct : Tr ZCC} (hct : ZCtsOk P ct) {ov : List (Nat × Bool)} {s : ES} {m : Machine} (hm : MR γ w0 cs s m) (hc : (zMain P FT fid dr sub ct ov s).1 = true) : SOk P γ w0 cs fid m (zMain P FT fid dr sub ct ov s).2 := by
  unfold zMain at hc ⊢
  split at hc
  · rename_i hret
    split at hc
    · rename_i ops o l k htodo
      unfold zOps at hc ⊢
      split at hc
      · rename_i hg
        split at hc
        · rename_i r hr
          obtain ⟨fr, frs, w, rfl, ⟨tmps, todo, ds, ro, rfl, h1, h2, h3, h4, h5⟩, hfs, hH⟩ := hm
          rw [htodo] at h3
          cases h3 with
          | @cons _ _ _ todo' hi hk =>
            cases hi with
            | ops _ _ idx hidx =>
              obtain ⟨i, rest, rfl, ho, hrest⟩ := map_cons_inv hidx
              have hfr : (lone { fn := s.top.fn, tmps := tmps, todo := .inRegion ops (i :: rest) :: todo', defers := ds, mode := modeOf s.top.ret, kind := .normal, roundOf := ro } (frs ++ cs) w) = lone (fram s.top.fn tmps (.inRegion ops (i :: rest) :: todo') ds ro) (frs ++ cs) w := by rw [hret]; rfl
              rw [hfr]
              exact opG_ok hret h1 h2 hk h4 h5 hfs hH ho hrest (exGuard_ok h2 hg) (stZ_ok hF hct hr hc)
        · exact exStep_ok hF hdr hm
      · exact exStep_ok hF hdr hm
    · rename_i id ops k htodo
      obtain ⟨fr, frs, w, rfl, ⟨tmps, todo, ds, ro, rfl, h1, h2, h3, h4, h5⟩, hfs, hH⟩ := hm
      rw [htodo] at h3
      cases h3 with
      | @cons _ _ _ todo' hi hk =>
        cases hi with
        | it x =>
          have hfr : (lone { fn := s.top.fn, tmps := tmps, todo := .code (.region id ops true) :: todo', defers := ds, mode := modeOf s.top.ret, kind := .normal, roundOf := ro } (frs ++ cs) w) = lone (fram s.top.fn tmps (.code (.region id ops true) :: todo') ds ro) (frs ++ cs) w := by rw [hret]; rfl
          rw [hfr]
          exact drZ_ok hm0 hF hsub hct hret h1 h2 hk h4 h5 hfs hH hc
    · exact exStep_ok hF hdr hm
  · rename_i hret
    obtain ⟨fr, frs, w, rfl, ⟨tmps, todo, ds, ro, rfl, h1, h2, h3, h4, h5⟩, hfs, hH⟩ := hm
    have := zRet_ok (fid := fid) (cs := cs) hF hret h1 h2 h3 h4 h5 hfs hH hc
    simpa [fram, hret, modeOf] using this
/-! ### forks -/
noncomputable def fixC (d : Nat) (b : Bool) (s : ES) : ES := bc (Nat.ble d 65535) { s with top := { s.top with T := s.top.T.put d (some (.v (.bool b))) } } s
/-- both cases of a slot's bool -/
noncomputable def forkC (d : Nat) (s : ES) (κ : ES → α) : α := match s.top.T.get d with
  | some (.v (.bool t)) => Bool.rec (κ (fixC d false s)) (κ (fixC d true s)) t
  | _ => κ s
theorem fixC_ok {d : Nat} {t : Bool} {s : ES} {m : Machine} (hm : MR γ w0 cs s m) (ht : s.top.T.get d = some (.v (.bool t))) : MR γ w0 cs (fixC d t s) m := by
  unfold fixC
  rw [bc_eq]
  split
  · rename_i hd
    obtain ⟨fr, frs, w, rfl, ⟨tmps, todo, ds, ro, rfl, h1, h2, h3, h4, h5⟩, hfs, hH⟩ := hm
    refine ⟨_, frs, w, rfl, ⟨tmps, todo, ds, ro, rfl, h1, fun sl a hs => ?_, h3, h4, h5⟩, hfs, hH⟩
    have hs2 : (s.top.T.put d (some (.v (.bool t)))).get sl = some a := hs
    clear hs
    rw [Tr.get_put hd] at hs2
    split at hs2
    · rename_i e
      subst e
      exact h2 _ a (ht.trans hs2)
    · exact h2 sl a hs2
  · exact hm
theorem forkC_ok {d : Nat} {s : ES} {m : Machine} (hm : MR γ w0 cs s m) (κ : ES → α) : ∃ s', MR γ w0 cs s' m ∧ forkC d s κ = κ s' := by
  unfold forkC
  split
  · rename_i t ht
    cases t with
    | false => exact ⟨_, fixC_ok hm ht, rfl⟩
    | true => exact ⟨_, fixC_ok hm ht, rfl⟩
  · exact ⟨s, hm, rfl⟩
noncomputable def preCodeC (c : Code) (s : ES) (κ : ES → α) : α := match c with
  | .cond (.tmp d) _ _ => forkC d s κ
  | _ => κ s
noncomputable def preOpC (ops : Array Oper) (o : Oper) (s : ES) (κ : ES → α) : α := match o.guard with
  | some (j, _) => match lget ops.toList j with
    | some oj => match oj.dst with
      | some d => forkC d s κ
      | none => κ s
    | none => κ s
  | none => match o.op with
    | .pick (.tmp d) _ _ => forkC d s κ
    | _ => κ s
noncomputable def preC (s : ES) (κ : ES → α) : α := match s.top.todo with
  | .it (.code c) :: _ => preCodeC c s κ
  | .ops ops (o :: _) :: _ => preOpC ops o s κ
  | _ => κ s
theorem preC_ok {s : ES} {m : Machine} (hm : MR γ w0 cs s m) (κ : ES → α) : ∃ s', MR γ w0 cs s' m ∧ preC s κ = κ s' := by
  unfold preC
  split
  · unfold preCodeC
    split
    · exact forkC_ok hm κ
    · exact ⟨s, hm, rfl⟩
  · unfold preOpC
    split
    · split
      · split
        · exact forkC_ok hm κ
        · exact ⟨s, hm, rfl⟩
      · exact ⟨s, hm, rfl⟩
    · split
      · exact forkC_ok hm κ
      · exact ⟨s, hm, rfl⟩
  · exact ⟨s, hm, rfl⟩
noncomputable def mainC (r : Bool × EO) (κ : EO → α) : α := Prod.rec (fun c e => bc c (κ e) (κ .fail)) r
/-! ### guards of regions that draw: both cases, ahead of the region -/
noncomputable def memG (j : Nat) (l : List Nat) : Bool := List.rec false (fun k _ ih => bc (Nat.beq k j) true ih) l
noncomputable def pickG (ops : List Oper) (d : Nat) : Nat → Option Nat := List.rec (fun _ => none) (fun o _ ih i => match o.dst with
  | some e => bc (Nat.beq e d) (some i) (ih (Nat.succ i))
  | none => ih (Nat.succ i)) ops
/-- the operations whose bools are asked: by guards, by choices -/
noncomputable def guardsOf (all ops : List Oper) : List Nat := List.rec [] (fun o _ ih => match o.guard with
  | some (j, _) => bc (memG j ih) ih (j :: ih)
  | none => match o.op with
    | .pick (.tmp d) _ _ => match pickG all d 0 with
      | some j => bc (memG j ih) ih (j :: ih)
      | none => ih
    | _ => ih) ops
noncomputable def insN (j : Nat) (l : List Nat) : List Nat := List.rec [j] (fun k t ih => bc (Nat.ble j k) (j :: k :: t) (k :: ih)) l
noncomputable def sortN (l : List Nat) : List Nat := List.rec [] (fun j _ ih => insN j ih) l
noncomputable def boolAt (P : Program) (FT : Tr FI) (sub : Sub) (ct : Tr ZCC) (s : ES) (ops : Array Oper) (A : List Nat) (m : Nat) (ov : List (Nat × Bool)) (j : Nat) : Option (Nat × Bool) := match lget ops.toList j with
  | some oj => match oj.dst with
    | some d => match canonF P (frF' P) (lF' P FT sub ct) (qF' P FT ct ov) ops A s.n s.top.N (ops.toList.take (Nat.succ j)) 0 [] [] ⟨s.H, Nat.add s.n m, 0⟩ s.top.T [] [] with
      | some c => match c.T.get d with
        | some (.v (.bool t)) => some (d, t)
        | _ => none
      | none => none
    | none => none
  | none => none
noncomputable def forkG (P : Program) (FT : Tr FI) (sub : Sub) (ct : Tr ZCC) (s : ES) (ops : Array Oper) (A : List Nat) (m : Nat) (κ : List (Nat × Bool) → α) (G : List Nat) : List (Nat × Bool) → α := List.rec (fun ov => κ ov) (fun j _ ih ov => match boolAt P FT sub ct s ops A m ov j with
  | some (d, t) => Bool.rec (ih (ov ++ [(d, false)])) (ih (ov ++ [(d, true)])) t
  | none => ih ov) G
theorem forkG_ok {sub : Sub} {ct : Tr ZCC} {s : ES} {ops : Array Oper} {A : List Nat} {m : Nat} (κ : List (Nat × Bool) → α) : ∀ (G : List Nat) (ov : List (Nat × Bool)), ∃ ov', forkG P FT sub ct s ops A m κ G ov = κ ov'
  | [], ov => ⟨ov, rfl⟩
  | j :: G, ov => by
    have e : forkG P FT sub ct s ops A m κ (j :: G) ov = (match boolAt P FT sub ct s ops A m ov j with
      | some (d, t) => Bool.rec (forkG P FT sub ct s ops A m κ G (ov ++ [(d, false)])) (forkG P FT sub ct s ops A m κ G (ov ++ [(d, true)])) t
      | none => forkG P FT sub ct s ops A m κ G ov) := rfl
    rw [e]
    split
    · rename_i d t ht
      cases t with
      | false => exact forkG_ok κ G _
      | true => exact forkG_ok κ G _
    · exact forkG_ok κ G _
noncomputable def forkR (P : Program) (FT : Tr FI) (sub : Sub) (ct : Tr ZCC) (s : ES) (κ : List (Nat × Bool) → α) : α := match s.top.todo with
  | .it (.code (.region _ ops true)) :: _ => forkG P FT sub ct s ops (ancs ops.toList []) (llen ops.toList) κ (sortN (guardsOf ops.toList ops.toList)) []
  | _ => κ []
theorem forkR_ok {sub : Sub} {ct : Tr ZCC} {s : ES} (κ : List (Nat × Bool) → α) : ∃ ov, forkR P FT sub ct s κ = κ ov := by
  unfold forkR
  split
  · exact forkG_ok κ _ _
  · exact ⟨[], rfl⟩
/-! ### lookups by an open key: a case for each entry -/
noncomputable def lookL (d : TypeDesc) (kv : Value) (ok : Bool) (z : Value) (s : ES) (ops : Array Oper) (o : Oper) (l : List Oper) (k : List IM) (κ : EO → α) (es : List (Value × EV)) : α := List.rec (κ (opG s ops o l k ⟨some (bc ok (.v (.tuple #[z, .bool false])) (.v z)), s.H, s.n⟩))
  (fun p _ ih => Bool.rec ih (κ (opG s ops o l k ⟨some (bc ok (.tup [p.2, .v (.bool true)]) p.2), s.H, s.n⟩)) (kEq d kv p.1)) es
noncomputable def lookF (P : Program) (s : ES) (dflt : α) (κ : EO → α) : α := match s.top.ret with
  | false => match s.top.todo with
    | .ops ops (o :: l) :: k => match o.op with
      | .lookup t m x ok => match exGuard s.top.T ops o with
        | some true => match mpAt s.top.T s.H m with
          | some (_, es) => match mapOf P t with
            | some (_, e, d) => match exVal s.top.T x with
              | some (.v kv) => bc (isKeyB d kv) (bc (keysB d es) (match pureOf P (zeroValue e) with
                | some z => lookL d kv ok z s ops o l k κ es
                | none => dflt) dflt) dflt
              | _ => dflt
            | none => dflt
          | none => dflt
        | _ => dflt
      | _ => dflt
    | _ => dflt
  | true => dflt
theorem lookL_ok {d : TypeDesc} {kv : Value} {ok : Bool} {z : Value} {s : ES} {ops : Array Oper} {l : List Oper} {k : List IM} {κ : EO → α} {es0 : List (Value × EV)} {Q : EO → Prop}
    (hA : findE d kv es0 = none → Q (opG s ops o l k ⟨some (bc ok (.v (.tuple #[z, .bool false])) (.v z)), s.H, s.n⟩))
    (hF : ∀ a, findE d kv es0 = some a → Q (opG s ops o l k ⟨some (bc ok (.tup [a, .v (.bool true)]) a), s.H, s.n⟩)) :
    ∀ es, findE d kv es0 = findE d kv es → ∃ e, lookL d kv ok z s ops o l k κ es = κ e ∧ Q e
  | [], h => ⟨_, rfl, hA h⟩
  | p :: es, h => by
    have e1 : lookL d kv ok z s ops o l k κ (p :: es) = Bool.rec (lookL d kv ok z s ops o l k κ es) (κ (opG s ops o l k ⟨some (bc ok (.tup [p.2, .v (.bool true)]) p.2), s.H, s.n⟩)) (kEq d kv p.1) := rfl
    have e2 : findE d kv (p :: es) = bc (kEq d kv p.1) (some p.2) (findE d kv es) := rfl
    rw [e2] at h
    rw [e1]
    cases hk : kEq d kv p.1 with
    | false =>
      rw [hk] at h
      exact lookL_ok hA hF es h
    | true =>
      rw [hk] at h
      exact ⟨_, rfl, hF _ h⟩
theorem lookF_ok {s : ES} {m : Machine} (hm : MR γ w0 cs s m) (dflt : α) (κ : EO → α) : lookF P s dflt κ = dflt ∨ ∃ e, lookF P s dflt κ = κ e ∧ SOk P γ w0 cs fid m e := by
  unfold lookF
  split
  case h_2 => exact .inl rfl
  rename_i hret
  split
  case h_2 => exact .inl rfl
  rename_i ops o l k htodo
  split
  case h_2 => exact .inl rfl
  rename_i t mp x ok ho
  split
  case h_2 => exact .inl rfl
  rename_i hg
  split
  case h_2 => exact .inl rfl
  rename_i i es hmp
  split
  case h_2 => exact .inl rfl
  rename_i kt e d hmo
  split
  case h_2 => exact .inl rfl
  rename_i kv hx
  rw [bc_eq]
  split
  case isFalse => exact .inl rfl
  rename_i h1
  rw [bc_eq]
  split
  case isFalse => exact .inl rfl
  rename_i h2
  split
  case h_2 => exact .inl rfl
  rename_i z hz
  right
  have hd : notDefer o.op = true := by rw [ho]; rfl
  have key : ∀ a, exLookup P s.top.T t mp x ok s.H = some a → SOk P γ w0 cs fid m (opG s ops o l k ⟨some a, s.H, s.n⟩) := fun a ha => by
    obtain ⟨fr, frs, w, rfl, ⟨tmps, todo, ds, ro, rfl, g1, g2, g3, g4, g5⟩, hfs, hH⟩ := hm
    rw [htodo] at g3
    cases g3 with
    | @cons _ _ _ todo' hi hk =>
      cases hi with
      | ops _ _ idx hidx =>
        obtain ⟨i, rest, rfl, ho', hrest⟩ := map_cons_inv hidx
        have hfr : (lone { fn := s.top.fn, tmps := tmps, todo := .inRegion ops (i :: rest) :: todo', defers := ds, mode := modeOf s.top.ret, kind := .normal, roundOf := ro } (frs ++ cs) w) = lone (fram s.top.fn tmps (.inRegion ops (i :: rest) :: todo') ds ro) (frs ++ cs) w := by rw [hret]; rfl
        rw [hfr]
        exact opG_ok (er := ⟨some a, s.H, s.n⟩) hret g1 g2 hk g4 g5 hfs hH ho' hrest (exGuard_ok g2 hg) (snd_gives hd fun γ w0 w tmps hT hH => exLookup_ok hT hH ho ha)
  refine lookL_ok (Q := fun e => SOk P γ w0 cs fid m e) (fun hn => key _ ?_) (fun a hn => key _ ?_) es rfl
  · unfold exLookup
    simp only [hmp, hmo, hx, bc_eq, h1, h2, hn, hz, if_true]
  · unfold exLookup
    simp only [hmp, hmo, hx, bc_eq, h1, h2, hn, if_true]
noncomputable def stepZ (P : Program) (FT : Tr FI) (fid : FuncId) (dr : ES → Nat → Array Oper → List IM → EO) (sub : Sub) (ct : Tr ZCC) (s : ES) (κ : EO → α) : α := preC s (fun s' => lookF P s' (forkR P FT sub ct s' (fun ov => mainC (zMain P FT fid dr sub ct ov s') κ)) κ)
theorem stepZ_ok (hm0 : P.follows .mixedOrders = true) (hF : FTok P FT) {dr : ES → Nat → Array Oper → List IM → EO} (hdr : DrOk P dr) {sub : Sub} (hsub : LoudOk P sub) {ct : Tr ZCC} (hct : ZCtsOk P ct) {s : ES} {m : Machine} (hm : MR γ w0 cs s m) (κ : EO → α) : ∃ e, stepZ P FT fid dr sub ct s κ = κ e ∧ SOk P γ w0 cs fid m e := by
  unfold stepZ
  obtain ⟨s', hm', e1⟩ := preC_ok hm (fun s' => lookF P s' (forkR P FT sub ct s' (fun ov => mainC (zMain P FT fid dr sub ct ov s') κ)) κ)
  rw [e1]
  rcases lookF_ok (P := P) (fid := fid) hm' (forkR P FT sub ct s' (fun ov => mainC (zMain P FT fid dr sub ct ov s') κ)) κ with e0 | ⟨e, e0, h0⟩
  rotate_left
  · exact ⟨e, e0, h0⟩
  rw [e0]
  obtain ⟨ov, e2⟩ := forkR_ok (P := P) (FT := FT) (sub := sub) (ct := ct) (s := s') (fun ov => mainC (zMain P FT fid dr sub ct ov s') κ)
  rw [e2]
  cases hy : zMain P FT fid dr sub ct ov s' with
  | mk c e =>
    show ∃ e', bc c (κ e) (κ .fail) = κ e' ∧ _
    cases c with
    | false => exact ⟨.fail, rfl, trivial⟩
    | true =>
      refine ⟨e, rfl, ?_⟩
      have := zMain_ok (fid := fid) (ov := ov) hm0 hF hdr hsub hct hm' (by rw [hy])
      rw [hy] at this
      exact this
/-- a run, until a place or its end -/
noncomputable def runZ (st : ES → (EO → α) → α) (p : ES → Bool) (κ : EO → α) (k : Nat) : ES → α := Nat.rec (fun _ => κ .fail) (fun _ ih s => st s (fun e => EO.rec (fun s' => Bool.rec (ih s') (κ (.go s')) (p s')) (fun a H n => κ (.done a H n)) (fun b H n => κ (.doneR b H n)) (κ .fail) e)) k
theorem runZ_ok {st : ES → (EO → α) → α} {p : ES → Bool} {κ : EO → α} (hst : ∀ (γ : G) (s : ES) (m : Machine) (κ' : EO → α), MR γ w0 cs s m → ∃ e, st s κ' = κ' e ∧ SOk P γ w0 cs fid m e) :
    ∀ (k : Nat) (γ : G) (s : ES) (m : Machine), MR γ w0 cs s m → ∃ e, runZ st p κ k s = κ e ∧ SOk P γ w0 cs fid m e
  | 0, γ, s, m, _ => ⟨.fail, rfl, trivial⟩
  | k + 1, γ, s, m, hm => by
    obtain ⟨e, h1, h2⟩ := hst γ s m (fun e => EO.rec (fun s' => Bool.rec (runZ st p κ k s') (κ (.go s')) (p s')) (fun a H n => κ (.done a H n)) (fun b H n => κ (.doneR b H n)) (κ .fail) e) hm
    have fin : ∃ e', (EO.rec (fun s' => Bool.rec (runZ st p κ k s') (κ (.go s')) (p s')) (fun a H n => κ (.done a H n)) (fun b H n => κ (.doneR b H n)) (κ .fail) e : α) = κ e' ∧ SOk P γ w0 cs fid m e' := by
      cases e with
      | go s' =>
        show ∃ e', (Bool.rec (runZ st p κ k s') (κ (.go s')) (p s') : α) = κ e' ∧ _
        cases hp : p s' with
        | true => exact ⟨.go s', rfl, h2⟩
        | false =>
          obtain ⟨γ', m', hle, hs, hm'⟩ := h2
          obtain ⟨e2, q1, q2⟩ := runZ_ok hst k γ' s' m' hm'
          exact ⟨e2, q1, SOk.trans hle hs q2⟩
      | done a H n => exact ⟨_, rfl, h2⟩
      | doneR b H n => exact ⟨_, rfl, h2⟩
      | fail => exact ⟨_, rfl, h2⟩
    obtain ⟨e', q1, q2⟩ := fin
    exact ⟨e', h1.trans q1, q2⟩
/-- so many frames beneath, a function on top, ahead of a region and what follows it -/
noncomputable def atS (d f id : Nat) (s : ES) : Bool := bc (Nat.beq (llen s.rest) d) (bc (Nat.beq s.top.fn f) (match s.top.todo with
  | .it (.code (.seq (.region i _ _) _)) :: _ => Nat.beq i id
  | _ => false) false) false
end Go.Proofs.Ytkbebiebaenbdaa.Ev
namespace Go.Proofs.Ytkbebiebaenbdaa.Ev
open Go.RowKit
variable {P : Program} {γ γ' : G} {w0 : Bs} {w : World} {H H' : Tr EK} {n n' : Nat} {T : Tr EV} {cs : List Frame} {fid : FuncId} {FT : Tr FI} {tmps : Array Value} {o : Oper} {α : Type}

theorem normFR_ok {ρ : List (Nat × Nat)} {N : Nat} (hρ : okN ρ N = true) {l : SL} {f : EF} {a : FS} {fr : Frame} (h : normFR ρ l f = some a) (hf : FR γ f fr) : FR (γ.ren ρ) (frOf a) fr := by
  unfold normFR at h
  split at h
  case h_2 => cases h
  rename_i hret
  split at h
  case h_2 => cases h
  rename_i ds' hds
  split at h
  case h_2 => cases h
  rename_i ro' hro
  split at h
  case h_2 => cases h
  rename_i td htd
  split at h
  case h_2 => cases h
  rename_i T hT
  injection h with h; subst h
  obtain ⟨tmps, todo, ds, ro, rfl, h1, h2, h3, h4, h5⟩ := hf
  refine ⟨tmps, todo, ds, ro, by rw [hret]; rfl, h1, fun sl a hs => ?_, mapL_ok (R := IR γ) (S := IR (γ.ren ρ)) (fun _ _ _ h1 h2 => renI_ok hρ h1 h2) htd h3, mapL_ok (R := DR γ) (S := DR (γ.ren ρ)) (fun _ _ _ h1 h2 => renD_ok hρ h1 h2) hds h4, renR_ok hρ hro h5⟩
  obtain ⟨c, a0, q1, q2⟩ := pickS_ok hT sl a (mkT_get hs)
  obtain ⟨x, hx, hc⟩ := h2 sl a0 q1
  exact ⟨x, hx, renS_ok hρ q2 hc⟩
theorem normFsR_ok {ρ : List (Nat × Nat)} {N : Nat} (hρ : okN ρ N = true) : ∀ {ls : List SL} {l : List EF} {r : List FS} {frs : List Frame}, normFsR ρ ls l = some r → All2 (FR γ) l frs → All2 (FR (γ.ren ρ)) (frsOf r) frs
  | [], [], r, frs, h, hf => by
    have h' : some [] = some r := h
    injection h' with h'; subst h'
    cases hf; exact .nil
  | [], f :: l, r, frs, h, _ => by exact absurd (show (none : Option (List FS)) = some r from h) (by simp)
  | q :: ls, [], r, frs, h, _ => by exact absurd (show (none : Option (List FS)) = some r from h) (by simp)
  | q :: ls, f :: l, r, frs, h, hf => by
    have h' : (match normFR ρ q f with
      | some a => match normFsR ρ ls l with
        | some r => some (a :: r)
        | none => none
      | none => none) = some r := h
    split at h'
    case h_2 => cases h'
    rename_i a ha
    split at h'
    case h_2 => cases h'
    rename_i r' hr'
    injection h' with h'; subst h'
    cases hf with
    | cons h1 h2 => exact .cons (normFR_ok hρ ha h1) (normFsR_ok hρ hr' h2)
theorem HR.ren (hH : HR γ w0 H n w) (hres : ∀ i, ¬ w0.res i) {ρ keep : List (Nat × Nat)} {nils : List (Nat × TypeId × SyC)} {N : Nat} {lk : List Nat} {K : List (Nat × EK)} (hρ : okN ρ N = true) (hkeep : allL (fun p => isSomeN (lookN ρ p.1) p.2) keep = true) (hnil : allL (fun p => isNilS p.2.2) nils = true) (hK : pickK ρ H lk keep = some K) {K2 : List (Nat × EK)} (hK2 : ∀ x, x ∈ K2 → x ∈ nilsK nils ++ K) : HR (γ.ren ρ) w0 (mkT K2) N w := by
  have get : ∀ j k, (mkT K2).get j = some k → k.Nil ∨ ∃ i k0, lookN ρ i = some j ∧ H.get i = some k0 ∧ renK ρ lk k0 = some k := fun j k hk => by
    rcases List.mem_append.1 (hK2 _ (mkT_get hk)) with hm | hm
    · left
      unfold nilsK at hm
      obtain ⟨p, hp, e⟩ := List.mem_map.1 hm
      injection e with e1 e2; subst e2
      exact ⟨rfl, isNilS_ok (allL_ok hnil p hp)⟩
    · right
      obtain ⟨i, k0, q1, q2, q3⟩ := pickK_ok hK j k hm
      exact ⟨i, k0, isSomeN_ok (allL_ok hkeep (i, j) q1), q2, q3⟩
  refine ⟨fun j k hk => ?_, fun j1 j2 k1 k2 hj1 hj2 n1 n2 hne b1 b2 e1 e2 => ?_, fun j hj => ?_, fun i hi => absurd hi (hres i), fun j p e => ?_, hH.stays, ⟨fun k a hk => ?_, hH.fzk.base⟩⟩
  · rcases get j k hk with h5 | ⟨i, k0, q1, q2, q3⟩
    · exact .inl h5
    · rcases hH.hp0 i k0 q2 with h6 | ⟨b, m2, e1, e2, e3⟩
      · exact .inl ((renK_nil q3).2 h6)
      · exact .inr ⟨b, m2, by rw [G.ren_look hρ q1]; exact e1, e2, renK_ok hρ q3 e3⟩
  · rcases get j1 k1 hj1 with h5 | ⟨i1, k01, q1, q2, q3⟩
    · exact absurd h5 n1
    rcases get j2 k2 hj2 with h6 | ⟨i2, k02, q4, q5, q6⟩
    · exact absurd h6 n2
    rw [G.ren_look hρ q1] at e1
    rw [G.ren_look hρ q4] at e2
    have hne2 : i1 ≠ i2 := fun e => by
      subst e
      rw [q1] at q4; injection q4 with q4; exact hne q4
    exact hH.inj0 i1 i2 k01 k02 q2 q5 (fun e => n1 ((renK_nil q3).2 e)) (fun e => n2 ((renK_nil q6).2 e)) hne2 b1 b2 e1 e2
  · show (invN ρ j).bind γ = none
    cases hi : invN ρ j with
    | none => rfl
    | some i =>
      have := (okN_ok hρ (invN_mem hi)).2.2
      omega
  · obtain ⟨i, _, q2⟩ := G.ren_some e
    exact hH.lt i p q2
  · obtain ⟨g1, g2, g3⟩ := hH.fzk.at' k a hk
    refine ⟨g1, g2, fun j kj b m hj nj ej => ?_⟩
    rcases get j kj hj with h5 | ⟨i1, k01, q1, q2, q3⟩
    · exact absurd h5 nj
    rw [G.ren_look hρ q1] at ej
    exact g3 i1 k01 b m q2 (fun e => nj ((renK_nil q3).2 e)) ej
def LeadsZ (P : Program) (s s' : ES) : Prop := ∀ (γ : G) (w0 : Bs) (cs : List Frame) (m : Machine), (∀ i, ¬ w0.res i) → MR γ w0 cs s m → ∃ γ' m', Steps P m m' ∧ MR γ' w0 cs s' m'
theorem LeadsZ.trans {a b c : ES} (h : LeadsZ P a b) (k : LeadsZ P b c) : LeadsZ P a c := fun γ w0 cs m hr hm => by
  obtain ⟨γ1, m1, h1, h3⟩ := h γ w0 cs m hr hm
  obtain ⟨γ2, m2, k1, k3⟩ := k γ1 w0 cs m1 hr h3
  exact ⟨γ2, m2, h1.trans k1, k3⟩
theorem LeadsZ.refl (a : ES) : LeadsZ P a a := fun γ _ _ m _ hm => ⟨γ, m, Steps.refl P _, hm⟩
theorem leads_ofR {s : ES} {lk : List Nat} {r : NS} {f : FuncId}
    (h : ∀ (γ : G) (w0 : Bs) (cs : List Frame) (m : Machine), MR γ w0 cs s m → ∃ e ls ρ keep nils N, normR lk ls ρ keep nils N e = some r ∧ SOk P γ w0 cs f m e) : LeadsZ P s (stOf r) := fun γ w0 cs m hres hm => by
  obtain ⟨e, ls, ρ, keep, nils, N, h, this⟩ := h γ w0 cs m hm
  unfold normR at h
  split at h
  case h_2 => cases h
  rename_i s'
  obtain ⟨γ', m', h1, h2, h3⟩ := this
  split at h
  case h_2 => cases h
  rename_i l hl
  split at h
  case h_2 => cases h
  rename_i K hK
  rw [bc_eq] at h
  split at h
  case isFalse => cases h
  rename_i hρ
  rw [bc_eq] at h
  split at h
  case isFalse => cases h
  rename_i hkeep
  rw [bc_eq] at h
  split at h
  case isFalse => cases h
  rename_i hnil
  injection h with h; subst h
  obtain ⟨fr, frs, w, rfl, g1, hfs, hH⟩ := h3
  have g3 := normFsR_ok hρ hl (.cons g1 hfs)
  have hHn := hH.ren hres hρ hkeep hnil hK (K2 := sortK (nilsK nils ++ K)) (fun _ => sortK_mem)
  cases l with
  | nil => have g3 : All2 (FR (γ'.ren ρ)) [] (fr :: frs) := g3; cases g3
  | cons f l =>
    have g3 : All2 (FR (γ'.ren ρ)) (frOf f :: frsOf l) (fr :: frs) := g3
    cases g3 with
    | cons e1 e2 => exact ⟨γ'.ren ρ, _, h2, fr, frs, w, rfl, e1, e2, hHn⟩
/-- what a run over open leaves ends in: a place, a value and what blocks it leaves -/
inductive ZF where
  | at (r : NS)
  | done (a : EV) (K : List (Nat × EK)) (n : Nat)
  | bad
/-- the value at the end: data, or sequences with new numbers -/
noncomputable def doneO (q : NN) (a : EV) (H : Tr EK) : ZF := match renE q.ρ 8 a with
  | some a' => match pickK q.ρ H [] (keepN H q.ρ) with
    | some K => bc (okN q.ρ q.N) (bc (allL (fun p => isSomeN (lookN q.ρ p.1) p.2) (keepN H q.ρ)) (.done a' K q.N) .bad) .bad
    | none => .bad
  | none => .bad
noncomputable def doneD (a : EV) (H : Tr EK) : ZF := match frzE 8 a H with
  | some (c, a', _) => bc c (.done a' [] 0) .bad
  | none => .bad
noncomputable def doneZ (own : Bool) (a : EV) (H : Tr EK) : ZF := bc own (doneO (addL (numsE 6 a) ⟨[], [], 0⟩) a H) (doneD a H)
theorem doneZ_at {own : Bool} {a : EV} {r : NS} (h : doneZ own a H = .at r) : False := by
  unfold doneZ at h
  rw [bc_eq] at h
  split at h
  · unfold doneO at h
    split at h
    · split at h
      · rw [bc_eq] at h
        split at h
        · rw [bc_eq] at h
          split at h <;> cases h
        · cases h
      · cases h
    · cases h
  · unfold doneD at h
    split at h
    · rw [bc_eq] at h
      split at h <;> cases h
    · cases h
noncomputable def endZ (lk : List Nat) (ls : List SZ) (own : Bool) (e : EO) : ZF := match e with
  | .done a H n => doneZ own a H
  | .go s => match normZ lk ls (.go (nilS ls s)) with
    | some r => .at r
    | none => .bad
  | _ => .bad
/-- places, each with the slots that are kept there -/
abbrev PLs := List ((ES → Bool) × List SZ)
noncomputable def lsAt (ps : PLs) (s : ES) : List SZ := List.rec [] (fun q _ ih => bc (q.1 s) q.2 ih) ps
noncomputable def atPs (ps : PLs) (s : ES) : Bool := List.rec false (fun q _ ih => bc (q.1 s) true ih) ps
noncomputable def endP (lk : List Nat) (ps : PLs) (own : Bool) (e : EO) : ZF := match e with
  | .go s => endZ lk (lsAt ps s) own (.go s)
  | .done a H n => endZ lk [] own (.done a H n)
  | _ => .bad
theorem endP_ok {lk : List Nat} {ps : PLs} {own : Bool} (e : EO) : ∃ ls, endP lk ps own e = endZ lk ls own e := by
  cases e with
  | go s => exact ⟨_, rfl⟩
  | done a H n => exact ⟨[], rfl⟩
  | _ => exact ⟨[], rfl⟩
theorem doneZ_ok {own : Bool} {a : EV} {a' : EV} {K : List (Nat × EK)} {N : Nat} (h : doneZ own a H = .done a' K N) (hH : HR γ w0 H n w) (hres : ∀ i, ¬ w0.res i) {x : Value} (ha : EC γ a x) : ∃ γ', EC γ' a' x ∧ HR γ' w0 (mkT K) N w := by
  unfold doneZ at h
  rw [bc_eq] at h
  split at h
  · unfold doneO at h
    split at h
    case h_2 => cases h
    rename_i a2 ha2
    split at h
    case h_2 => cases h
    rename_i K2 hK
    rw [bc_eq] at h
    split at h
    case isFalse => cases h
    rename_i hρ
    rw [bc_eq] at h
    split at h
    case isFalse => cases h
    rename_i hkeep
    injection h with e1 e2 e3
    subst e1; subst e2; subst e3
    exact ⟨_, EC.ren hρ ha2 ha, hH.ren (nils := []) hres hρ hkeep rfl hK (fun _ h => h)⟩
  · unfold doneD at h
    split at h
    case h_2 => cases h
    rename_i c a2 H2 hf
    rw [bc_eq] at h
    split at h
    case isFalse => cases h
    rename_i hc
    injection h with e1 e2 e3
    subst e1; subst e2; subst e3
    obtain ⟨γ', g1, g2, g3⟩ := frzE_ok hH ha hf hc
    have hd : HR (γ'.ren []) w0 (mkT ([] ++ [])) 0 w := g2.ren (ρ := []) (keep := []) (nils := []) (lk := []) hres rfl rfl rfl rfl (fun _ h => h)
    have hdata : dataB 8 a2 = true := by
      have key : ∀ (k : Nat), (∀ (a : EV) (H : Tr EK) (c : Bool) (a' : EV) (H' : Tr EK), frzE k a H = some (c, a', H') → dataB k a' = true) ∧ ∀ (l : List EV) (H : Tr EK) (c : Bool) (l' : List EV) (H' : Tr EK), frzL (frzE k) l H = some (c, l', H') → allL (dataB k) l' = true := fun k => by
        induction k with
        | zero =>
          have h0 : ∀ (a : EV) (H : Tr EK) (c : Bool) (a' : EV) (H' : Tr EK), frzE 0 a H = some (c, a', H') → dataB 0 a' = true := fun a H c a' H' h => by cases h
          refine ⟨h0, fun l => ?_⟩
          induction l with
          | nil => intro H c l' H' h; have h' : some (true, [], H) = some (c, l', H') := h; simp only [Option.some.injEq, Prod.mk.injEq] at h'; obtain ⟨_, rfl, _⟩ := h'; rfl
          | cons b l ih => intro H c l' H' h; cases (show (match (none : Option (Bool × EV × Tr EK)) with
              | some (c, a', H') => match frzL (frzE 0) l H' with
                | some (c2, l', H2) => some (bc c c2 false, a' :: l', H2)
                | none => none
              | none => none) = some (c, l', H') from h)
        | succ k ih =>
          have h1 : ∀ (a : EV) (H : Tr EK) (c : Bool) (a' : EV) (H' : Tr EK), frzE (k + 1) a H = some (c, a', H') → dataB (k + 1) a' = true := fun a H c a' H' h => by
            cases a with
            | v x => have h' : some (true, EV.v x, H) = some (c, a', H') := h; simp only [Option.some.injEq, Prod.mk.injEq] at h'; obtain ⟨_, rfl, _⟩ := h'; rfl
            | lst x => have h' : some (true, EV.lst x, H) = some (c, a', H') := h; simp only [Option.some.injEq, Prod.mk.injEq] at h'; obtain ⟨_, rfl, _⟩ := h'; rfl
            | arr x => have h' : some (true, EV.arr x, H) = some (c, a', H') := h; simp only [Option.some.injEq, Prod.mk.injEq] at h'; obtain ⟨_, rfl, _⟩ := h'; rfl
            | slO i z len nn =>
              have h' : frzS i z len H = some (c, a', H') := h
              unfold frzS at h'
              split at h'
              case h_2 => cases h'
              rw [bc_eq] at h'
              split at h'
              case isFalse => cases h'
              rw [bc_eq] at h'
              split at h'
              case isFalse => cases h'
              rw [bc_eq] at h'
              split at h'
              case isFalse => cases h'
              simp only [Option.some.injEq, Prod.mk.injEq] at h'
              obtain ⟨_, rfl, _⟩ := h'; rfl
            | sl i z off len cap =>
              cases cap with
              | some q => cases h
              | none =>
              cases off with
              | succ q => cases h
              | zero =>
              have h' : frzS i z len H = some (c, a', H') := h
              unfold frzS at h'
              split at h'
              case h_2 => cases h'
              rw [bc_eq] at h'
              split at h'
              case isFalse => cases h'
              rw [bc_eq] at h'
              split at h'
              case isFalse => cases h'
              rw [bc_eq] at h'
              split at h'
              case isFalse => cases h'
              simp only [Option.some.injEq, Prod.mk.injEq] at h'
              obtain ⟨_, rfl, _⟩ := h'; rfl
            | agg l =>
              have h' : (match frzL (frzE k) l H with
                | some (c, l', H') => some (c, EV.agg l', H')
                | none => none) = some (c, a', H') := h
              split at h'
              case h_2 => cases h'
              rename_i e1
              simp only [Option.some.injEq, Prod.mk.injEq] at h'
              obtain ⟨_, rfl, _⟩ := h'
              exact ih.2 _ _ _ _ _ e1
            | tup l =>
              have h' : (match frzL (frzE k) l H with
                | some (c, l', H') => some (c, EV.tup l', H')
                | none => none) = some (c, a', H') := h
              split at h'
              case h_2 => cases h'
              rename_i e1
              simp only [Option.some.injEq, Prod.mk.injEq] at h'
              obtain ⟨_, rfl, _⟩ := h'
              exact ih.2 _ _ _ _ _ e1
            | fn f l =>
              have h' : (match frzL (frzE k) l H with
                | some (c, l', H') => some (c, EV.fn f l', H')
                | none => none) = some (c, a', H') := h
              split at h'
              case h_2 => cases h'
              rename_i e1
              simp only [Option.some.injEq, Prod.mk.injEq] at h'
              obtain ⟨_, rfl, _⟩ := h'
              exact ih.2 _ _ _ _ _ e1
            | _ => cases h
          refine ⟨h1, fun l => ?_⟩
          induction l with
          | nil => intro H c l' H' h; have h' : some (true, [], H) = some (c, l', H') := h; simp only [Option.some.injEq, Prod.mk.injEq] at h'; obtain ⟨_, rfl, _⟩ := h'; rfl
          | cons b l ihl =>
            intro H c l' H' h
            have h' : (match frzE (k + 1) b H with
              | some (c, a', H') => match frzL (frzE (k + 1)) l H' with
                | some (c2, l', H2) => some (bc c c2 false, a' :: l', H2)
                | none => none
              | none => none) = some (c, l', H') := h
            split at h'
            case h_2 => cases h'
            rename_i e1
            split at h'
            case h_2 => cases h'
            rename_i e2
            simp only [Option.some.injEq, Prod.mk.injEq] at h'
            obtain ⟨_, rfl, _⟩ := h'
            show bc (dataB (k + 1) _) (allL (dataB (k + 1)) _) false = true
            rw [h1 _ _ _ _ _ e1, ihl _ _ _ _ e2]; rfl
      exact (key 8).1 _ _ _ _ _ hf
    exact ⟨γ'.ren [], g3.data hdata fun _ _ h => h, hd⟩
theorem leadsF (hm0 : P.follows .mixedOrders = true) (hF : FTok P FT) {dr : ES → Nat → Array Oper → List IM → EO} (hdr : DrOk P dr) {sub : Sub} (hsub : LoudOk P sub) {ct : Tr ZCC} (hct : ZCtsOk P ct) {f k : Nat} {p : ES → Bool} {s : ES} {lk : List Nat} {κ : EO → ZF} {own : Bool} {r : NS} (hκ : ∀ e, ∃ ls, κ e = endZ lk ls own e)
    (h : runZ (stepZ P FT f dr sub ct) p κ k s = .at r) : LeadsZ P s (stOf r) :=
  leads_ofR (f := f) (lk := lk) fun γ w0 cs m hm => by
    obtain ⟨e, h1, h2⟩ := runZ_ok (p := p) (κ := κ) (fun γ s m κ' hm => stepZ_ok (fid := f) hm0 hF hdr hsub hct hm κ') k γ s m hm
    obtain ⟨ls, hls⟩ := hκ e
    have h3 : endZ lk ls own e = .at r := hls.symm.trans (h1.symm.trans h)
    unfold endZ at h3
    split at h3
    · exact (doneZ_at h3).elim
    · split at h3
      · rename_i s' r' hr
        injection h3 with h3; subst h3
        unfold normZ at hr
        simp only at hr
        obtain ⟨γ', m', hle, hst, hM⟩ := h2
        exact ⟨_, _, _, _, _, _, hr, ⟨γ', m', hle, hst, nilS_ok hM⟩⟩
      · cases h3
    · cases h3
/-- a call, from its entry to its end -/
theorem callsF (hm0 : P.follows .mixedOrders = true) (hF : FTok P FT) {dr : ES → Nat → Array Oper → List IM → EO} (hdr : DrOk P dr) {sub : Sub} (hsub : LoudOk P sub) {ct : Tr ZCC} (hct : ZCtsOk P ct) {f k : Nat} {p : ES → Bool} {s : ES} {lk : List Nat} {κ : EO → ZF} {own : Bool} {args : List EV} {us : Array Value} {e : EF} {a : EV} {K : List (Nat × EK)} {n' : Nat} (hκ : ∀ e, ∃ ls, κ e = endZ lk ls own e)
    (he : exEnter FT f args = some e) (hargs : ECL γ args us.toList) (hN : ∀ i, γ i = none) (hfz : FzAt γ w)
    (hl : LeadsZ P ⟨e, [], .nil, 0⟩ s) (hd : runZ (stepZ P FT f dr sub ct) p κ k s = .done a K n') :
    Calls P f us w fun e w' => ∃ γ' x, e = .returned x ∧ EC γ' a x ∧ HR γ' (Bs.ofG w γ) (mkT K) n' w' := by
  intro cs
  obtain ⟨q1, _⟩ := exEnter_ok hF hargs he
  have hM : MR γ (Bs.ofG w γ) cs ⟨e, [], .nil, 0⟩ (lone (Frame.enter P f us .normal) cs w) :=
    ⟨_, [], w, rfl, q1, .nil, ⟨(fun i k hk => by cases hk), (fun i j ki kj hi => by cases hi), (fun i _ => hN i), (fun i hi => hi.elim), (fun i p hp => by rw [hN i] at hp; cases hp), ⟨rfl, rfl, rfl, Nat.le_refl _, fun _ _ => rfl⟩, FZ.init hfz⟩⟩
  obtain ⟨γ1, m1, g1, g3⟩ := hl γ (Bs.ofG w γ) cs _ (fun i hi => hi) hM
  obtain ⟨eo, h1, this⟩ := runZ_ok (p := p) (κ := κ) (fun γ s m κ' hm => stepZ_ok (fid := f) hm0 hF hdr hsub hct hm κ') k γ1 s m1 g3
  obtain ⟨ls, hls⟩ := hκ eo
  have h3 : endZ lk ls own eo = .done a K n' := hls.symm.trans (h1.symm.trans hd)
  unfold endZ at h3
  split at h3
  · rename_i a0 H0 n0
    obtain ⟨γ', fr', w', v, _, h2, h4, h5, h6, h7⟩ := this
    obtain ⟨γ2, k1, k2⟩ := doneZ_ok h3 h7 (fun i hi => hi) h6
    exact ⟨.returned v, w', fr', ⟨γ2, v, rfl, k1, k2⟩, g1.trans h2, h4, h5⟩
  · split at h3 <;> cases h3
  · cases h3
end Go.Proofs.Ytkbebiebaenbdaa.Ev
namespace Go.Proofs.Ytkbebiebaenbdaa.Ev
open Go.RowKit
variable {P : Program} {γ γ' : G} {w0 : Bs} {w : World} {H H' : Tr EK} {n n' : Nat} {T : Tr EV} {cs : List Frame} {fid : FuncId} {FT : Tr FI} {tmps : Array Value} {o : Oper} {α : Type}
noncomputable def idL (k : Nat) : List (Nat × Nat) := Nat.rec [] (fun j ih => ih ++ [(j, j)]) k
theorem idL_mem : ∀ {k j : Nat}, j < k → (j, j) ∈ idL k
  | k + 1, j, h => by
    show (j, j) ∈ idL k ++ [(k, k)]
    by_cases e : j = k
    · subst e; simp
    · exact List.mem_append.2 (.inl (idL_mem (by omega)))
noncomputable def pinsB (k : Nat) (ρ : List (Nat × Nat)) : Bool := allL (fun p => isSomeN (lookN ρ p.1) p.2) (idL k)
theorem pinsB_ok {k : Nat} {ρ : List (Nat × Nat)} (h : pinsB k ρ = true) {j : Nat} (hj : j < k) : lookN ρ j = some j := isSomeN_ok (allL_ok h (j, j) (idL_mem hj))
noncomputable def normK (k : Nat) (lk : List Nat) (ls : List SZ) (e : EO) : Option NS := match e with
  | .go s => match framesN (s.top :: s.rest) ls ⟨idL k, [], k⟩ with
    | (q0, sl) => match closeN lk s.H 60 0 q0 with
      | q => bc (pinsB k q.ρ) (normR lk sl q.ρ (keepN s.H q.ρ) q.nils q.N (.go s)) none
  | _ => none
noncomputable def doneM (k : Nat) (a : EV) (H : Tr EK) : ZF := match closeN [] H 60 0 (addL (numsE 6 a) ⟨idL k, [], k⟩) with
  | q => match renE q.ρ 8 a with
    | some a' => match pickK q.ρ H [] (keepN H q.ρ) with
      | some K => bc (okN q.ρ q.N) (bc (allL (fun p => isSomeN (lookN q.ρ p.1) p.2) (keepN H q.ρ)) (bc (pinsB k q.ρ) (.done a' (sortK K) q.N) .bad) .bad) .bad
      | none => .bad
    | none => .bad
/-- nil slices of some blocks, laid as sequences (block, size, type, contents) -/
abbrev NLs := List (Nat × Nat × TypeId × SyC)
noncomputable def nilD (nl : NLs) : Tr EK × Nat → Tr EK × Nat := List.rec (fun q => q) (fun p _ ih q => match q.1.get p.1 with
  | some (.cells _ l _) => ih (nilL p.2.1 p.2.2.1 p.2.2.2 p.1 (nilJ l 0) q)
  | _ => ih q) nl
theorem nilD_ok : ∀ {nl : NLs} {q : Tr EK × Nat}, HR γ w0 q.1 q.2 w → HR γ w0 (nilD nl q).1 (nilD nl q).2 w
  | [], _, h => h
  | p :: nl, q, h => by
    show HR γ w0 (match q.1.get p.1 with
      | some (.cells _ l _) => nilD nl (nilL p.2.1 p.2.2.1 p.2.2.2 p.1 (nilJ l 0) q)
      | _ => nilD nl q).1 (match q.1.get p.1 with
      | some (.cells _ l _) => nilD nl (nilL p.2.1 p.2.2.1 p.2.2.2 p.1 (nilJ l 0) q)
      | _ => nilD nl q).2 w
    split
    · exact nilD_ok (nilL_ok h)
    · exact nilD_ok h
noncomputable def endM (k : Nat) (lk : List Nat) (ps : PLs) (nl : NLs) (e : EO) : ZF := match e with
  | .go s => match normK k lk (lsAt ps s) (.go (nilS (lsAt ps s) s)) with
    | some r => .at r
    | none => .bad
  | .done a H n => doneM k a (nilD nl (H, n)).1
  | _ => .bad
def LeadsM (P : Program) (k : Nat) (s s' : ES) : Prop := ∀ (γ : G) (w0 : Bs) (cs : List Frame) (m : Machine), (∀ i, ¬ w0.res i) → MR γ w0 cs s m → ∃ γ' m', Steps P m m' ∧ MR γ' w0 cs s' m' ∧ ∀ j p, j < k → γ j = some p → γ' j = some p
theorem LeadsM.trans {k : Nat} {a b c : ES} (h : LeadsM P k a b) (g : LeadsM P k b c) : LeadsM P k a c := fun γ w0 cs m hr hm => by
  obtain ⟨γ1, m1, h1, h2, h3⟩ := h γ w0 cs m hr hm
  obtain ⟨γ2, m2, k1, k2, k3⟩ := g γ1 w0 cs m1 hr h2
  exact ⟨γ2, m2, h1.trans k1, k2, fun j p hj e => k3 j p hj (h3 j p hj e)⟩
theorem LeadsM.refl (k : Nat) (a : ES) : LeadsM P k a a := fun γ _ _ m _ hm => ⟨γ, m, Steps.refl P _, hm, fun _ _ _ e => e⟩
theorem leads_ofM {s : ES} {lk : List Nat} {r : NS} {f : FuncId} {k : Nat}
    (h : ∀ (γ : G) (w0 : Bs) (cs : List Frame) (m : Machine), MR γ w0 cs s m → ∃ e ls ρ keep nils N, normR lk ls ρ keep nils N e = some r ∧ pinsB k ρ = true ∧ SOk P γ w0 cs f m e) : LeadsM P k s (stOf r) := fun γ w0 cs m hres hm => by
  obtain ⟨e, ls, ρ, keep, nils, N, h, hpk, this⟩ := h γ w0 cs m hm
  unfold normR at h
  split at h
  case h_2 => cases h
  rename_i s'
  obtain ⟨γ', m', h1, h2, h3⟩ := this
  split at h
  case h_2 => cases h
  rename_i l hl
  split at h
  case h_2 => cases h
  rename_i K hK
  rw [bc_eq] at h
  split at h
  case isFalse => cases h
  rename_i hρ
  rw [bc_eq] at h
  split at h
  case isFalse => cases h
  rename_i hkeep
  rw [bc_eq] at h
  split at h
  case isFalse => cases h
  rename_i hnil
  injection h with h; subst h
  obtain ⟨fr, frs, w, rfl, g1, hfs, hH⟩ := h3
  have g3 := normFsR_ok hρ hl (.cons g1 hfs)
  have hHn := hH.ren hres hρ hkeep hnil hK (K2 := sortK (nilsK nils ++ K)) (fun _ => sortK_mem)
  cases l with
  | nil => have g3 : All2 (FR (γ'.ren ρ)) [] (fr :: frs) := g3; cases g3
  | cons f l =>
    have g3 : All2 (FR (γ'.ren ρ)) (frOf f :: frsOf l) (fr :: frs) := g3
    cases g3 with
    | cons e1 e2 => exact ⟨γ'.ren ρ, _, h2, ⟨fr, frs, w, rfl, e1, e2, hHn⟩, fun j p hj ej => by rw [G.ren_look hρ (pinsB_ok hpk hj)]; exact h1 j p ej⟩
theorem leadsM (hm0 : P.follows .mixedOrders = true) (hF : FTok P FT) {dr : ES → Nat → Array Oper → List IM → EO} (hdr : DrOk P dr) {sub : Sub} (hsub : LoudOk P sub) {ct : Tr ZCC} (hct : ZCtsOk P ct) {f k c : Nat} {p : ES → Bool} {s : ES} {lk : List Nat} {ps : PLs} {nl : NLs} {r : NS}
    (h : runZ (stepZ P FT f dr sub ct) p (endM k lk ps nl) c s = .at r) : LeadsM P k s (stOf r) :=
  leads_ofM (f := f) (lk := lk) fun γ w0 cs m hm => by
    obtain ⟨e, h1, h2⟩ := runZ_ok (p := p) (κ := endM k lk ps nl) (fun γ s m κ' hm => stepZ_ok (fid := f) hm0 hF hdr hsub hct hm κ') c γ s m hm
    have h3 : endM k lk ps nl e = .at r := h1.symm.trans h
    unfold endM at h3
    split at h3
    · split at h3
      · rename_i s' r' hr
        injection h3 with h3; subst h3
        unfold normK at hr
        simp only at hr
        rw [bc_eq] at hr
        split at hr
        case isFalse => cases hr
        rename_i hpk
        obtain ⟨γ', m', hle, hst, hM⟩ := h2
        exact ⟨_, _, _, _, _, _, hr, hpk, ⟨γ', m', hle, hst, nilS_ok hM⟩⟩
      · cases h3
    · unfold doneM at h3
      simp only at h3
      split at h3
      · split at h3
        · rw [bc_eq, bc_eq, bc_eq] at h3
          split at h3
          · split at h3
            · split at h3 <;> cases h3
            · cases h3
          · cases h3
        · cases h3
      · cases h3
    · cases h3
/-- a call, from its entry to its end -/
theorem callsM (hm0 : P.follows .mixedOrders = true) (hF : FTok P FT) {dr : ES → Nat → Array Oper → List IM → EO} (hdr : DrOk P dr) {sub : Sub} (hsub : LoudOk P sub) {ct : Tr ZCC} (hct : ZCtsOk P ct) {f k c : Nat} {p : ES → Bool} {s : ES} {lk : List Nat} {ps : PLs} {nl : NLs} {args : List EV} {us : Array Value} {e : EF} {K0 : List (Nat × EK)} {m0 : Nat} {a : EV} {K : List (Nat × EK)} {n' : Nat}
    (he : exEnter FT f args = some e) (hres : ∀ i, ¬ w0.res i) (hargs : ECL γ args us.toList) (hH : HR γ w0 (mkT K0) m0 w)
    (hl : LeadsM P k ⟨e, [], mkT K0, m0⟩ s) (hd : runZ (stepZ P FT f dr sub ct) p (endM k lk ps nl) c s = .done a K n') :
    Calls P f us w fun e w' => ∃ γ' x, e = .returned x ∧ EC γ' a x ∧ HR γ' w0 (mkT K) n' w' ∧ ∀ j p, j < k → γ j = some p → γ' j = some p := by
  intro cs
  obtain ⟨q1, _⟩ := exEnter_ok hF hargs he
  have hM : MR γ w0 cs ⟨e, [], mkT K0, m0⟩ (lone (Frame.enter P f us .normal) cs w) := ⟨_, [], w, rfl, q1, .nil, hH⟩
  obtain ⟨γ1, m1, g1, g3, g4⟩ := hl γ w0 cs _ hres hM
  obtain ⟨eo, h1, this⟩ := runZ_ok (p := p) (κ := endM k lk ps nl) (fun γ s m κ' hm => stepZ_ok (fid := f) hm0 hF hdr hsub hct hm κ') c γ1 s m1 g3
  have h3 : endM k lk ps nl eo = .done a K n' := h1.symm.trans hd
  unfold endM at h3
  split at h3
  · split at h3 <;> cases h3
  · rename_i a0 H0 n0
    obtain ⟨γ', fr', w', v, hle, h2, h4, h5, h6, h7⟩ := this
    unfold doneM at h3
    simp only at h3
    split at h3
    case h_2 => cases h3
    rename_i a2 ha2
    split at h3
    case h_2 => cases h3
    rename_i K2 hK2
    rw [bc_eq] at h3
    split at h3
    case isFalse => cases h3
    rename_i hρ
    rw [bc_eq] at h3
    split at h3
    case isFalse => cases h3
    rename_i hkeep
    rw [bc_eq] at h3
    split at h3
    case isFalse => cases h3
    rename_i hpk
    injection h3 with e1 e2 e3; subst e1; subst e2; subst e3
    exact ⟨.returned v, w', fr', ⟨_, v, rfl, EC.ren hρ ha2 h6, (nilD_ok (nl := nl) (q := (H0, n0)) h7).ren (nils := []) hres hρ hkeep rfl hK2 (K2 := sortK K2) (fun _ => sortK_mem), fun j p hj ej => by rw [G.ren_look hρ (pinsB_ok hpk hj)]; exact hle j p (g4 j p hj ej)⟩, g1.trans h2, h4, h5⟩
  · cases h3
end Go.Proofs.Ytkbebiebaenbdaa.Ev
namespace Go.Proofs.Ytkbebiebaenbdaa.Ev
open Go.RowKit
variable {P : Program} {γ γ' : G} {w0 : Bs} {w w' : World} {H H' : Tr EK} {n n' : Nat}

/-- blocks behind the heap's end have come -/
theorem HR.below (h : HR γ w0 H n w) (b : Below w.heap.size w w') : HR γ w0 H n w' := by
  refine ⟨fun i k hk => ?_, h.inj0, h.fresh, h.rsv, fun i p e => Nat.lt_of_lt_of_le (h.lt i p e) b.size, ?_, h.fzq rfl (fun k hk _ => b.block k hk) fun i ki b m hi ni ei => .inr ⟨i, ki, b, m, hi, ni, ei, rfl⟩⟩
  · refine (h.hp0 i k hk).imp id fun ⟨c, m, h1, h2, h3⟩ => ?_
    exact ⟨c, m, h1, h2, EK.ok_mono (GLe.refl γ) (b.block c.k (h.lt i _ h1)) h3⟩
  · refine ⟨b.os.trans h.stays.os, b.tape.trans h.stays.tape, b.output.trans h.stays.output, Nat.le_trans h.stays.size b.size, fun k hk => ?_⟩
    have h1 := w0.lt k hk
    have h2 := h.stays.size
    exact (b.block k (by omega)).trans (h.stays.block k hk)
noncomputable def ctRepeat : CT := fun args H n => match args with
  | [.v (.string s), .v (.int .i64 (.ofNat c))] => bc (Nat.ble c 65536) (bc (Nat.ble s.size 65536) (some (.v (.string ⟨(Lib.repeatL s.data.toList c).toArray⟩), H, n)) none) none
  | _ => none
theorem ctRepeat_ok {f : FuncId} (h : ∀ (s : ByteArray) (c : Nat) (w : World), c ≤ 9223372036854775807 → s.size * c ≤ 140737488355328 → Calls P f #[.string s, .int .i64 c] w fun e w' => e = .returned (.string ⟨(Lib.repeatL s.data.toList c).toArray⟩) ∧ Below w.heap.size w w') : CtOk P f ctRepeat := by
  intro γ w0 H n w args us a H' n' hH hc hr
  unfold ctRepeat at hr
  split at hr
  case h_2 => cases hr
  rename_i s c
  rw [bc_eq, bc_eq] at hr
  split at hr
  case isFalse => cases hr
  rename_i h1
  split at hr
  case isFalse => cases hr
  rename_i h2
  simp only [Option.some.injEq, Prod.mk.injEq] at hr
  obtain ⟨rfl, rfl, rfl⟩ := hr
  have h1 := Nat.le_of_ble_eq_true h1
  have h2 := Nat.le_of_ble_eq_true h2
  obtain ⟨x, r1, e1, hx, hc1⟩ := ECL.inv hc
  obtain ⟨y, r2, e2, hy, hc2⟩ := ECL.inv hc1
  have e3 : r2 = [] := by apply List.eq_nil_of_length_eq_zero; have := hc2.1; simpa using this.symm
  have hx := ec_v hx
  have hy := ec_v hy
  subst hx; subst hy; subst e3; subst e2
  have eu : us = #[.string s, .int .i64 (c : Int)] := by apply Array.ext'; simpa using e1
  rw [eu]
  refine (h s c w (by omega) (by have := Nat.mul_le_mul h2 h1; omega)).mono ?_
  rintro e w' ⟨rfl, hb⟩
  exact ⟨γ, _, GLe.refl γ, hH.below hb, .v _, rfl⟩
noncomputable def strOf (a : EV) : Option ByteArray := match a with
  | .v (.string s) => some s
  | _ => none
/-- strings, all of them -/
noncomputable def strsOf (cs : List EV) : Option (List ByteArray) := List.rec (some []) (fun a _ ih => match strOf a with
  | some s => match ih with
    | some l => some (s :: l)
    | none => none
  | none => none) cs
theorem strsOf_eq : ∀ {cs : List EV} {l : List ByteArray}, strsOf cs = some l → cs = l.map fun s => .v (.string s)
  | [], l, h => by simp [strsOf] at h; subst h; rfl
  | a :: cs, l, h => by
    have h' : (match strOf a with
      | some s => match strsOf cs with
        | some l => some (s :: l)
        | none => none
      | none => none) = some l := h
    split at h'
    case h_2 => cases h'
    rename_i s hs
    split at h'
    case h_2 => cases h'
    rename_i l' hl
    injection h' with h'; subst h'
    unfold strOf at hs
    split at hs
    case h_2 => cases hs
    injection hs with hs; subst hs
    rw [strsOf_eq hl]; rfl
noncomputable def ctJoin : CT := fun args H n => match args with
  | [.v (.slice none 0 0), .v (.string _)] => some (.v (.string ⟨#[]⟩), H, n)
  | [.sl i _ off len _, .v (.string sep)] => match H.get i with
    | some (.cells _ cs _) => match strsOf ((cs.drop off).take len) with
      | some xs => bc (Nat.beq (llen xs) len) (bc (Nat.ble (llen (Lib.join (xs.map (·.data.toList)) sep.data.toList)) 65536) (bc (Nat.ble len 65536) (some (.v (.string ⟨(Lib.join (xs.map (·.data.toList)) sep.data.toList).toArray⟩), H, n)) none) none) none
      | none => none
    | _ => none
  | _ => none
theorem ctJoin_ok {f : FuncId} (h0 : ∀ (a : Option Addr) (c : Nat) (sep : ByteArray) (w : World), Calls P f #[.slice a 0 c, .string sep] w fun e w' => e = .returned (.string ⟨#[]⟩) ∧ w' = w)
    (h : ∀ (bk o c : Nat) (xs : List ByteArray) (sep : ByteArray) (w : World), (∀ (j : Nat) x, xs[j]? = some x → w.cell? ⟨bk, o + j, none⟩ = some (.string x)) → bk < w.heap.size → xs.length ≤ 140737488355328 → xs.length ≤ c → (Lib.join (xs.map (·.data.toList)) sep.data.toList).length ≤ 140737488355328 →
      Calls P f #[.slice (some ⟨bk, o, none⟩) xs.length c, .string sep] w fun e w' => e = .returned (.string ⟨(Lib.join (xs.map (·.data.toList)) sep.data.toList).toArray⟩) ∧ Below w.heap.size w w') : CtOk P f ctJoin := by
  intro γ w0 H n w args us a H' n' hH hc hr
  unfold ctJoin at hr
  split at hr
  · simp only [Option.some.injEq, Prod.mk.injEq] at hr
    obtain ⟨rfl, rfl, rfl⟩ := hr
    obtain ⟨x, r1, e1, hx, hc1⟩ := ECL.inv hc
    obtain ⟨y, r2, e2, hy, hc2⟩ := ECL.inv hc1
    have e3 : r2 = [] := by apply List.eq_nil_of_length_eq_zero; have := hc2.1; simpa using this.symm
    have hx := ec_v hx
    have hy := ec_v hy
    subst hx; subst hy; subst e3; subst e2
    rename_i sep
    have eu : us = #[.slice none 0 0, .string sep] := by apply Array.ext'; simpa using e1
    rw [eu]
    refine (h0 none 0 sep w).mono ?_
    rintro e w' ⟨rfl, rfl⟩
    exact ⟨γ, _, GLe.refl γ, hH, .v _, rfl⟩
  · rename_i i z off len cap sep
    split at hr
    case h_2 => cases hr
    rename_i ty cs full hg
    split at hr
    case h_2 => cases hr
    rename_i xs hxs
    rw [bc_eq, bc_eq, bc_eq] at hr
    split at hr
    case isFalse => cases hr
    rename_i hl1
    split at hr
    case isFalse => cases hr
    rename_i hl2
    split at hr
    case isFalse => cases hr
    rename_i hl3
    simp only [Option.some.injEq, Prod.mk.injEq] at hr
    obtain ⟨rfl, rfl, rfl⟩ := hr
    have hl1 := Nat.eq_of_beq_eq_true hl1
    have hl2 := Nat.le_of_ble_eq_true hl2
    have hl3 := Nat.le_of_ble_eq_true hl3
    rw [llen_eq] at hl1 hl2
    obtain ⟨x, r1, e1, hx, hc1⟩ := ECL.inv hc
    obtain ⟨y, r2, e2, hy, hc2⟩ := ECL.inv hc1
    have e3 : r2 = [] := by apply List.eq_nil_of_length_eq_zero; have := hc2.1; simpa using this.symm
    have hy := ec_v hy
    cases hx with
    | sl _ _ _ _ _ b m c hγ hle hm hn hcc hu =>
    subst hy; subst e3; subst e2
    have eu : us = #[.slice (some (b.at off)) len c, .string sep] := by apply Array.ext'; simpa using e1
    obtain ⟨b2, m2, g1, g2, ca, g3, g4, g5, _, g6⟩ := hH.hp i _ hg
    rw [hγ] at g1
    simp only [Option.some.injEq, Prod.mk.injEq] at g1
    obtain ⟨rfl, rfl⟩ := g1
    have hbk : b.k < w.heap.size := hH.lt i _ hγ
    rw [eu, ← hl1]
    refine (h b.k (b.s + off) c xs sep w (fun j x hj => ?_) hbk (by omega) (by omega) (by omega)).mono ?_
    · have hcs := strsOf_eq hxs
      have h1 : ((cs.drop off).take len)[j]? = some (.v (.string x)) := by rw [hcs, List.getElem?_map, hj]; rfl
      rw [List.getElem?_take] at h1
      split at h1
      case isFalse => cases h1
      rw [List.getElem?_drop] at h1
      obtain ⟨u, hu1, hu2⟩ := g6.at h1
      rw [List.getElem?_take] at hu1
      split at hu1
      case isFalse => cases hu1
      rw [List.getElem?_drop] at hu1
      have hu2 := ec_v hu2
      subst hu2
      have e4 : b.s + off + j = b.s + (off + j) := by omega
      have := (cell_of (off := off + j) g3).1
      unfold Pl.at at this
      rw [e4, this]
      simpa using hu1
    · rintro e w' ⟨rfl, hb⟩
      exact ⟨γ, _, GLe.refl γ, hH.below hb, .v _, rfl⟩
  · cases hr
end Go.Proofs.Ytkbebiebaenbdaa.Ev
namespace Go.Proofs
open Go.Shelf
def Try.lays156_ren : Go.Shelf.Ren := ⟨fun | 156 => 87 | 165 => 81 | 166 => 82 | 169 => 84 | 240 => 106 | 241 => 107 | 276 => 119 | 277 => 120 | n => n, fun | 31 => 85 | 9 => 9 | 3 => 3 | 4 => 4 | 0 => 0 | 20 => 20 | 72 => 129 | 76 => 133 | 70 => 126 | 37 => 127 | 75 => 132 | 127 => 164 | 164 => 180 | 5 => 5 | 80 => 136 | n => n, fun | n => n⟩
theorem Try.lays156 : Go.Proofs.Lays.n156 Try.prog Try.lays156_ren := {
  mixed := by kernel_rfl
  f156 := Try.func87.trans (congrArg some (by kernel_rfl))
  f165 := Try.func81.trans (congrArg some (by kernel_rfl))
  f166 := Try.func82.trans (congrArg some (by kernel_rfl))
  f169 := Try.func84.trans (congrArg some (by kernel_rfl))
  f240 := Try.func106.trans (congrArg some (by kernel_rfl))
  f241 := Try.func107.trans (congrArg some (by kernel_rfl))
  f276 := Try.func119.trans (congrArg some (by kernel_rfl))
  f277 := Try.func120.trans (congrArg some (by kernel_rfl))
  t0 := Try.underlying0
  a0 := Try.isAgg0
  z0 := Try.sizeOf0
  v0 := Try.zeroValue0
  t3 := Try.underlying3
  a3 := Try.isAgg3
  z3 := Try.sizeOf3
  v3 := Try.zeroValue3
  t4 := Try.underlying4
  a4 := Try.isAgg4
  z4 := Try.sizeOf4
  v4 := Try.zeroValue4
  t9 := Try.underlying9
  a9 := Try.isAgg9
  z9 := Try.sizeOf9
  v9 := Try.zeroValue9
  t20 := Try.underlying20
  a20 := Try.isAgg20
  z20 := Try.sizeOf20
  v20 := Try.zeroValue20
  t31 := Try.underlying85
  a31 := Try.isAgg85
  z31 := Try.sizeOf85
  v31 := Try.zeroValue85
  t37 := Try.underlying127
  a37 := Try.isAgg127
  z37 := Try.sizeOf127
  v37 := Try.zeroValue127
  t70 := Try.underlying126
  a70 := Try.isAgg126
  z70 := Try.sizeOf126
  v70 := Try.zeroValue126
  t72 := Try.underlying129
  a72 := Try.isAgg129
  z72 := Try.sizeOf129
  v72 := Try.zeroValue129
  t75 := Try.underlying132
  a75 := Try.isAgg132
  z75 := Try.sizeOf132
  v75 := Try.zeroValue132
  t76 := Try.underlying133
  a76 := Try.isAgg133
  z76 := Try.sizeOf133
  v76 := Try.zeroValue133
  t127 := Try.underlying164
  a127 := Try.isAgg164
  z127 := Try.sizeOf164
  v127 := Try.zeroValue164
  t164 := Try.underlying180
  a164 := Try.isAgg180
  z164 := Try.sizeOf180
  v164 := Try.zeroValue180 }
theorem Try.Builder_Extra_156 : Builder.Extra Try.prog Try.lays156_ren := {
  sizeBuilder := by kernel_rfl
  liesBuilder := by kernel_rfl
  t5 := Try.underlying5
  a5 := Try.isAgg5
  z5 := Try.sizeOf5
  v5 := Try.zeroValue5
  infoByte := by kernel_rfl
  cellsByte := by kernel_rfl
  sizeByte := by kernel_rfl
  neB5 := by decide }
open Go.RowKit in
theorem Try.strings_Join_none (a : Option Addr) (c : Nat) (sep : ByteArray) (w : World) :
    Calls Try.prog 87 #[.slice a 0 c, .string sep] w fun e w' => e = .returned (.string ⟨#[]⟩) ∧ w' = w := Any.strings_Join_none Try.lays156 Try.Builder_Extra_156 a c sep w
open Go.RowKit in
theorem Try.strings_Join (bk o c : Nat) (xs : List ByteArray) (sep : ByteArray) (w : World) (hcells : ∀ (j : Nat) x, xs[j]? = some x → w.cell? ⟨bk, o + j, none⟩ = some (.string x)) (hbk : bk < w.heap.size) (hN : xs.length ≤ 140737488355328) (hcap : xs.length ≤ c) (hlen : (Lib.join (xs.map (·.data.toList)) sep.data.toList).length ≤ 140737488355328) :
    Calls Try.prog 87 #[.slice (some ⟨bk, o, none⟩) xs.length c, .string sep] w fun e w' => e = .returned (.string ⟨(Lib.join (xs.map (·.data.toList)) sep.data.toList).toArray⟩) ∧ Below w.heap.size w w' := Any.strings_Join Try.lays156 Try.Builder_Extra_156 bk o c xs sep w hcells hbk hN hcap hlen
def Try.lays137_ren : Go.Shelf.Ren := ⟨fun | 137 => 117 | 217 => 137 | 266 => 143 | n => n, fun | 9 => 9 | 5 => 5 | 3 => 3 | n => n, fun | n => n⟩
theorem Try.lays137 : Go.Proofs.Lays.n137 Try.prog Try.lays137_ren := {
  mixed := by kernel_rfl
  f137 := Try.func117.trans (congrArg some (by kernel_rfl))
  f217 := Try.func137.trans (congrArg some (by kernel_rfl))
  f266 := Try.func143.trans (congrArg some (by kernel_rfl))
  t3 := Try.underlying3
  a3 := Try.isAgg3
  z3 := Try.sizeOf3
  v3 := Try.zeroValue3
  t5 := Try.underlying5
  a5 := Try.isAgg5
  z5 := Try.sizeOf5
  v5 := Try.zeroValue5
  t9 := Try.underlying9
  a9 := Try.isAgg9
  z9 := Try.sizeOf9
  v9 := Try.zeroValue9 }
open Go.RowKit in
theorem Try.strings_IndexByte (s : ByteArray) (c : Int) (w : World) :
    Calls Try.prog 117 #[.string s, .int .u8 c] w fun e w' => e = .returned (.int .i64 (Lib.indexByte s.data.toList c.toNat.toUInt8)) ∧ w' = w := Any.strings_IndexByte Try.lays137 s c w
def Try.lays212_ren : Go.Shelf.Ren := ⟨fun | 212 => 79 | 263 => 103 | 264 => 104 | n => n, fun | 46 => 122 | 51 => 158 | 146 => 159 | 53 => 161 | 148 => 162 | n => n, fun | n => n⟩
theorem Try.lays212 : Go.Proofs.Lays.n212 Try.prog Try.lays212_ren := {
  mixed := by kernel_rfl
  f212 := Try.func79.trans (congrArg some (by kernel_rfl))
  f263 := Try.func103.trans (congrArg some (by kernel_rfl))
  f264 := Try.func104.trans (congrArg some (by kernel_rfl))
  t46 := Try.underlying122
  a46 := Try.isAgg122
  z46 := Try.sizeOf122
  v46 := Try.zeroValue122
  t51 := Try.underlying158
  a51 := Try.isAgg158
  z51 := Try.sizeOf158
  v51 := Try.zeroValue158
  t53 := Try.underlying161
  a53 := Try.isAgg161
  z53 := Try.sizeOf161
  v53 := Try.zeroValue161
  t146 := Try.underlying159
  a146 := Try.isAgg159
  z146 := Try.sizeOf159
  v146 := Try.zeroValue159
  t148 := Try.underlying162
  a148 := Try.isAgg162
  z148 := Try.sizeOf162
  v148 := Try.zeroValue162 }
open Go.RowKit Go.Lib in
theorem Try.bits_Mul (x y : Nat) (hx : x < 18446744073709551616) (hy : y < 18446744073709551616) (w : World) :
    Calls Try.prog 79 #[.int .u64 x, .int .u64 y] w fun e w' => e = .returned (.tuple #[.int .u64 ((x * y / 18446744073709551616 : Nat) : Int), .int .u64 ((x * y % 18446744073709551616 : Nat) : Int)]) ∧ w' = w := Any.bits_Mul Try.lays212 x y hx hy w
def Try.lays105_ren : Go.Shelf.Ren := ⟨fun | 105 => 48 | 212 => 79 | 99 => 80 | 165 => 81 | 166 => 82 | 170 => 83 | 169 => 84 | 263 => 103 | 264 => 104 | 206 => 105 | 240 => 106 | 241 => 107 | 276 => 119 | 277 => 120 | n => n, fun | 9 => 9 | 3 => 3 | 4 => 4 | 20 => 20 | 0 => 0 | 46 => 122 | 109 => 123 | 5 => 5 | 72 => 129 | 76 => 133 | 51 => 158 | 146 => 159 | 53 => 161 | 148 => 162 | 70 => 126 | 37 => 127 | 75 => 132 | 127 => 164 | 164 => 180 | 80 => 136 | n => n, fun | n => n⟩
theorem Try.lays105 : Go.Proofs.Lays.n105 Try.prog Try.lays105_ren := {
  mixed := by kernel_rfl
  f99 := Try.func80.trans (congrArg some (by kernel_rfl))
  f105 := Try.func48.trans (congrArg some (by kernel_rfl))
  f165 := Try.func81.trans (congrArg some (by kernel_rfl))
  f166 := Try.func82.trans (congrArg some (by kernel_rfl))
  f169 := Try.func84.trans (congrArg some (by kernel_rfl))
  f170 := Try.func83.trans (congrArg some (by kernel_rfl))
  f206 := Try.func105.trans (congrArg some (by kernel_rfl))
  f212 := Try.func79.trans (congrArg some (by kernel_rfl))
  f240 := Try.func106.trans (congrArg some (by kernel_rfl))
  f241 := Try.func107.trans (congrArg some (by kernel_rfl))
  f263 := Try.func103.trans (congrArg some (by kernel_rfl))
  f264 := Try.func104.trans (congrArg some (by kernel_rfl))
  f276 := Try.func119.trans (congrArg some (by kernel_rfl))
  f277 := Try.func120.trans (congrArg some (by kernel_rfl))
  t0 := Try.underlying0
  a0 := Try.isAgg0
  z0 := Try.sizeOf0
  v0 := Try.zeroValue0
  t3 := Try.underlying3
  a3 := Try.isAgg3
  z3 := Try.sizeOf3
  v3 := Try.zeroValue3
  t4 := Try.underlying4
  a4 := Try.isAgg4
  z4 := Try.sizeOf4
  v4 := Try.zeroValue4
  t5 := Try.underlying5
  a5 := Try.isAgg5
  z5 := Try.sizeOf5
  v5 := Try.zeroValue5
  t9 := Try.underlying9
  a9 := Try.isAgg9
  z9 := Try.sizeOf9
  v9 := Try.zeroValue9
  t20 := Try.underlying20
  a20 := Try.isAgg20
  z20 := Try.sizeOf20
  v20 := Try.zeroValue20
  t37 := Try.underlying127
  a37 := Try.isAgg127
  z37 := Try.sizeOf127
  v37 := Try.zeroValue127
  t46 := Try.underlying122
  a46 := Try.isAgg122
  z46 := Try.sizeOf122
  v46 := Try.zeroValue122
  t51 := Try.underlying158
  a51 := Try.isAgg158
  z51 := Try.sizeOf158
  v51 := Try.zeroValue158
  t53 := Try.underlying161
  a53 := Try.isAgg161
  z53 := Try.sizeOf161
  v53 := Try.zeroValue161
  t70 := Try.underlying126
  a70 := Try.isAgg126
  z70 := Try.sizeOf126
  v70 := Try.zeroValue126
  t72 := Try.underlying129
  a72 := Try.isAgg129
  z72 := Try.sizeOf129
  v72 := Try.zeroValue129
  t75 := Try.underlying132
  a75 := Try.isAgg132
  z75 := Try.sizeOf132
  v75 := Try.zeroValue132
  t76 := Try.underlying133
  a76 := Try.isAgg133
  z76 := Try.sizeOf133
  v76 := Try.zeroValue133
  t109 := Try.underlying123
  a109 := Try.isAgg123
  z109 := Try.sizeOf123
  v109 := Try.zeroValue123
  t127 := Try.underlying164
  a127 := Try.isAgg164
  z127 := Try.sizeOf164
  v127 := Try.zeroValue164
  t146 := Try.underlying159
  a146 := Try.isAgg159
  z146 := Try.sizeOf159
  v146 := Try.zeroValue159
  t148 := Try.underlying162
  a148 := Try.isAgg162
  z148 := Try.sizeOf162
  v148 := Try.zeroValue162
  t164 := Try.underlying180
  a164 := Try.isAgg180
  z164 := Try.sizeOf180
  v164 := Try.zeroValue180 }
theorem Try.Builder_Extra_105 : Builder.Extra Try.prog Try.lays105_ren := {
  sizeBuilder := by kernel_rfl
  liesBuilder := by kernel_rfl
  t5 := Try.underlying5
  a5 := Try.isAgg5
  z5 := Try.sizeOf5
  v5 := Try.zeroValue5
  infoByte := by kernel_rfl
  cellsByte := by kernel_rfl
  sizeByte := by kernel_rfl
  neB5 := by decide }
open Go.RowKit Go.Lib in
theorem Try.strings_Repeat (s : ByteArray) (c : Nat) (w : World) (hc : c ≤ 9223372036854775807) (hlen : s.size * c ≤ 140737488355328) :
    Calls Try.prog 48 #[.string s, .int .i64 c] w fun e w' => e = .returned (.string ⟨(Lib.repeatL s.data.toList c).toArray⟩) ∧ Below w.heap.size w w' := Any.strings_Repeat Try.lays105 Try.Builder_Extra_105 s c w hc hlen
end Go.Proofs
namespace Go.Proofs.Ytkbebiebaenbdaa.Ev
open Go.Proofs
theorem joinOk : CtOk Try.prog 87 ctJoin := ctJoin_ok Try.strings_Join_none Try.strings_Join
theorem repeatOk : CtOk Try.prog 48 ctRepeat := ctRepeat_ok Try.strings_Repeat
end Go.Proofs.Ytkbebiebaenbdaa.Ev
namespace Go.Proofs.Ytkbebiebaenbdaa.Ev
open Go.Proofs
theorem lookIdle : DqOk Try.prog 108 3 := by
  intro args w hs
  obtain ⟨l⟩ := args
  match l, hs with
  | [a, b, c], _ =>
    refine callsD_of_wpS Try.func108 rfl fun c₀ cs hu => ?_
    apply wpS_seq
    apply wpS_region
    simp [wpOpsS, go_sem, recoverD, hu, Try.ntmps108, Exit.thenS]
    refine wpS_of_wp ?_
    go_wp2
    cases c₀
    simp_all [bodyPostS, results, Try.results108]
end Go.Proofs.Ytkbebiebaenbdaa.Ev
namespace Go.Proofs.Ytkbebiebaenbdaa.Ev
open Go.Proofs
noncomputable def ft0 : Tr FI := .nil
theorem ft0Ok : FTok Try.prog ft0 := FTok.nil _
noncomputable def ft1 : Tr FI := ft0.put 2 (some (ofFunc Try.f2))
theorem ft1Ok : FTok Try.prog ft1 := ft0Ok.add (by kernel_rfl) Try.func2 (by kernel_rfl) (by kernel_rfl)
noncomputable def ft2 : Tr FI := ft1.put 3 (some (ofFunc Try.f3))
theorem ft2Ok : FTok Try.prog ft2 := ft1Ok.add (by kernel_rfl) Try.func3 (by kernel_rfl) (by kernel_rfl)
noncomputable def ft3 : Tr FI := ft2.put 4 (some (ofFunc Try.f4))
theorem ft3Ok : FTok Try.prog ft3 := ft2Ok.add (by kernel_rfl) Try.func4 (by kernel_rfl) (by kernel_rfl)
noncomputable def ft4 : Tr FI := ft3.put 5 (some (ofFunc Try.f5))
theorem ft4Ok : FTok Try.prog ft4 := ft3Ok.add (by kernel_rfl) Try.func5 (by kernel_rfl) (by kernel_rfl)
noncomputable def ft5 : Tr FI := ft4.put 6 (some (ofFunc Try.f6))
theorem ft5Ok : FTok Try.prog ft5 := ft4Ok.add (by kernel_rfl) Try.func6 (by kernel_rfl) (by kernel_rfl)
noncomputable def ft6 : Tr FI := ft5.put 7 (some (ofFunc Try.f7))
theorem ft6Ok : FTok Try.prog ft6 := ft5Ok.add (by kernel_rfl) Try.func7 (by kernel_rfl) (by kernel_rfl)
noncomputable def ft7 : Tr FI := ft6.put 8 (some (ofFunc Try.f8))
theorem ft7Ok : FTok Try.prog ft7 := ft6Ok.add (by kernel_rfl) Try.func8 (by kernel_rfl) (by kernel_rfl)
noncomputable def ft8 : Tr FI := ft7.put 9 (some (ofFunc Try.f9))
theorem ft8Ok : FTok Try.prog ft8 := ft7Ok.add (by kernel_rfl) Try.func9 (by kernel_rfl) (by kernel_rfl)
noncomputable def ft9 : Tr FI := ft8.put 10 (some (ofFunc Try.f10))
theorem ft9Ok : FTok Try.prog ft9 := ft8Ok.add (by kernel_rfl) Try.func10 (by kernel_rfl) (by kernel_rfl)
noncomputable def ft10 : Tr FI := ft9.put 11 (some (ofFunc Try.f11))
theorem ft10Ok : FTok Try.prog ft10 := ft9Ok.add (by kernel_rfl) Try.func11 (by kernel_rfl) (by kernel_rfl)
noncomputable def ft11 : Tr FI := ft10.put 12 (some (ofFunc Try.f12))
theorem ft11Ok : FTok Try.prog ft11 := ft10Ok.add (by kernel_rfl) Try.func12 (by kernel_rfl) (by kernel_rfl)
noncomputable def ft12 : Tr FI := ft11.put 13 (some (ofFunc Try.f13))
theorem ft12Ok : FTok Try.prog ft12 := ft11Ok.add (by kernel_rfl) Try.func13 (by kernel_rfl) (by kernel_rfl)
noncomputable def ft13 : Tr FI := ft12.put 14 (some (ofFunc Try.f14))
theorem ft13Ok : FTok Try.prog ft13 := ft12Ok.add (by kernel_rfl) Try.func14 (by kernel_rfl) (by kernel_rfl)
noncomputable def ft14 : Tr FI := ft13.put 15 (some (ofFunc Try.f15))
theorem ft14Ok : FTok Try.prog ft14 := ft13Ok.add (by kernel_rfl) Try.func15 (by kernel_rfl) (by kernel_rfl)
noncomputable def ft15 : Tr FI := ft14.put 16 (some (ofFunc Try.f16))
theorem ft15Ok : FTok Try.prog ft15 := ft14Ok.add (by kernel_rfl) Try.func16 (by kernel_rfl) (by kernel_rfl)
noncomputable def ft16 : Tr FI := ft15.put 17 (some (ofFunc Try.f17))
theorem ft16Ok : FTok Try.prog ft16 := ft15Ok.add (by kernel_rfl) Try.func17 (by kernel_rfl) (by kernel_rfl)
noncomputable def ft17 : Tr FI := ft16.put 18 (some (ofFunc Try.f18))
theorem ft17Ok : FTok Try.prog ft17 := ft16Ok.add (by kernel_rfl) Try.func18 (by kernel_rfl) (by kernel_rfl)
noncomputable def ft18 : Tr FI := ft17.put 19 (some (ofFunc Try.f19))
theorem ft18Ok : FTok Try.prog ft18 := ft17Ok.add (by kernel_rfl) Try.func19 (by kernel_rfl) (by kernel_rfl)
noncomputable def ft19 : Tr FI := ft18.put 20 (some (ofFunc Try.f20))
theorem ft19Ok : FTok Try.prog ft19 := ft18Ok.add (by kernel_rfl) Try.func20 (by kernel_rfl) (by kernel_rfl)
noncomputable def ft20 : Tr FI := ft19.put 21 (some (ofFunc Try.f21))
theorem ft20Ok : FTok Try.prog ft20 := ft19Ok.add (by kernel_rfl) Try.func21 (by kernel_rfl) (by kernel_rfl)
noncomputable def ft21 : Tr FI := ft20.put 22 (some (ofFunc Try.f22))
theorem ft21Ok : FTok Try.prog ft21 := ft20Ok.add (by kernel_rfl) Try.func22 (by kernel_rfl) (by kernel_rfl)
noncomputable def ft22 : Tr FI := ft21.put 23 (some (ofFunc Try.f23))
theorem ft22Ok : FTok Try.prog ft22 := ft21Ok.add (by kernel_rfl) Try.func23 (by kernel_rfl) (by kernel_rfl)
noncomputable def ft23 : Tr FI := ft22.put 24 (some (ofFunc Try.f24))
theorem ft23Ok : FTok Try.prog ft23 := ft22Ok.add (by kernel_rfl) Try.func24 (by kernel_rfl) (by kernel_rfl)
noncomputable def ft24 : Tr FI := ft23.put 25 (some (ofFunc Try.f25))
theorem ft24Ok : FTok Try.prog ft24 := ft23Ok.add (by kernel_rfl) Try.func25 (by kernel_rfl) (by kernel_rfl)
noncomputable def ft25 : Tr FI := ft24.put 26 (some (ofFunc Try.f26))
theorem ft25Ok : FTok Try.prog ft25 := ft24Ok.add (by kernel_rfl) Try.func26 (by kernel_rfl) (by kernel_rfl)
noncomputable def ft26 : Tr FI := ft25.put 27 (some (ofFunc Try.f27))
theorem ft26Ok : FTok Try.prog ft26 := ft25Ok.add (by kernel_rfl) Try.func27 (by kernel_rfl) (by kernel_rfl)
noncomputable def ft27 : Tr FI := ft26.put 28 (some (ofFunc Try.f28))
theorem ft27Ok : FTok Try.prog ft27 := ft26Ok.add (by kernel_rfl) Try.func28 (by kernel_rfl) (by kernel_rfl)
noncomputable def ft28 : Tr FI := ft27.put 29 (some (ofFunc Try.f29))
theorem ft28Ok : FTok Try.prog ft28 := ft27Ok.add (by kernel_rfl) Try.func29 (by kernel_rfl) (by kernel_rfl)
noncomputable def ft29 : Tr FI := ft28.put 30 (some (ofFunc Try.f30))
theorem ft29Ok : FTok Try.prog ft29 := ft28Ok.add (by kernel_rfl) Try.func30 (by kernel_rfl) (by kernel_rfl)
noncomputable def ft30 : Tr FI := ft29.put 31 (some (ofFunc Try.f31))
theorem ft30Ok : FTok Try.prog ft30 := ft29Ok.add (by kernel_rfl) Try.func31 (by kernel_rfl) (by kernel_rfl)
noncomputable def ft31 : Tr FI := ft30.put 32 (some (ofFunc Try.f32))
theorem ft31Ok : FTok Try.prog ft31 := ft30Ok.add (by kernel_rfl) Try.func32 (by kernel_rfl) (by kernel_rfl)
noncomputable def ft32 : Tr FI := ft31.put 33 (some (ofFunc Try.f33))
theorem ft32Ok : FTok Try.prog ft32 := ft31Ok.add (by kernel_rfl) Try.func33 (by kernel_rfl) (by kernel_rfl)
noncomputable def ft33 : Tr FI := ft32.put 34 (some (ofFunc Try.f34))
theorem ft33Ok : FTok Try.prog ft33 := ft32Ok.add (by kernel_rfl) Try.func34 (by kernel_rfl) (by kernel_rfl)
noncomputable def ft34 : Tr FI := ft33.put 35 (some (ofFunc Try.f35))
theorem ft34Ok : FTok Try.prog ft34 := ft33Ok.add (by kernel_rfl) Try.func35 (by kernel_rfl) (by kernel_rfl)
noncomputable def ft35 : Tr FI := ft34.put 36 (some (ofFunc Try.f36))
theorem ft35Ok : FTok Try.prog ft35 := ft34Ok.add (by kernel_rfl) Try.func36 (by kernel_rfl) (by kernel_rfl)
noncomputable def ft36 : Tr FI := ft35.put 37 (some (ofFunc Try.f37))
theorem ft36Ok : FTok Try.prog ft36 := ft35Ok.add (by kernel_rfl) Try.func37 (by kernel_rfl) (by kernel_rfl)
noncomputable def ft37 : Tr FI := ft36.put 38 (some (ofFunc Try.f38))
theorem ft37Ok : FTok Try.prog ft37 := ft36Ok.add (by kernel_rfl) Try.func38 (by kernel_rfl) (by kernel_rfl)
noncomputable def ft38 : Tr FI := ft37.put 39 (some (ofFunc Try.f39))
theorem ft38Ok : FTok Try.prog ft38 := ft37Ok.add (by kernel_rfl) Try.func39 (by kernel_rfl) (by kernel_rfl)
noncomputable def ft39 : Tr FI := ft38.put 40 (some (ofFunc Try.f40))
theorem ft39Ok : FTok Try.prog ft39 := ft38Ok.add (by kernel_rfl) Try.func40 (by kernel_rfl) (by kernel_rfl)
noncomputable def ft40 : Tr FI := ft39.put 41 (some (ofFunc Try.f41))
theorem ft40Ok : FTok Try.prog ft40 := ft39Ok.add (by kernel_rfl) Try.func41 (by kernel_rfl) (by kernel_rfl)
noncomputable def ft41 : Tr FI := ft40.put 42 (some (ofFunc Try.f42))
theorem ft41Ok : FTok Try.prog ft41 := ft40Ok.add (by kernel_rfl) Try.func42 (by kernel_rfl) (by kernel_rfl)
noncomputable def ft42 : Tr FI := ft41.put 43 (some (ofFunc Try.f43))
theorem ft42Ok : FTok Try.prog ft42 := ft41Ok.add (by kernel_rfl) Try.func43 (by kernel_rfl) (by kernel_rfl)
noncomputable def ft43 : Tr FI := ft42.put 44 (some (ofFunc Try.f44))
theorem ft43Ok : FTok Try.prog ft43 := ft42Ok.add (by kernel_rfl) Try.func44 (by kernel_rfl) (by kernel_rfl)
noncomputable def ft44 : Tr FI := ft43.put 45 (some (ofFunc Try.f45))
theorem ft44Ok : FTok Try.prog ft44 := ft43Ok.add (by kernel_rfl) Try.func45 (by kernel_rfl) (by kernel_rfl)
noncomputable def ft45 : Tr FI := ft44.put 46 (some (ofFunc Try.f46))
theorem ft45Ok : FTok Try.prog ft45 := ft44Ok.add (by kernel_rfl) Try.func46 (by kernel_rfl) (by kernel_rfl)
noncomputable def ft46 : Tr FI := ft45.put 47 (some (ofFunc Try.f47))
theorem ft46Ok : FTok Try.prog ft46 := ft45Ok.add (by kernel_rfl) Try.func47 (by kernel_rfl) (by kernel_rfl)
noncomputable def ft47 : Tr FI := ft46.put 48 (some (ofFuncC Try.f48 ctRepeat))
theorem ft47Ok : FTok Try.prog ft47 := ft46Ok.addC (by kernel_rfl) Try.func48 (by kernel_rfl) (by kernel_rfl) repeatOk
noncomputable def ft48 : Tr FI := ft47.put 49 (some (ofFunc Try.f49))
theorem ft48Ok : FTok Try.prog ft48 := ft47Ok.add (by kernel_rfl) Try.func49 (by kernel_rfl) (by kernel_rfl)
noncomputable def ft49 : Tr FI := ft48.put 50 (some (ofFunc Try.f50))
theorem ft49Ok : FTok Try.prog ft49 := ft48Ok.add (by kernel_rfl) Try.func50 (by kernel_rfl) (by kernel_rfl)
noncomputable def ft50 : Tr FI := ft49.put 51 (some (ofFunc Try.f51))
theorem ft50Ok : FTok Try.prog ft50 := ft49Ok.add (by kernel_rfl) Try.func51 (by kernel_rfl) (by kernel_rfl)
noncomputable def ft51 : Tr FI := ft50.put 52 (some (ofFunc Try.f52))
theorem ft51Ok : FTok Try.prog ft51 := ft50Ok.add (by kernel_rfl) Try.func52 (by kernel_rfl) (by kernel_rfl)
noncomputable def ft52 : Tr FI := ft51.put 53 (some (ofFunc Try.f53))
theorem ft52Ok : FTok Try.prog ft52 := ft51Ok.add (by kernel_rfl) Try.func53 (by kernel_rfl) (by kernel_rfl)
noncomputable def ft53 : Tr FI := ft52.put 54 (some (ofFunc Try.f54))
theorem ft53Ok : FTok Try.prog ft53 := ft52Ok.add (by kernel_rfl) Try.func54 (by kernel_rfl) (by kernel_rfl)
noncomputable def ft54 : Tr FI := ft53.put 55 (some (ofFunc Try.f55))
theorem ft54Ok : FTok Try.prog ft54 := ft53Ok.add (by kernel_rfl) Try.func55 (by kernel_rfl) (by kernel_rfl)
noncomputable def ft55 : Tr FI := ft54.put 56 (some (ofFunc Try.f56))
theorem ft55Ok : FTok Try.prog ft55 := ft54Ok.add (by kernel_rfl) Try.func56 (by kernel_rfl) (by kernel_rfl)
noncomputable def ft56 : Tr FI := ft55.put 57 (some (ofFunc Try.f57))
theorem ft56Ok : FTok Try.prog ft56 := ft55Ok.add (by kernel_rfl) Try.func57 (by kernel_rfl) (by kernel_rfl)
noncomputable def ft57 : Tr FI := ft56.put 58 (some (ofFunc Try.f58))
theorem ft57Ok : FTok Try.prog ft57 := ft56Ok.add (by kernel_rfl) Try.func58 (by kernel_rfl) (by kernel_rfl)
noncomputable def ft58 : Tr FI := ft57.put 59 (some (ofFunc Try.f59))
theorem ft58Ok : FTok Try.prog ft58 := ft57Ok.add (by kernel_rfl) Try.func59 (by kernel_rfl) (by kernel_rfl)
noncomputable def ft59 : Tr FI := ft58.put 60 (some (ofFunc Try.f60))
theorem ft59Ok : FTok Try.prog ft59 := ft58Ok.add (by kernel_rfl) Try.func60 (by kernel_rfl) (by kernel_rfl)
noncomputable def ft60 : Tr FI := ft59.put 61 (some (ofFunc Try.f61))
theorem ft60Ok : FTok Try.prog ft60 := ft59Ok.add (by kernel_rfl) Try.func61 (by kernel_rfl) (by kernel_rfl)
noncomputable def ft61 : Tr FI := ft60.put 62 (some (ofFunc Try.f62))
theorem ft61Ok : FTok Try.prog ft61 := ft60Ok.add (by kernel_rfl) Try.func62 (by kernel_rfl) (by kernel_rfl)
noncomputable def ft62 : Tr FI := ft61.put 63 (some (ofFunc Try.f63))
theorem ft62Ok : FTok Try.prog ft62 := ft61Ok.add (by kernel_rfl) Try.func63 (by kernel_rfl) (by kernel_rfl)
noncomputable def ft63 : Tr FI := ft62.put 64 (some (ofFunc Try.f64))
theorem ft63Ok : FTok Try.prog ft63 := ft62Ok.add (by kernel_rfl) Try.func64 (by kernel_rfl) (by kernel_rfl)
noncomputable def ft64 : Tr FI := ft63.put 65 (some (ofFunc Try.f65))
theorem ft64Ok : FTok Try.prog ft64 := ft63Ok.add (by kernel_rfl) Try.func65 (by kernel_rfl) (by kernel_rfl)
noncomputable def ft65 : Tr FI := ft64.put 66 (some (ofFunc Try.f66))
theorem ft65Ok : FTok Try.prog ft65 := ft64Ok.add (by kernel_rfl) Try.func66 (by kernel_rfl) (by kernel_rfl)
noncomputable def ft66 : Tr FI := ft65.put 67 (some (ofFunc Try.f67))
theorem ft66Ok : FTok Try.prog ft66 := ft65Ok.add (by kernel_rfl) Try.func67 (by kernel_rfl) (by kernel_rfl)
noncomputable def ft67 : Tr FI := ft66.put 68 (some (ofFunc Try.f68))
theorem ft67Ok : FTok Try.prog ft67 := ft66Ok.add (by kernel_rfl) Try.func68 (by kernel_rfl) (by kernel_rfl)
noncomputable def ft68 : Tr FI := ft67.put 69 (some (ofFunc Try.f69))
theorem ft68Ok : FTok Try.prog ft68 := ft67Ok.add (by kernel_rfl) Try.func69 (by kernel_rfl) (by kernel_rfl)
noncomputable def ft69 : Tr FI := ft68.put 70 (some (ofFunc Try.f70))
theorem ft69Ok : FTok Try.prog ft69 := ft68Ok.add (by kernel_rfl) Try.func70 (by kernel_rfl) (by kernel_rfl)
noncomputable def ft70 : Tr FI := ft69.put 71 (some (ofFunc Try.f71))
theorem ft70Ok : FTok Try.prog ft70 := ft69Ok.add (by kernel_rfl) Try.func71 (by kernel_rfl) (by kernel_rfl)
noncomputable def ft71 : Tr FI := ft70.put 72 (some (ofFunc Try.f72))
theorem ft71Ok : FTok Try.prog ft71 := ft70Ok.add (by kernel_rfl) Try.func72 (by kernel_rfl) (by kernel_rfl)
noncomputable def ft72 : Tr FI := ft71.put 73 (some (ofFunc Try.f73))
theorem ft72Ok : FTok Try.prog ft72 := ft71Ok.add (by kernel_rfl) Try.func73 (by kernel_rfl) (by kernel_rfl)
noncomputable def ft73 : Tr FI := ft72.put 74 (some (ofFunc Try.f74))
theorem ft73Ok : FTok Try.prog ft73 := ft72Ok.add (by kernel_rfl) Try.func74 (by kernel_rfl) (by kernel_rfl)
noncomputable def ft74 : Tr FI := ft73.put 75 (some (ofFunc Try.f75))
theorem ft74Ok : FTok Try.prog ft74 := ft73Ok.add (by kernel_rfl) Try.func75 (by kernel_rfl) (by kernel_rfl)
noncomputable def ft75 : Tr FI := ft74.put 76 (some (ofFunc Try.f76))
theorem ft75Ok : FTok Try.prog ft75 := ft74Ok.add (by kernel_rfl) Try.func76 (by kernel_rfl) (by kernel_rfl)
noncomputable def ft76 : Tr FI := ft75.put 77 (some (ofFunc Try.f77))
theorem ft76Ok : FTok Try.prog ft76 := ft75Ok.add (by kernel_rfl) Try.func77 (by kernel_rfl) (by kernel_rfl)
noncomputable def ft77 : Tr FI := ft76.put 78 (some (ofFunc Try.f78))
theorem ft77Ok : FTok Try.prog ft77 := ft76Ok.add (by kernel_rfl) Try.func78 (by kernel_rfl) (by kernel_rfl)
noncomputable def ft78 : Tr FI := ft77.put 79 (some (ofFunc Try.f79))
theorem ft78Ok : FTok Try.prog ft78 := ft77Ok.add (by kernel_rfl) Try.func79 (by kernel_rfl) (by kernel_rfl)
noncomputable def ft79 : Tr FI := ft78.put 80 (some (ofFunc Try.f80))
theorem ft79Ok : FTok Try.prog ft79 := ft78Ok.add (by kernel_rfl) Try.func80 (by kernel_rfl) (by kernel_rfl)
noncomputable def ft80 : Tr FI := ft79.put 81 (some (ofFunc Try.f81))
theorem ft80Ok : FTok Try.prog ft80 := ft79Ok.add (by kernel_rfl) Try.func81 (by kernel_rfl) (by kernel_rfl)
noncomputable def ft81 : Tr FI := ft80.put 82 (some (ofFunc Try.f82))
theorem ft81Ok : FTok Try.prog ft81 := ft80Ok.add (by kernel_rfl) Try.func82 (by kernel_rfl) (by kernel_rfl)
noncomputable def ft82 : Tr FI := ft81.put 83 (some (ofFunc Try.f83))
theorem ft82Ok : FTok Try.prog ft82 := ft81Ok.add (by kernel_rfl) Try.func83 (by kernel_rfl) (by kernel_rfl)
noncomputable def ft83 : Tr FI := ft82.put 84 (some (ofFunc Try.f84))
theorem ft83Ok : FTok Try.prog ft83 := ft82Ok.add (by kernel_rfl) Try.func84 (by kernel_rfl) (by kernel_rfl)
noncomputable def ft84 : Tr FI := ft83.put 85 (some (ofFunc Try.f85))
theorem ft84Ok : FTok Try.prog ft84 := ft83Ok.add (by kernel_rfl) Try.func85 (by kernel_rfl) (by kernel_rfl)
noncomputable def ft85 : Tr FI := ft84.put 86 (some (ofFunc Try.f86))
theorem ft85Ok : FTok Try.prog ft85 := ft84Ok.add (by kernel_rfl) Try.func86 (by kernel_rfl) (by kernel_rfl)
noncomputable def ft86 : Tr FI := ft85.put 87 (some (ofFuncC Try.f87 ctJoin))
theorem ft86Ok : FTok Try.prog ft86 := ft85Ok.addC (by kernel_rfl) Try.func87 (by kernel_rfl) (by kernel_rfl) joinOk
noncomputable def ft87 : Tr FI := ft86.put 88 (some (ofFunc Try.f88))
theorem ft87Ok : FTok Try.prog ft87 := ft86Ok.add (by kernel_rfl) Try.func88 (by kernel_rfl) (by kernel_rfl)
noncomputable def ft88 : Tr FI := ft87.put 89 (some (ofFunc Try.f89))
theorem ft88Ok : FTok Try.prog ft88 := ft87Ok.add (by kernel_rfl) Try.func89 (by kernel_rfl) (by kernel_rfl)
noncomputable def ft89 : Tr FI := ft88.put 90 (some (ofFunc Try.f90))
theorem ft89Ok : FTok Try.prog ft89 := ft88Ok.add (by kernel_rfl) Try.func90 (by kernel_rfl) (by kernel_rfl)
noncomputable def ft90 : Tr FI := ft89.put 91 (some (ofFunc Try.f91))
theorem ft90Ok : FTok Try.prog ft90 := ft89Ok.add (by kernel_rfl) Try.func91 (by kernel_rfl) (by kernel_rfl)
noncomputable def ft91 : Tr FI := ft90.put 92 (some (ofFunc Try.f92))
theorem ft91Ok : FTok Try.prog ft91 := ft90Ok.add (by kernel_rfl) Try.func92 (by kernel_rfl) (by kernel_rfl)
noncomputable def ft92 : Tr FI := ft91.put 93 (some (ofFunc Try.f93))
theorem ft92Ok : FTok Try.prog ft92 := ft91Ok.add (by kernel_rfl) Try.func93 (by kernel_rfl) (by kernel_rfl)
noncomputable def ft93 : Tr FI := ft92.put 94 (some (ofFunc Try.f94))
theorem ft93Ok : FTok Try.prog ft93 := ft92Ok.add (by kernel_rfl) Try.func94 (by kernel_rfl) (by kernel_rfl)
noncomputable def ft94 : Tr FI := ft93.put 95 (some (ofFunc Try.f95))
theorem ft94Ok : FTok Try.prog ft94 := ft93Ok.add (by kernel_rfl) Try.func95 (by kernel_rfl) (by kernel_rfl)
noncomputable def ft95 : Tr FI := ft94.put 96 (some (ofFunc Try.f96))
theorem ft95Ok : FTok Try.prog ft95 := ft94Ok.add (by kernel_rfl) Try.func96 (by kernel_rfl) (by kernel_rfl)
noncomputable def ft96 : Tr FI := ft95.put 97 (some (ofFunc Try.f97))
theorem ft96Ok : FTok Try.prog ft96 := ft95Ok.add (by kernel_rfl) Try.func97 (by kernel_rfl) (by kernel_rfl)
noncomputable def ft97 : Tr FI := ft96.put 98 (some (ofFunc Try.f98))
theorem ft97Ok : FTok Try.prog ft97 := ft96Ok.add (by kernel_rfl) Try.func98 (by kernel_rfl) (by kernel_rfl)
noncomputable def ft98 : Tr FI := ft97.put 99 (some (ofFunc Try.f99))
theorem ft98Ok : FTok Try.prog ft98 := ft97Ok.add (by kernel_rfl) Try.func99 (by kernel_rfl) (by kernel_rfl)
noncomputable def ft99 : Tr FI := ft98.put 100 (some (ofFunc Try.f100))
theorem ft99Ok : FTok Try.prog ft99 := ft98Ok.add (by kernel_rfl) Try.func100 (by kernel_rfl) (by kernel_rfl)
noncomputable def ft100 : Tr FI := ft99.put 101 (some (ofFunc Try.f101))
theorem ft100Ok : FTok Try.prog ft100 := ft99Ok.add (by kernel_rfl) Try.func101 (by kernel_rfl) (by kernel_rfl)
noncomputable def ft101 : Tr FI := ft100.put 102 (some (ofFunc Try.f102))
theorem ft101Ok : FTok Try.prog ft101 := ft100Ok.add (by kernel_rfl) Try.func102 (by kernel_rfl) (by kernel_rfl)
noncomputable def ft102 : Tr FI := ft101.put 103 (some (ofFunc Try.f103))
theorem ft102Ok : FTok Try.prog ft102 := ft101Ok.add (by kernel_rfl) Try.func103 (by kernel_rfl) (by kernel_rfl)
noncomputable def ft103 : Tr FI := ft102.put 104 (some (ofFunc Try.f104))
theorem ft103Ok : FTok Try.prog ft103 := ft102Ok.add (by kernel_rfl) Try.func104 (by kernel_rfl) (by kernel_rfl)
noncomputable def ft104 : Tr FI := ft103.put 105 (some (ofFunc Try.f105))
theorem ft104Ok : FTok Try.prog ft104 := ft103Ok.add (by kernel_rfl) Try.func105 (by kernel_rfl) (by kernel_rfl)
noncomputable def ft105 : Tr FI := ft104.put 106 (some (ofFunc Try.f106))
theorem ft105Ok : FTok Try.prog ft105 := ft104Ok.add (by kernel_rfl) Try.func106 (by kernel_rfl) (by kernel_rfl)
noncomputable def ft106 : Tr FI := ft105.put 107 (some (ofFunc Try.f107))
theorem ft106Ok : FTok Try.prog ft106 := ft105Ok.add (by kernel_rfl) Try.func107 (by kernel_rfl) (by kernel_rfl)
noncomputable def ft107 : Tr FI := ft106.put 108 (some (ofFuncD Try.f108 3))
theorem ft107Ok : FTok Try.prog ft107 := ft106Ok.addD (by kernel_rfl) Try.func108 (by kernel_rfl) (by kernel_rfl) lookIdle
noncomputable def ft108 : Tr FI := ft107.put 109 (some (ofFunc Try.f109))
theorem ft108Ok : FTok Try.prog ft108 := ft107Ok.add (by kernel_rfl) Try.func109 (by kernel_rfl) (by kernel_rfl)
noncomputable def ft109 : Tr FI := ft108.put 110 (some (ofFunc Try.f110))
theorem ft109Ok : FTok Try.prog ft109 := ft108Ok.add (by kernel_rfl) Try.func110 (by kernel_rfl) (by kernel_rfl)
noncomputable def ft110 : Tr FI := ft109.put 111 (some (ofFunc Try.f111))
theorem ft110Ok : FTok Try.prog ft110 := ft109Ok.add (by kernel_rfl) Try.func111 (by kernel_rfl) (by kernel_rfl)
noncomputable def ft111 : Tr FI := ft110.put 112 (some (ofFunc Try.f112))
theorem ft111Ok : FTok Try.prog ft111 := ft110Ok.add (by kernel_rfl) Try.func112 (by kernel_rfl) (by kernel_rfl)
noncomputable def ft112 : Tr FI := ft111.put 113 (some (ofFunc Try.f113))
theorem ft112Ok : FTok Try.prog ft112 := ft111Ok.add (by kernel_rfl) Try.func113 (by kernel_rfl) (by kernel_rfl)
noncomputable def ft113 : Tr FI := ft112.put 114 (some (ofFunc Try.f114))
theorem ft113Ok : FTok Try.prog ft113 := ft112Ok.add (by kernel_rfl) Try.func114 (by kernel_rfl) (by kernel_rfl)
noncomputable def ft114 : Tr FI := ft113.put 115 (some (ofFunc Try.f115))
theorem ft114Ok : FTok Try.prog ft114 := ft113Ok.add (by kernel_rfl) Try.func115 (by kernel_rfl) (by kernel_rfl)
noncomputable def ft115 : Tr FI := ft114.put 116 (some (ofFunc Try.f116))
theorem ft115Ok : FTok Try.prog ft115 := ft114Ok.add (by kernel_rfl) Try.func116 (by kernel_rfl) (by kernel_rfl)
noncomputable def ft116 : Tr FI := ft115.put 117 (some (ofFunc Try.f117))
theorem ft116Ok : FTok Try.prog ft116 := ft115Ok.add (by kernel_rfl) Try.func117 (by kernel_rfl) (by kernel_rfl)
noncomputable def ft117 : Tr FI := ft116.put 118 (some (ofFunc Try.f118))
theorem ft117Ok : FTok Try.prog ft117 := ft116Ok.add (by kernel_rfl) Try.func118 (by kernel_rfl) (by kernel_rfl)
noncomputable def ft118 : Tr FI := ft117.put 121 (some (ofFunc Try.f121))
theorem ft118Ok : FTok Try.prog ft118 := ft117Ok.add (by kernel_rfl) Try.func121 (by kernel_rfl) (by kernel_rfl)
noncomputable def ft119 : Tr FI := ft118.put 122 (some (ofFunc Try.f122))
theorem ft119Ok : FTok Try.prog ft119 := ft118Ok.add (by kernel_rfl) Try.func122 (by kernel_rfl) (by kernel_rfl)
noncomputable def ft120 : Tr FI := ft119.put 123 (some (ofFunc Try.f123))
theorem ft120Ok : FTok Try.prog ft120 := ft119Ok.add (by kernel_rfl) Try.func123 (by kernel_rfl) (by kernel_rfl)
noncomputable def ft121 : Tr FI := ft120.put 124 (some (ofFunc Try.f124))
theorem ft121Ok : FTok Try.prog ft121 := ft120Ok.add (by kernel_rfl) Try.func124 (by kernel_rfl) (by kernel_rfl)
noncomputable def ft122 : Tr FI := ft121.put 125 (some (ofFunc Try.f125))
theorem ft122Ok : FTok Try.prog ft122 := ft121Ok.add (by kernel_rfl) Try.func125 (by kernel_rfl) (by kernel_rfl)
noncomputable def ft123 : Tr FI := ft122.put 126 (some (ofFunc Try.f126))
theorem ft123Ok : FTok Try.prog ft123 := ft122Ok.add (by kernel_rfl) Try.func126 (by kernel_rfl) (by kernel_rfl)
noncomputable def ft124 : Tr FI := ft123.put 127 (some (ofFunc Try.f127))
theorem ft124Ok : FTok Try.prog ft124 := ft123Ok.add (by kernel_rfl) Try.func127 (by kernel_rfl) (by kernel_rfl)
noncomputable def ft125 : Tr FI := ft124.put 128 (some (ofFunc Try.f128))
theorem ft125Ok : FTok Try.prog ft125 := ft124Ok.add (by kernel_rfl) Try.func128 (by kernel_rfl) (by kernel_rfl)
noncomputable def ft126 : Tr FI := ft125.put 129 (some (ofFunc Try.f129))
theorem ft126Ok : FTok Try.prog ft126 := ft125Ok.add (by kernel_rfl) Try.func129 (by kernel_rfl) (by kernel_rfl)
noncomputable def ft127 : Tr FI := ft126.put 130 (some (ofFunc Try.f130))
theorem ft127Ok : FTok Try.prog ft127 := ft126Ok.add (by kernel_rfl) Try.func130 (by kernel_rfl) (by kernel_rfl)
noncomputable def ft128 : Tr FI := ft127.put 131 (some (ofFunc Try.f131))
theorem ft128Ok : FTok Try.prog ft128 := ft127Ok.add (by kernel_rfl) Try.func131 (by kernel_rfl) (by kernel_rfl)
noncomputable def ft129 : Tr FI := ft128.put 132 (some (ofFunc Try.f132))
theorem ft129Ok : FTok Try.prog ft129 := ft128Ok.add (by kernel_rfl) Try.func132 (by kernel_rfl) (by kernel_rfl)
noncomputable def ft130 : Tr FI := ft129.put 133 (some (ofFunc Try.f133))
theorem ft130Ok : FTok Try.prog ft130 := ft129Ok.add (by kernel_rfl) Try.func133 (by kernel_rfl) (by kernel_rfl)
noncomputable def ft131 : Tr FI := ft130.put 134 (some (ofFunc Try.f134))
theorem ft131Ok : FTok Try.prog ft131 := ft130Ok.add (by kernel_rfl) Try.func134 (by kernel_rfl) (by kernel_rfl)
noncomputable def ft132 : Tr FI := ft131.put 135 (some (ofFunc Try.f135))
theorem ft132Ok : FTok Try.prog ft132 := ft131Ok.add (by kernel_rfl) Try.func135 (by kernel_rfl) (by kernel_rfl)
noncomputable def ft133 : Tr FI := ft132.put 136 (some (ofFunc Try.f136))
theorem ft133Ok : FTok Try.prog ft133 := ft132Ok.add (by kernel_rfl) Try.func136 (by kernel_rfl) (by kernel_rfl)
noncomputable def ft134 : Tr FI := ft133.put 137 (some (ofFunc Try.f137))
theorem ft134Ok : FTok Try.prog ft134 := ft133Ok.add (by kernel_rfl) Try.func137 (by kernel_rfl) (by kernel_rfl)
noncomputable def ft135 : Tr FI := ft134.put 138 (some (ofFunc Try.f138))
theorem ft135Ok : FTok Try.prog ft135 := ft134Ok.add (by kernel_rfl) Try.func138 (by kernel_rfl) (by kernel_rfl)
noncomputable def ft136 : Tr FI := ft135.put 139 (some (ofFunc Try.f139))
theorem ft136Ok : FTok Try.prog ft136 := ft135Ok.add (by kernel_rfl) Try.func139 (by kernel_rfl) (by kernel_rfl)
noncomputable def ft137 : Tr FI := ft136.put 140 (some (ofFunc Try.f140))
theorem ft137Ok : FTok Try.prog ft137 := ft136Ok.add (by kernel_rfl) Try.func140 (by kernel_rfl) (by kernel_rfl)
noncomputable def ft138 : Tr FI := ft137.put 141 (some (ofFunc Try.f141))
theorem ft138Ok : FTok Try.prog ft138 := ft137Ok.add (by kernel_rfl) Try.func141 (by kernel_rfl) (by kernel_rfl)
noncomputable def ft139 : Tr FI := ft138.put 142 (some (ofFunc Try.f142))
theorem ft139Ok : FTok Try.prog ft139 := ft138Ok.add (by kernel_rfl) Try.func142 (by kernel_rfl) (by kernel_rfl)
noncomputable def ft : Tr FI := (.node none (.node none (.node none (.node none (.node none (.node none (.node none (.node none .nil (.node (some (ofFunc Try.f128)) .nil .nil)) (.node (some (ofFunc Try.f64)) .nil .nil)) (.node (some (ofFunc Try.f32)) .nil (.node (some (ofFunc Try.f96)) .nil .nil))) (.node (some (ofFunc Try.f16)) (.node none .nil (.node (some (ofFunc Try.f80)) .nil .nil)) (.node (some (ofFuncC Try.f48 ctRepeat)) .nil (.node (some (ofFunc Try.f112)) .nil .nil)))) (.node (some (ofFunc Try.f8)) (.node none (.node none (.node none .nil (.node (some (ofFunc Try.f136)) .nil .nil)) (.node (some (ofFunc Try.f72)) .nil .nil)) (.node (some (ofFunc Try.f40)) .nil (.node (some (ofFunc Try.f104)) .nil .nil))) (.node (some (ofFunc Try.f24)) (.node none .nil (.node (some (ofFunc Try.f88)) .nil .nil)) (.node (some (ofFunc Try.f56)) .nil .nil)))) (.node (some (ofFunc Try.f4)) (.node none (.node none (.node none (.node none .nil (.node (some (ofFunc Try.f132)) .nil .nil)) (.node (some (ofFunc Try.f68)) .nil .nil)) (.node (some (ofFunc Try.f36)) .nil (.node (some (ofFunc Try.f100)) .nil .nil))) (.node (some (ofFunc Try.f20)) (.node none .nil (.node (some (ofFunc Try.f84)) .nil .nil)) (.node (some (ofFunc Try.f52)) .nil (.node (some (ofFunc Try.f116)) .nil .nil)))) (.node (some (ofFunc Try.f12)) (.node none (.node none (.node none .nil (.node (some (ofFunc Try.f140)) .nil .nil)) (.node (some (ofFunc Try.f76)) .nil .nil)) (.node (some (ofFunc Try.f44)) .nil (.node (some (ofFuncD Try.f108 3)) .nil .nil))) (.node (some (ofFunc Try.f28)) (.node none .nil (.node (some (ofFunc Try.f92)) .nil .nil)) (.node (some (ofFunc Try.f60)) .nil (.node (some (ofFunc Try.f124)) .nil .nil)))))) (.node (some (ofFunc Try.f2)) (.node none (.node none (.node none (.node none (.node none .nil (.node (some (ofFunc Try.f130)) .nil .nil)) (.node (some (ofFunc Try.f66)) .nil .nil)) (.node (some (ofFunc Try.f34)) .nil (.node (some (ofFunc Try.f98)) .nil .nil))) (.node (some (ofFunc Try.f18)) (.node none .nil (.node (some (ofFunc Try.f82)) .nil .nil)) (.node (some (ofFunc Try.f50)) .nil (.node (some (ofFunc Try.f114)) .nil .nil)))) (.node (some (ofFunc Try.f10)) (.node none (.node none (.node none .nil (.node (some (ofFunc Try.f138)) .nil .nil)) (.node (some (ofFunc Try.f74)) .nil .nil)) (.node (some (ofFunc Try.f42)) .nil (.node (some (ofFunc Try.f106)) .nil .nil))) (.node (some (ofFunc Try.f26)) (.node none .nil (.node (some (ofFunc Try.f90)) .nil .nil)) (.node (some (ofFunc Try.f58)) .nil (.node (some (ofFunc Try.f122)) .nil .nil))))) (.node (some (ofFunc Try.f6)) (.node none (.node none (.node none (.node none .nil (.node (some (ofFunc Try.f134)) .nil .nil)) (.node (some (ofFunc Try.f70)) .nil .nil)) (.node (some (ofFunc Try.f38)) .nil (.node (some (ofFunc Try.f102)) .nil .nil))) (.node (some (ofFunc Try.f22)) (.node none .nil (.node (some (ofFunc Try.f86)) .nil .nil)) (.node (some (ofFunc Try.f54)) .nil (.node (some (ofFunc Try.f118)) .nil .nil)))) (.node (some (ofFunc Try.f14)) (.node none (.node none (.node none .nil (.node (some (ofFunc Try.f142)) .nil .nil)) (.node (some (ofFunc Try.f78)) .nil .nil)) (.node (some (ofFunc Try.f46)) .nil (.node (some (ofFunc Try.f110)) .nil .nil))) (.node (some (ofFunc Try.f30)) (.node none .nil (.node (some (ofFunc Try.f94)) .nil .nil)) (.node (some (ofFunc Try.f62)) .nil (.node (some (ofFunc Try.f126)) .nil .nil))))))) (.node none (.node none (.node none (.node none (.node none (.node none (.node none .nil (.node (some (ofFunc Try.f129)) .nil .nil)) (.node (some (ofFunc Try.f65)) .nil .nil)) (.node (some (ofFunc Try.f33)) .nil (.node (some (ofFunc Try.f97)) .nil .nil))) (.node (some (ofFunc Try.f17)) (.node none .nil (.node (some (ofFunc Try.f81)) .nil .nil)) (.node (some (ofFunc Try.f49)) .nil (.node (some (ofFunc Try.f113)) .nil .nil)))) (.node (some (ofFunc Try.f9)) (.node none (.node none (.node none .nil (.node (some (ofFunc Try.f137)) .nil .nil)) (.node (some (ofFunc Try.f73)) .nil .nil)) (.node (some (ofFunc Try.f41)) .nil (.node (some (ofFunc Try.f105)) .nil .nil))) (.node (some (ofFunc Try.f25)) (.node none .nil (.node (some (ofFunc Try.f89)) .nil .nil)) (.node (some (ofFunc Try.f57)) .nil (.node (some (ofFunc Try.f121)) .nil .nil))))) (.node (some (ofFunc Try.f5)) (.node none (.node none (.node none (.node none .nil (.node (some (ofFunc Try.f133)) .nil .nil)) (.node (some (ofFunc Try.f69)) .nil .nil)) (.node (some (ofFunc Try.f37)) .nil (.node (some (ofFunc Try.f101)) .nil .nil))) (.node (some (ofFunc Try.f21)) (.node none .nil (.node (some (ofFunc Try.f85)) .nil .nil)) (.node (some (ofFunc Try.f53)) .nil (.node (some (ofFunc Try.f117)) .nil .nil)))) (.node (some (ofFunc Try.f13)) (.node none (.node none (.node none .nil (.node (some (ofFunc Try.f141)) .nil .nil)) (.node (some (ofFunc Try.f77)) .nil .nil)) (.node (some (ofFunc Try.f45)) .nil (.node (some (ofFunc Try.f109)) .nil .nil))) (.node (some (ofFunc Try.f29)) (.node none .nil (.node (some (ofFunc Try.f93)) .nil .nil)) (.node (some (ofFunc Try.f61)) .nil (.node (some (ofFunc Try.f125)) .nil .nil)))))) (.node (some (ofFunc Try.f3)) (.node none (.node none (.node none (.node none (.node none .nil (.node (some (ofFunc Try.f131)) .nil .nil)) (.node (some (ofFunc Try.f67)) .nil .nil)) (.node (some (ofFunc Try.f35)) .nil (.node (some (ofFunc Try.f99)) .nil .nil))) (.node (some (ofFunc Try.f19)) (.node none .nil (.node (some (ofFunc Try.f83)) .nil .nil)) (.node (some (ofFunc Try.f51)) .nil (.node (some (ofFunc Try.f115)) .nil .nil)))) (.node (some (ofFunc Try.f11)) (.node none (.node none (.node none .nil (.node (some (ofFunc Try.f139)) .nil .nil)) (.node (some (ofFunc Try.f75)) .nil .nil)) (.node (some (ofFunc Try.f43)) .nil (.node (some (ofFunc Try.f107)) .nil .nil))) (.node (some (ofFunc Try.f27)) (.node none .nil (.node (some (ofFunc Try.f91)) .nil .nil)) (.node (some (ofFunc Try.f59)) .nil (.node (some (ofFunc Try.f123)) .nil .nil))))) (.node (some (ofFunc Try.f7)) (.node none (.node none (.node none (.node none .nil (.node (some (ofFunc Try.f135)) .nil .nil)) (.node (some (ofFunc Try.f71)) .nil .nil)) (.node (some (ofFunc Try.f39)) .nil (.node (some (ofFunc Try.f103)) .nil .nil))) (.node (some (ofFunc Try.f23)) (.node none .nil (.node (some (ofFuncC Try.f87 ctJoin)) .nil .nil)) (.node (some (ofFunc Try.f55)) .nil .nil))) (.node (some (ofFunc Try.f15)) (.node none (.node none .nil (.node (some (ofFunc Try.f79)) .nil .nil)) (.node (some (ofFunc Try.f47)) .nil (.node (some (ofFunc Try.f111)) .nil .nil))) (.node (some (ofFunc Try.f31)) (.node none .nil (.node (some (ofFunc Try.f95)) .nil .nil)) (.node (some (ofFunc Try.f63)) .nil (.node (some (ofFunc Try.f127)) .nil .nil))))))))
theorem ftOk : FTok Try.prog ft := (show ft139 = ft by kernel_rfl) ▸ ft139Ok
end Go.Proofs.Ytkbebiebaenbdaa.Ev
namespace Go.Proofs.Ytkbebiebaenbdaa.Ev
open Go.Proofs
noncomputable def dr4 := drD Try.prog ft 16 4
noncomputable def sub4 : Sub := exSub (fun f => exStep Try.prog ft f (drD Try.prog ft 16 3)) ft 16
theorem mix : Try.prog.follows .mixedOrders = true := by kernel_rfl
theorem dr4Ok : DrOk Try.prog dr4 := drD_ok mix ftOk 16 4
theorem sub4Ok : LoudOk Try.prog sub4 := loudOk ftOk (fun fid cs w0 γ s m hM => exStep_ok ftOk (drD_ok mix ftOk 16 3) hM) 16
theorem bc_t {α : Type} (x y : α) : bc true x y = x := rfl
theorem bc_f {α : Type} (x y : α) : bc false x y = y := rfl
theorem nn_ok (b : Bool) : bc b true (bc b false true) = true := by cases b <;> rfl
theorem dt {p : Prop} [Decidable p] (h : p) : decide p = true := decide_eq_true h
theorem df {p : Prop} [Decidable p] (h : ¬ p) : decide p = false := decide_eq_false h
theorem bltD {a b : Nat} (h : a < b) : Nat.blt a b = true := by unfold Nat.blt; exact Nat.ble_eq_true_of_le h
theorem bltN {a b : Nat} (h : ¬ a < b) : Nat.blt a b = false := by
  cases e : Nat.blt a b with
  | false => rfl
  | true => exact absurd (blt_lt e) h
theorem ble_of {a b : Nat} (h : a ≤ b) : Nat.ble a b = true := Nat.ble_eq_true_of_le h
theorem bleN {a b : Nat} (h : ¬ a ≤ b) : Nat.ble a b = false := by
  cases e : Nat.ble a b with
  | false => rfl
  | true => exact absurd (Nat.le_of_ble_eq_true e) h
theorem beqD {a b : Nat} (h : a = b) : Nat.beq a b = true := by subst h; exact Nat.beq_refl a
theorem ofn (n : Nat) : Int.ofNat n = (n : Int) := rfl
theorem to_nat (i : Nat) : Int.toNat (i : Int) = i := Int.toNat_natCast i
theorem wrap_in (x : Int) (h1 : -4611686018427387904 ≤ x) (h2 : x < 4611686018427387904) : IntKind.i64.wrap x = x := IntWalk.i64_in _ (by omega)
theorem getD_at {α : Type} {l : List α} {d : α} {i : Nat} (h : i < l.length) : l.getD i d = l[i] := by rw [List.getD_eq_getElem?_getD, List.getElem?_eq_getElem h]; rfl
/-- the frame that a call enters -/
noncomputable def ent (f : FuncId) (args : List EV) : EF := Option.rec ⟨f, 0, .nil, [], [], none, false⟩ (fun e => e) (exEnter ft f args)
noncomputable def st0 (f : FuncId) (args : List EV) : ES := ⟨ent f args, [], .nil, 0⟩
/-- an open int -/
noncomputable abbrev iv (n : Int) : EV := .v (.int .i64 n)
noncomputable abbrev bv (b : Bool) : EV := .v (.bool b)
noncomputable abbrev sv (s : ByteArray) : EV := .v (.string s)
noncomputable abbrev il (l : List Int) : EV := .lst (.ints .i64 l)
/-- a run from s, in function f, to one of the places; loops' slots; whether sequences are handed out -/
noncomputable def RZs (f : FuncId) (ct : Tr ZCC) (ps : PLs) (lk : List Nat) (own : Bool) (s : ES) : ZF := runZ (stepZ Try.prog ft f dr4 sub4 ct) (atPs ps) (endP lk ps own) 600 s
/-- .. to the places p, where of each frame some slots are kept -/
noncomputable abbrev RZ (f : FuncId) (ct : Tr ZCC) (p : ES → Bool) (lk : List Nat) (ls : List SZ) (own : Bool) (s : ES) : ZF := RZs f ct [(p, ls)] lk own s
theorem leadsZ {f : FuncId} {ct : Tr ZCC} (hct : ZCtsOk Try.prog ct) {ps : PLs} {lk : List Nat} {own : Bool} {s : ES} {r : NS} (h : RZs f ct ps lk own s = .at r) : LeadsZ Try.prog s (stOf r) :=
  leadsF (f := f) mix ftOk dr4Ok sub4Ok hct endP_ok h
theorem callsZ {γ : G} {w : World} {f : FuncId} {ct : Tr ZCC} (hct : ZCtsOk Try.prog ct) {ps : PLs} {lk : List Nat} {own : Bool} {s : ES} {args : List EV} {us : Array Value} {a : EV} {K : List (Nat × EK)} {n' : Nat} (he : (exEnter ft f args).isSome = true) (hargs : ECL γ args us.toList) (hN : ∀ i, γ i = none) (hfz : FzAt γ w)
    (hl : LeadsZ Try.prog (st0 f args) s) (hd : RZs f ct ps lk own s = .done a K n') :
    Calls Try.prog f us w fun e w' => ∃ γ' x, e = .returned x ∧ EC γ' a x ∧ HR γ' (Bs.ofG w γ) (mkT K) n' w' := by
  obtain ⟨e, he⟩ := Option.isSome_iff_exists.1 he
  have : ent f args = e := by unfold ent; rw [he]
  unfold st0 at hl
  rw [this] at hl
  exact callsF mix ftOk dr4Ok sub4Ok hct endP_ok he hargs hN hfz hl hd
/-- what a says, a' says too -/
def Weak (a a' : EV) : Prop := ∀ γ x, EC γ a x → EC γ a' x
theorem Weak.refl (a : EV) : Weak a a := fun _ _ h => h
theorem Weak.nil (sh : List Sh) : Weak (.v (.slice none 0 0)) (.lst (.recs sh [])) := fun γ x h => by
  rw [ec_v h]
  exact .lst _ _ (.empty _ _ none 0 rfl (Nat.zero_le _) fun _ => rfl)
theorem Weak.nilI (k : IntKind) : Weak (.v (.slice none 0 0)) (.lst (.ints k [])) := fun γ x h => by
  rw [ec_v h]
  exact .lst _ _ (.empty _ _ none 0 rfl (Nat.zero_le _) fun _ => rfl)
inductive WeakL : List EV → List EV → Prop
  | nil : WeakL [] []
  | cons {a b : EV} {l r : List EV} (h : Weak a b) (t : WeakL l r) : WeakL (a :: l) (b :: r)
theorem WeakL.ok {γ : G} : ∀ {l r : List EV} {vs : List Value}, WeakL l r → ECL γ l vs → ECL γ r vs
  | _, _, vs, .nil, h => h
  | _, _, vs, .cons h t, k => by
    obtain ⟨x, ys, rfl, h1, h2⟩ := ECL.inv k
    exact ECL.cons (h _ _ h1) (t.ok h2)
theorem Weak.tup {l r : List EV} (h : WeakL l r) : Weak (.tup l) (.tup r) := fun γ x k => by
  cases k with
  | tup _ vs h1 h2 => have := h.ok (γ := γ) ⟨h1, h2⟩; exact .tup _ vs this.1 this.2
theorem Weak.agg {l r : List EV} (h : WeakL l r) : Weak (.agg l) (.agg r) := fun γ x k => by
  cases k with
  | agg _ vs h1 h2 => have := h.ok (γ := γ) ⟨h1, h2⟩; exact .agg _ vs this.1 this.2
theorem Weak.aggV {vs : List Value} {r : List EV} (h : WeakL (vs.map .v) r) : Weak (.v (.agg (Array.mk vs))) (.agg r) := fun γ x k => by
  rw [ec_v k]
  have := h.ok (γ := γ) (ECL.vals γ vs)
  exact .agg _ vs this.1 this.2
theorem Weak.trans {a b c : EV} (h : Weak a b) (k : Weak b c) : Weak a c := fun γ x e => k γ x (h γ x e)
/-- from s, in function f, to the end -/
def EndZ (f : FuncId) (ct : Tr ZCC) (own : Bool) (s : ES) (a : EV) (K : List (Nat × EK)) (n : Nat) : Prop := ∃ ps lk s' a', LeadsZ Try.prog s s' ∧ RZs f ct ps lk own s' = .done a' K n ∧ Weak a' a
theorem EndZ.done {f : FuncId} {ct : Tr ZCC} {own : Bool} {s : ES} {a : EV} {K : List (Nat × EK)} {n : Nat} {ps : PLs} {lk : List Nat} (h : RZs f ct ps lk own s = .done a K n) : EndZ f ct own s a K n := ⟨ps, lk, s, a, LeadsZ.refl s, h, Weak.refl a⟩
theorem EndZ.weak {f : FuncId} {ct : Tr ZCC} {own : Bool} {s : ES} {a b : EV} {K : List (Nat × EK)} {n : Nat} (h : EndZ f ct own s a K n) (k : Weak a b) : EndZ f ct own s b K n := by
  obtain ⟨ps, lk, t, a', h1, h2, h3⟩ := h
  exact ⟨ps, lk, t, a', h1, h2, h3.trans k⟩
theorem EndZ.lead {f : FuncId} {ct : Tr ZCC} {own : Bool} {s s' : ES} {a : EV} {K : List (Nat × EK)} {n : Nat} (h : LeadsZ Try.prog s s') (k : EndZ f ct own s' a K n) : EndZ f ct own s a K n := by
  obtain ⟨ps, lk, t, a', h1, h2, h3⟩ := k
  exact ⟨ps, lk, t, a', h.trans h1, h2, h3⟩
theorem EndZ.at {f : FuncId} {ct : Tr ZCC} (hct : ZCtsOk Try.prog ct) {own own' : Bool} {s : ES} {r : NS} {a : EV} {K : List (Nat × EK)} {n : Nat} {ps : PLs} {lk : List Nat} (h : RZs f ct ps lk own' s = .at r) (k : EndZ f ct own (stOf r) a K n) : EndZ f ct own s a K n := k.lead (leadsZ hct h)
theorem EndZ.calls {γ : G} {w : World} {f : FuncId} {ct : Tr ZCC} {own : Bool} {args : List EV} {a : EV} {K : List (Nat × EK)} {n' : Nat} (h : EndZ f ct own (st0 f args) a K n') (hct : ZCtsOk Try.prog ct) {us : Array Value} (he : (exEnter ft f args).isSome = true) (hargs : ECL γ args us.toList) (hN : ∀ i, γ i = none) (hfz : FzAt γ w) :
    Calls Try.prog f us w fun e w' => ∃ γ' x, e = .returned x ∧ EC γ' a x ∧ HR γ' (Bs.ofG w γ) (mkT K) n' w' := by
  obtain ⟨ps, lk, t, a', h1, h2, h3⟩ := h
  refine (callsZ hct he hargs hN hfz h1 h2).mono fun e w' ⟨γ', x, k1, k2, k3⟩ => ⟨γ', x, k1, h3 γ' x k2, k3⟩
/-! ### calls that change what their arguments lead to -/
noncomputable def st0m (f : FuncId) (args : List EV) (K0 : List (Nat × EK)) (m : Nat) : ES := ⟨ent f args, [], mkT K0, m⟩
/-- a run that keeps the first k numbers -/
noncomputable def RMs (k : Nat) (f : FuncId) (ct : Tr ZCC) (ps : PLs) (lk : List Nat) (nl : NLs) (s : ES) : ZF := runZ (stepZ Try.prog ft f dr4 sub4 ct) (atPs ps) (endM k lk ps nl) 600 s
theorem leadsMZ {k : Nat} {f : FuncId} {ct : Tr ZCC} (hct : ZCtsOk Try.prog ct) {ps : PLs} {lk : List Nat} {s : ES} {r : NS} {nl : NLs} (h : RMs k f ct ps lk nl s = .at r) : LeadsM Try.prog k s (stOf r) :=
  leadsM (f := f) mix ftOk dr4Ok sub4Ok hct h
def EndM (k : Nat) (f : FuncId) (ct : Tr ZCC) (s : ES) (a : EV) (K : List (Nat × EK)) (n : Nat) : Prop := ∃ ps lk nl s', LeadsM Try.prog k s s' ∧ RMs k f ct ps lk nl s' = .done a K n
theorem EndM.done {k : Nat} {f : FuncId} {ct : Tr ZCC} {s : ES} {a : EV} {K : List (Nat × EK)} {n : Nat} {ps : PLs} {lk : List Nat} {nl : NLs} (h : RMs k f ct ps lk nl s = .done a K n) : EndM k f ct s a K n := ⟨ps, lk, nl, s, LeadsM.refl k s, h⟩
theorem EndM.lead {k : Nat} {f : FuncId} {ct : Tr ZCC} {s s' : ES} {a : EV} {K : List (Nat × EK)} {n : Nat} (h : LeadsM Try.prog k s s') (g : EndM k f ct s' a K n) : EndM k f ct s a K n := by
  obtain ⟨ps, lk, nl, t, h1, h2⟩ := g
  exact ⟨ps, lk, nl, t, h.trans h1, h2⟩
theorem EndM.at {k : Nat} {f : FuncId} {ct : Tr ZCC} (hct : ZCtsOk Try.prog ct) {s : ES} {r : NS} {a : EV} {K : List (Nat × EK)} {n : Nat} {ps : PLs} {lk : List Nat} {nl : NLs} (h : RMs k f ct ps lk nl s = .at r) (g : EndM k f ct (stOf r) a K n) : EndM k f ct s a K n := g.lead (leadsMZ hct h)
theorem EndM.calls {k : Nat} {γ : G} {w0 : Bs} {w : World} {f : FuncId} {ct : Tr ZCC} {args : List EV} {K0 : List (Nat × EK)} {m0 : Nat} {a : EV} {K : List (Nat × EK)} {n' : Nat} (h : EndM k f ct (st0m f args K0 m0) a K n') (hct : ZCtsOk Try.prog ct) {us : Array Value} (he : (exEnter ft f args).isSome = true) (hres : ∀ i, ¬ w0.res i) (hargs : ECL γ args us.toList) (hH : HR γ w0 (mkT K0) m0 w) :
    Calls Try.prog f us w fun e w' => ∃ γ' x, e = .returned x ∧ EC γ' a x ∧ HR γ' w0 (mkT K) n' w' ∧ ∀ j p, j < k → γ j = some p → γ' j = some p := by
  obtain ⟨ps, lk, nl, t, h1, h2⟩ := h
  obtain ⟨e, he⟩ := Option.isSome_iff_exists.1 he
  have : ent f args = e := by unfold ent; rw [he]
  unfold st0m at h1
  rw [this] at h1
  exact callsM mix ftOk dr4Ok sub4Ok hct he hres hargs hH h1 h2
theorem bc_b (b : Bool) : bc b true false = b := by cases b <;> rfl
theorem bc_same {α : Type} (b : Bool) (x : α) : bc b x x = x := by cases b <;> rfl
/-! ### contracts of several cases -/
noncomputable def ZMT.or (a b : ZMT) : ZMT := fun ax K m => match a ax K m with
  | some r => some r
  | none => b ax K m
theorem ZMtOk.or {P : Program} {g : FuncId} {a b : ZMT} (ha : ZMtOk P g a) (hb : ZMtOk P g b) : ZMtOk P g (a.or b) := fun γ w0 w us ax K0 m r hs => by
  unfold ZMT.or at hs
  split at hs
  · rename_i r' hr
    injection hs with hs; subst hs
    exact ha γ w0 w us ax K0 m _ hr
  · exact hb γ w0 w us ax K0 m r hs
noncomputable def ZCT.or (a b : ZCT) : ZCT := fun ax => match a ax with
  | some r => some r
  | none => b ax
theorem ZCtOk.or {P : Program} {g : FuncId} {a b : ZCT} (ha : ZCtOk P g a) (hb : ZCtOk P g b) : ZCtOk P g (a.or b) := fun γ w us ax r hs => by
  unfold ZCT.or at hs
  split at hs
  · rename_i r' hr
    injection hs with hs; subst hs
    exact ha γ w us ax _ hr
  · exact hb γ w us ax r hs
theorem noN {α : Type} {x r : α} {b : Bool} (h : bc b (some x) none = some r) : b = true ∧ x = r := by
  cases b
  · cases h
  · exact ⟨rfl, Option.some.inj h⟩
end Go.Proofs.Ytkbebiebaenbdaa.Ev
namespace Go.Proofs.Ytkbebiebaenbdaa.Ev
open Go.Proofs
theorem closed_ct {P : Program} {f : FuncId} {γ : G} {w : World} {us : Array Value} (h : Calls P f #[] w fun e w' => e = .returned (.bool true) ∧ Stays w w') (hax : ECL γ [] us.toList) (hfz : FzAt γ w) : Calls P f us w fun e w' => ∃ γ' x, e = .returned x ∧ EC γ' (bv true) x ∧ HR γ' (Bs.ofG w γ) (mkT (zseqs [])) 0 w' := by
  have hu : us = #[] := by
    have := hax.1
    apply Array.toList_inj.1
    exact List.eq_nil_of_length_eq_zero this.symm
  subst hu
  refine h.mono ?_
  rintro e w' ⟨rfl, hs⟩
  refine ⟨⟨fun _ => none, γ.fz⟩, _, rfl, .v _, ⟨(fun i k hk => by cases hk), (fun i j ki kj hi => by cases hi), (fun _ _ => rfl), (fun i hi => hi.elim), (fun i p hp => by cases hp), ⟨hs.os, hs.tape, hs.output, hs.size, hs.block⟩, ⟨fun k a hk => ?_, fun k hk => hk⟩⟩⟩
  obtain ⟨ty, fz, h1⟩ := hfz k a hk
  have hk2 := (Array.getElem?_eq_some_iff.1 h1).1
  exact ⟨⟨ty, fz, (hs.block k hk2).trans h1⟩, .inl ⟨a, hk⟩, fun i ki b m hi => by cases hi⟩
noncomputable def spTrue : ZCT := fun ax => match ax with
  | [] => some ⟨true, bv true, [], 0⟩
  | _ => none
theorem spTrue_ok {P : Program} {f : FuncId} (h : ∀ w, Calls P f #[] w fun e w' => e = .returned (.bool true) ∧ Stays w w') : ZCtOk P f spTrue := fun γ w us ax r hs hc hax hN hfz => by
  unfold spTrue at hs
  split at hs
  case h_2 => cases hs
  obtain ⟨rfl⟩ := Option.some.inj hs
  exact closed_ct (h w) hax hfz
theorem law_of {P : Program} {f : FuncId} {γ : G} {w : World} {us : Array Value} {K : List (Nat × EK)} {n : Nat} (h : Calls P f us w fun e w' => ∃ γ' x, e = .returned x ∧ EC γ' (bv true) x ∧ HR γ' (Bs.ofG w γ) (mkT K) n w') : Calls P f us w fun e w' => e = .returned (.bool true) ∧ Stays w w' := h.mono fun e w' ⟨γ', x, h1, h2, h3⟩ => ⟨by rw [h1, ec_v h2], staysOf h3.stays⟩
end Go.Proofs.Ytkbebiebaenbdaa.Ev
namespace Go.Proofs.Ytkbebiebaenbdaa.Ev
open Go.Proofs
noncomputable def shW : List Sh := [.int .i64, .int .i64, .str]
noncomputable abbrev wl (l : List (List U)) : EV := .lst (.recs shW l)
noncomputable abbrev shE (p : Int) (l : List (List U)) (e : Int) : EV := .tup [.agg [iv p, wl l], iv e]
noncomputable def shN (e : Int) : EV := (EV.tup [(EV.v (Value.agg (Array.mk [(Value.int IntKind.i64 (0)), (Value.slice Option.none 0 0)]))), (EV.v (Value.int IntKind.i64 e))])
theorem shN_weak (e : Int) : Weak (shN e) (shE 0 [] e) := .tup (.cons (.aggV (.cons (Weak.refl _) (.cons (Weak.nil _) .nil))) (.cons (Weak.refl _) .nil))
noncomputable abbrev bLet : ByteArray := ByteArray.mk #[67, 84, 76, 82, 80, 99, 116, 108, 114]
theorem bc_bc {α : Type} (a b c : Bool) (x y : α) : bc (bc a b c) x y = bc a (bc b x y) (bc c x y) := by cases a <;> rfl
/-! ### a work's parts -/
noncomputable def rK (r : List U) : Int := U.int (r.getD 0 (.i 0))
noncomputable def rA (r : List U) : Int := U.int (r.getD 1 (.i 0))
noncomputable def rW (r : List U) : ByteArray := U.str (r.getD 2 (.i 0))
theorem fK0 (r : List U) : U.int (r.getD 0 (.i 0)) = rK r := rfl
theorem fA0 (r : List U) : U.int (r.getD (Nat.succ 0) (.i 0)) = rA r := rfl
theorem fA1 (r : List U) : U.int (r.getD (Nat.add 0 1) (.i 0)) = rA r := rfl
theorem fA2 (r : List U) : U.int (r.getD 1 (.i 0)) = rA r := rfl
theorem fW0 (r : List U) : U.str (r.getD (Nat.succ (Nat.succ 0)) (.i 0)) = rW r := rfl
theorem fW1 (r : List U) : U.str (r.getD (Nat.add 0 2) (.i 0)) = rW r := rfl
theorem fW2 (r : List U) : U.str (r.getD 2 (.i 0)) = rW r := rfl
theorem fK1 (r : List U) : U.int (r.getD (Nat.add 0 0) (.i 0)) = rK r := rfl
/-! ### index -/
noncomputable def idxB (s : ByteArray) (c : Int) (i : Nat) : Nat → Int
  | 0 => -1
  | k + 1 => bc (byteAt s i == c) (i : Int) (idxB s c (i + 1) k)
noncomputable def idx (s : ByteArray) (c : Int) : Int := idxB s c 0 s.size
namespace RIdx
noncomputable def RUN (s : ES) : ZF := RZ 102 .nil (atS 0 102 2) [] [[(0,none),(1,none),(5,none)]] false s

noncomputable def sI (s : ByteArray) (c i : Int) : NS := ⟨[⟨102, 18, [(0, (EV.v (Value.string (s)))), (1, (EV.v (Value.int IntKind.u8 (c)))), (5, iv i)], [.it (.code (nav [1, 0, 1, 0, 0, 0] (bodyOf Try.f102))), .it (.code (nav [1, 0, 1, 0, 0, 1] (bodyOf Try.f102))), .it (.inLoop (nav [1, 0, 1, 0, 0] (bodyOf Try.f102))), .it (.inBlock 0), .it (.code (nav [1, 1] (bodyOf Try.f102)))], [], Option.none⟩], [], 0⟩
theorem in_t (s : ByteArray) (c : Int) : RUN (st0 102 [sv s, .v (.int .u8 c)]) = (.at (sI (s) (c) ((0 : Int)))) := by kernel_rfl
theorem step_t (s : ByteArray) (c i : Int) : RUN (stOf (sI s c i)) = (bc (Decidable.decide (i < Int.ofNat (ByteArray.size s)))
  (bc (bc (bc (Decidable.decide ((0 : Int) ≤ i)) (Nat.blt (Int.toNat i) (ByteArray.size s)) Bool.false) Bool.true Bool.false)
    (bc (byteAt s (Int.toNat i) == c)
      (.done (EV.v (Value.int IntKind.i64 (i))) [] 0)
      (.at (sI (s) (c) (IntKind.wrap IntKind.i64 (i + (1 : Int))))))
    .bad)
  (.done (EV.v (Value.int IntKind.i64 (-1))) [] 0)) := by kernel_rfl
theorem step {s : ByteArray} {c : Int} {i : Nat} (hi : i < s.size) (hs : s.size ≤ 100000) : RUN (stOf (sI s c i)) = bc (byteAt s i == c) (.done (iv i) [] 0) (.at (sI s c (i + 1 : Nat))) := by
  rw [step_t]
  simp (disch := omega) only [Nat.add_eq, eqSy_self, eqN_self, bc_same, List.length_cons, ofn, wrap_in, dt, df, bltD, bltN, ble_of, bleN, beqD, bc_t, bc_f, nn_ok, Nat.zero_add, to_nat, Int.zero_add, Int.sub_zero, Int.sub_self, Int.cast_ofNat_Int, Int.natCast_zero, Int.toNat_zero, List.take_zero, List.nil_append, List.length_append, List.length_nil]
  rfl
theorem last {s : ByteArray} {c : Int} {i : Nat} (hi : s.size ≤ i) : RUN (stOf (sI s c i)) = .done (iv (-1)) [] 0 := by
  rw [step_t]
  simp (disch := omega) only [Nat.add_eq, eqSy_self, eqN_self, bc_same, List.length_cons, ofn, wrap_in, dt, df, bltD, bltN, ble_of, bleN, beqD, bc_t, bc_f, nn_ok, Nat.zero_add, to_nat, Int.zero_add, Int.sub_zero, Int.sub_self, Int.cast_ofNat_Int, Int.natCast_zero, Int.toNat_zero, List.take_zero, List.nil_append, List.length_append, List.length_nil]
theorem loop {s : ByteArray} {c : Int} (hs : s.size ≤ 100000) : ∀ (k i : Nat), i + k = s.size → EndZ 102 .nil false (stOf (sI s c i)) (iv (idxB s c i k)) [] 0
  | 0, i, h => .done (last (by omega))
  | k + 1, i, h => by
    have := step (c := c) (show i < s.size by omega) hs
    unfold idxB
    cases hb : byteAt s i == c <;> rw [hb] at this
    · exact .at (.nil _) this (loop hs k (i + 1) (by omega))
    · exact .done this
end RIdx
noncomputable def spIdx : ZCT := fun ax => match ax with
  | [.v (.string s), .v (.int .u8 c)] => some ⟨decide (s.size ≤ 100000), iv (idx s c), [], 0⟩
  | _ => none
theorem spIdx_ok : ZCtOk Try.prog 102 spIdx := fun γ w us ax r hs hc hax hN hfz => by
  unfold spIdx at hs
  split at hs
  case h_2 => cases hs
  rename_i s c
  obtain ⟨rfl⟩ := Option.some.inj hs
  have hc_0 : decide (s.size ≤ 100000) = true := hc
  have hc := of_decide_eq_true hc_0
  exact EndZ.calls (.at (.nil _) (RIdx.in_t s c) (RIdx.loop hc s.size 0 (by omega))) (.nil _) (by kernel_rfl) hax hN hfz
noncomputable def ctI : Tr ZCC := Tr.nil.put 102 (some (dC spIdx))
theorem ctI_ok : ZCtsOk Try.prog ctI := (ZCtsOk.nil _).add rfl spIdx_ok
/-! ### Check of a word -/
noncomputable def badF (w : ByteArray) (i : Nat) : Nat → Bool
  | 0 => false
  | k + 1 => bc (decide (idx bLet (byteAt w i) < 0)) true (badF w (i + 1) k)
noncomputable def chk3 (w : ByteArray) : Int := bc (decide (16 < (w.size : Int))) 3 (bc (badF w 0 w.size) 6 0)
namespace RChk3
noncomputable def RUN (s : ES) : ZF := RZ 77 ctI (atS 0 77 4) [] [[(0,none),(3,none)]] false s

noncomputable def sC (s : ByteArray) (i : Int) : NS := ⟨[⟨77, 18, [(0, (EV.v (Value.string (s)))), (3, iv i)], [.it (.code (nav [1, 1, 0, 1, 0, 0, 0] (bodyOf Try.f77))), .it (.code (nav [1, 1, 0, 1, 0, 0, 1] (bodyOf Try.f77))), .it (.inLoop (nav [1, 1, 0, 1, 0, 0] (bodyOf Try.f77))), .it (.inBlock 0), .it (.code (nav [1, 1, 1] (bodyOf Try.f77)))], [], Option.none⟩], [], 0⟩
theorem in_t (s : ByteArray) : RUN (st0 77 [sv s]) = (bc (Decidable.decide ((16 : Int) < Int.ofNat (ByteArray.size s)))
  (.done (EV.v (Value.int IntKind.i64 (3))) [] 0)
  (.at (sC (s) ((0 : Int))))) := by kernel_rfl
theorem step_t (s : ByteArray) (i : Int) : RUN (stOf (sC s i)) = (bc (Decidable.decide (i < Int.ofNat (ByteArray.size s)))
  (bc (bc (bc (Decidable.decide ((0 : Int) ≤ i)) (Nat.blt (Int.toNat i) (ByteArray.size s)) Bool.false) Bool.true Bool.false)
    (bc (Decidable.decide (idx { data := #[(67 : UInt8), (84 : UInt8), (76 : UInt8), (82 : UInt8), (80 : UInt8), (99 : UInt8), (116 : UInt8), (108 : UInt8), (114 : UInt8)] } (byteAt s (Int.toNat i)) < (0 : Int)))
      (.done (EV.v (Value.int IntKind.i64 (6))) [] 0)
      (.at (sC (s) (IntKind.wrap IntKind.i64 (i + (1 : Int))))))
    .bad)
  (.done (EV.v (Value.int IntKind.i64 (0))) [] 0)) := by kernel_rfl
theorem step {s : ByteArray} {i : Nat} (hi : i < s.size) (hs : s.size ≤ 1000) : RUN (stOf (sC s i)) = bc (decide (idx bLet (byteAt s i) < 0)) (.done (iv 6) [] 0) (.at (sC s (i + 1 : Nat))) := by
  rw [step_t]
  simp (disch := omega) only [Nat.add_eq, eqSy_self, eqN_self, bc_same, List.length_cons, ofn, wrap_in, dt, df, bltD, bltN, ble_of, bleN, beqD, bc_t, bc_f, nn_ok, Nat.zero_add, to_nat, Int.zero_add, Int.sub_zero, Int.sub_self, Int.cast_ofNat_Int, Int.natCast_zero, Int.toNat_zero, List.take_zero, List.nil_append, List.length_append, List.length_nil]
  rfl
theorem last {s : ByteArray} {i : Nat} (hi : s.size ≤ i) : RUN (stOf (sC s i)) = .done (iv 0) [] 0 := by
  rw [step_t]
  simp (disch := omega) only [Nat.add_eq, eqSy_self, eqN_self, bc_same, List.length_cons, ofn, wrap_in, dt, df, bltD, bltN, ble_of, bleN, beqD, bc_t, bc_f, nn_ok, Nat.zero_add, to_nat, Int.zero_add, Int.sub_zero, Int.sub_self, Int.cast_ofNat_Int, Int.natCast_zero, Int.toNat_zero, List.take_zero, List.nil_append, List.length_append, List.length_nil]
theorem loop {s : ByteArray} (hs : s.size ≤ 1000) : ∀ (k i : Nat), i + k = s.size → EndZ 77 ctI false (stOf (sC s i)) (iv (bc (badF s i k) 6 0)) [] 0
  | 0, i, h => .done (last (by omega))
  | k + 1, i, h => by
    have := step (show i < s.size by omega) hs
    unfold badF
    cases hb : decide (idx bLet (byteAt s i) < 0) <;> rw [hb] at this
    · exact .at ctI_ok this (loop hs k (i + 1) (by omega))
    · exact .done this
theorem ends (s : ByteArray) : EndZ 77 ctI false (st0 77 [sv s]) (iv (chk3 s)) [] 0 := by
  have h := in_t s
  unfold chk3
  by_cases h1 : 16 < (s.size : Int)
  · simp only [ofn, dt h1, bc_t] at h ⊢; exact .done h
  · simp only [ofn, df h1, bc_f] at h ⊢
    exact .at ctI_ok h (loop (by omega) s.size 0 (by omega))
end RChk3
noncomputable def spChk3 : ZCT := fun ax => match ax with
  | [.v (.string s)] => some ⟨decide (True), iv (chk3 s), [], 0⟩
  | _ => none
theorem spChk3_ok : ZCtOk Try.prog 77 spChk3 := fun γ w us ax r hs hc hax hN hfz => by
  unfold spChk3 at hs
  split at hs
  case h_2 => cases hs
  rename_i s
  obtain ⟨rfl⟩ := Option.some.inj hs
  have hc_0 : decide (True) = true := hc
  have hc := of_decide_eq_true hc_0
  exact EndZ.calls (RChk3.ends s) ctI_ok (by kernel_rfl) hax hN hfz
noncomputable def ctC : Tr ZCC := ctI.put 77 (some (dC spChk3))
theorem ctC_ok : ZCtsOk Try.prog ctC := ctI_ok.add rfl spChk3_ok
/-! ### Check of a sheet -/
noncomputable def longR (r : List U) : Bool := decide (16 < ((rW r).size : Int))
noncomputable def badR (n : Int) (r : List U) : Bool := bc (rK r != 1)
  (bc (rK r != 2) true (bc (decide (rA r < 0)) true (bc (decide (n - 2 < rA r)) true (bc (rK r == 2) (bc (!((rW r).toList == (ByteArray.mk #[]).toList)) true false) false))))
  (bc (decide (rA r < 0)) true (bc (decide (n - 2 < rA r)) true (bc (rK r == 2) (bc (!((rW r).toList == (ByteArray.mk #[]).toList)) true false) false)))
noncomputable def formR (r : List U) : Bool := chk3 (rW r) != 0
noncomputable def anyR (p : List U → Bool) : List (List U) → Bool
  | [] => false
  | r :: l => bc (p r) true (anyR p l)
theorem anyR_cons (p : List U → Bool) (r : List U) (l : List (List U)) : anyR p (r :: l) = bc (p r) true (anyR p l) := rfl
noncomputable def chk4 (n : Int) (l : List (List U)) : Int := bc (decide (24 < n)) 3 (bc (decide (400 < (l.length : Int))) 3 (bc (anyR longR l) 3 (bc (decide (n < 2)) 2 (bc (anyR (badR n) l) 2 (bc (anyR formR l) 6 0)))))
namespace RChk4
noncomputable def RUN (s : ES) : ZF := RZs 42 ctC [(atS 0 42 4, [[(1,none),(3,none)]]), (atS 0 42 11, [[(1,none),(4,none)]]), (atS 0 42 17, [[(1,none),(6,none)]])] [] false s

noncomputable def sA (n : Int) (l : List (List U)) (i : Int) : NS := ⟨[⟨42, 92, [(1, (EV.ptr 0 0)), (3, iv i)], [.it (.code (nav [1, 1, 0, 1, 0, 0, 0] (bodyOf Try.f42))), .it (.code (nav [1, 1, 0, 1, 0, 0, 1] (bodyOf Try.f42))), .it (.inLoop (nav [1, 1, 0, 1, 0, 0] (bodyOf Try.f42))), .it (.inBlock 0), .it (.code (nav [1, 1, 1] (bodyOf Try.f42)))], [], Option.none⟩], [(0, (EK.cells 24 [(EV.v (Value.int IntKind.i64 (n))), (EV.lst (SyC.recs [(Sh.int IntKind.i64), (Sh.int IntKind.i64), Sh.str] (l)))] true))], 1⟩
noncomputable def sB (n : Int) (l : List (List U)) (i : Int) : NS := ⟨[⟨42, 92, [(1, (EV.ptr 0 0)), (4, iv i)], [.it (.code (nav [1, 1, 1, 1, 0, 1, 0, 0, 0] (bodyOf Try.f42))), .it (.code (nav [1, 1, 1, 1, 0, 1, 0, 0, 1] (bodyOf Try.f42))), .it (.inLoop (nav [1, 1, 1, 1, 0, 1, 0, 0] (bodyOf Try.f42))), .it (.inBlock 2), .it (.code (nav [1, 1, 1, 1, 1] (bodyOf Try.f42)))], [], Option.none⟩], [(0, EK.cells 24 [iv n, wl l] true)], 1⟩
noncomputable def sC (n : Int) (l : List (List U)) (i : Int) : NS := ⟨[⟨42, 92, [(1, (EV.ptr 0 0)), (6, iv i)], [.it (.code (nav [1, 1, 1, 1, 1, 0, 1, 0, 0, 0] (bodyOf Try.f42))), .it (.code (nav [1, 1, 1, 1, 1, 0, 1, 0, 0, 1] (bodyOf Try.f42))), .it (.inLoop (nav [1, 1, 1, 1, 1, 0, 1, 0, 0] (bodyOf Try.f42))), .it (.inBlock 4), .it (.code (nav [1, 1, 1, 1, 1, 1] (bodyOf Try.f42)))], [], Option.none⟩], [(0, EK.cells 24 [iv n, wl l] true)], 1⟩
theorem in_t (n : Int) (l : List (List U)) : RUN (st0 42 [.agg [iv n, wl l]]) = (bc (Decidable.decide ((24 : Int) < n))
  (.done (EV.v (Value.int IntKind.i64 (3))) [] 0)
  (bc (Decidable.decide ((400 : Int) < Int.ofNat (List.length l)))
    (.done (EV.v (Value.int IntKind.i64 (3))) [] 0)
    (.at (sA (n) (l) ((0 : Int)))))) := by kernel_rfl
theorem a_t (n : Int) (l : List (List U)) (i : Int) : RUN (stOf (sA n l i)) = (bc (Decidable.decide (i < Int.ofNat (List.length l)))
  (bc (bc (bc (Decidable.decide ((0 : Int) ≤ i)) (Nat.blt (Int.toNat i) (List.length l)) Bool.false) Bool.true Bool.false)
    (bc (bc (Nat.blt (Int.toNat i) (List.length l)) Bool.true Bool.false)
      (bc (Decidable.decide ((16 : Int) < Int.ofNat (ByteArray.size (U.str (List.getD (List.getD l (Int.toNat i) []) (Nat.add (0 : Nat) (2 : Nat)) (U.i (0 : Int)))))))
        (.done (EV.v (Value.int IntKind.i64 (3))) [] 0)
        (.at (sA (n) (l) (IntKind.wrap IntKind.i64 (i + (1 : Int))))))
      .bad)
    .bad)
  (bc (Decidable.decide (n < (2 : Int)))
    (.done (EV.v (Value.int IntKind.i64 (2))) [] 0)
    (.at (sB (n) (l) ((0 : Int)))))) := by kernel_rfl
theorem b_t (n : Int) (l : List (List U)) (i : Int) : RUN (stOf (sB n l i)) = (bc (Decidable.decide (i < Int.ofNat (List.length l)))
  (bc (bc (bc (Decidable.decide ((0 : Int) ≤ i)) (Nat.blt (Int.toNat i) (List.length l)) Bool.false) Bool.true Bool.false)
    (bc (bc (Nat.blt (Int.toNat i) (List.length l)) Bool.true Bool.false)
      (bc (U.int (List.getD (List.getD l (Int.toNat i) []) (0 : Nat) (U.i (0 : Int))) != (1 : Int))
        (bc (U.int (List.getD (List.getD l (Int.toNat i) []) (0 : Nat) (U.i (0 : Int))) != (2 : Int))
          (.done (EV.v (Value.int IntKind.i64 (2))) [] 0)
          (bc (Decidable.decide (U.int (List.getD (List.getD l (Int.toNat i) []) (Nat.succ (0 : Nat)) (U.i (0 : Int))) < (0 : Int)))
            (.done (EV.v (Value.int IntKind.i64 (2))) [] 0)
            (bc (Decidable.decide (IntKind.wrap IntKind.i64 (n - (2 : Int)) < U.int (List.getD (List.getD l (Int.toNat i) []) (Nat.succ (0 : Nat)) (U.i (0 : Int)))))
              (.done (EV.v (Value.int IntKind.i64 (2))) [] 0)
              (bc (U.int (List.getD (List.getD l (Int.toNat i) []) (0 : Nat) (U.i (0 : Int))) == (2 : Int))
                (bc (!ByteArray.toList (U.str (List.getD (List.getD l (Int.toNat i) []) (Nat.succ (Nat.succ (0 : Nat))) (U.i (0 : Int)))) == ByteArray.toList { data := #[] })
                  (.done (EV.v (Value.int IntKind.i64 (2))) [] 0)
                  (.at (sB (n) (l) (IntKind.wrap IntKind.i64 (i + (1 : Int))))))
                (.at (sB (n) (l) (IntKind.wrap IntKind.i64 (i + (1 : Int)))))))))
        (bc (Decidable.decide (U.int (List.getD (List.getD l (Int.toNat i) []) (Nat.succ (0 : Nat)) (U.i (0 : Int))) < (0 : Int)))
          (.done (EV.v (Value.int IntKind.i64 (2))) [] 0)
          (bc (Decidable.decide (IntKind.wrap IntKind.i64 (n - (2 : Int)) < U.int (List.getD (List.getD l (Int.toNat i) []) (Nat.succ (0 : Nat)) (U.i (0 : Int)))))
            (.done (EV.v (Value.int IntKind.i64 (2))) [] 0)
            (bc (U.int (List.getD (List.getD l (Int.toNat i) []) (0 : Nat) (U.i (0 : Int))) == (2 : Int))
              (bc (!ByteArray.toList (U.str (List.getD (List.getD l (Int.toNat i) []) (Nat.succ (Nat.succ (0 : Nat))) (U.i (0 : Int)))) == ByteArray.toList { data := #[] })
                (.done (EV.v (Value.int IntKind.i64 (2))) [] 0)
                (.at (sB (n) (l) (IntKind.wrap IntKind.i64 (i + (1 : Int))))))
              (.at (sB (n) (l) (IntKind.wrap IntKind.i64 (i + (1 : Int)))))))))
      .bad)
    .bad)
  (.at (sC (n) (l) ((0 : Int))))) := by kernel_rfl
theorem c_t (n : Int) (l : List (List U)) (i : Int) : RUN (stOf (sC n l i)) = (bc (Decidable.decide (i < Int.ofNat (List.length l)))
  (bc (bc (bc (Decidable.decide ((0 : Int) ≤ i)) (Nat.blt (Int.toNat i) (List.length l)) Bool.false) Bool.true Bool.false)
    (bc (bc (Nat.blt (Int.toNat i) (List.length l)) Bool.true Bool.false)
      (bc (chk3 (U.str (List.getD (List.getD l (Int.toNat i) []) (Nat.add (0 : Nat) (2 : Nat)) (U.i (0 : Int)))) != (0 : Int))
        (.done (EV.v (Value.int IntKind.i64 (6))) [] 0)
        (.at (sC (n) (l) (IntKind.wrap IntKind.i64 (i + (1 : Int))))))
      .bad)
    .bad)
  (.done (EV.v (Value.int IntKind.i64 (0))) [] 0)) := by kernel_rfl
theorem aStep {n : Int} {l : List (List U)} {i : Nat} (hi : i < l.length) (hl : l.length ≤ 400) : RUN (stOf (sA n l i)) = bc (longR l[i]) (.done (iv 3) [] 0) (.at (sA n l (i + 1 : Nat))) := by
  rw [a_t]
  have e : l.getD i [] = l[i] := getD_at hi
  simp (disch := omega) only [Nat.add_eq, eqSy_self, eqN_self, bc_same, List.length_cons, ofn, wrap_in, dt, df, bltD, bltN, ble_of, bleN, beqD, bc_t, bc_f, nn_ok, Nat.zero_add, to_nat, Int.zero_add, Int.sub_zero, Int.sub_self, Int.cast_ofNat_Int, Int.natCast_zero, Int.toNat_zero, List.take_zero, List.nil_append, List.length_append, List.length_nil, e, fK0, fK1, fA0, fA1, fA2, fW0, fW1, fW2]
  rfl
theorem aLast {n : Int} {l : List (List U)} {i : Nat} (hi : l.length ≤ i) : RUN (stOf (sA n l i)) = bc (decide (n < 2)) (.done (iv 2) [] 0) (.at (sB n l 0)) := by
  rw [a_t]
  simp (disch := omega) only [Nat.add_eq, eqSy_self, eqN_self, bc_same, List.length_cons, ofn, wrap_in, dt, df, bltD, bltN, ble_of, bleN, beqD, bc_t, bc_f, nn_ok, Nat.zero_add, to_nat, Int.zero_add, Int.sub_zero, Int.sub_self, Int.cast_ofNat_Int, Int.natCast_zero, Int.toNat_zero, List.take_zero, List.nil_append, List.length_append, List.length_nil]
theorem bStep {n : Int} {l : List (List U)} {i : Nat} (hi : i < l.length) (hl : l.length ≤ 400) (h2 : 2 ≤ n) (h3 : n ≤ 24) : RUN (stOf (sB n l i)) = bc (badR n l[i]) (.done (iv 2) [] 0) (.at (sB n l (i + 1 : Nat))) := by
  rw [b_t]
  have e : l.getD i [] = l[i] := getD_at hi
  unfold badR
  simp (disch := omega) only [Nat.add_eq, eqSy_self, eqN_self, bc_same, List.length_cons, ofn, wrap_in, dt, df, bltD, bltN, ble_of, bleN, beqD, bc_t, bc_f, nn_ok, Nat.zero_add, to_nat, Int.zero_add, Int.sub_zero, Int.sub_self, Int.cast_ofNat_Int, Int.natCast_zero, Int.toNat_zero, List.take_zero, List.nil_append, List.length_append, List.length_nil, e, fK0, fK1, fA0, fA1, fA2, fW0, fW1, fW2, bc_bc]
  rfl
theorem bLast {n : Int} {l : List (List U)} {i : Nat} (hi : l.length ≤ i) : RUN (stOf (sB n l i)) = .at (sC n l 0) := by
  rw [b_t]
  simp (disch := omega) only [Nat.add_eq, eqSy_self, eqN_self, bc_same, List.length_cons, ofn, wrap_in, dt, df, bltD, bltN, ble_of, bleN, beqD, bc_t, bc_f, nn_ok, Nat.zero_add, to_nat, Int.zero_add, Int.sub_zero, Int.sub_self, Int.cast_ofNat_Int, Int.natCast_zero, Int.toNat_zero, List.take_zero, List.nil_append, List.length_append, List.length_nil]
theorem cStep {n : Int} {l : List (List U)} {i : Nat} (hi : i < l.length) (hl : l.length ≤ 400) : RUN (stOf (sC n l i)) = bc (formR l[i]) (.done (iv 6) [] 0) (.at (sC n l (i + 1 : Nat))) := by
  rw [c_t]
  have e : l.getD i [] = l[i] := getD_at hi
  simp (disch := omega) only [Nat.add_eq, eqSy_self, eqN_self, bc_same, List.length_cons, ofn, wrap_in, dt, df, bltD, bltN, ble_of, bleN, beqD, bc_t, bc_f, nn_ok, Nat.zero_add, to_nat, Int.zero_add, Int.sub_zero, Int.sub_self, Int.cast_ofNat_Int, Int.natCast_zero, Int.toNat_zero, List.take_zero, List.nil_append, List.length_append, List.length_nil, e, fK0, fK1, fA0, fA1, fA2, fW0, fW1, fW2]
  rfl
theorem cLast {n : Int} {l : List (List U)} {i : Nat} (hi : l.length ≤ i) : RUN (stOf (sC n l i)) = .done (iv 0) [] 0 := by
  rw [c_t]
  simp (disch := omega) only [Nat.add_eq, eqSy_self, eqN_self, bc_same, List.length_cons, ofn, wrap_in, dt, df, bltD, bltN, ble_of, bleN, beqD, bc_t, bc_f, nn_ok, Nat.zero_add, to_nat, Int.zero_add, Int.sub_zero, Int.sub_self, Int.cast_ofNat_Int, Int.natCast_zero, Int.toNat_zero, List.take_zero, List.nil_append, List.length_append, List.length_nil]
theorem cLoop {n : Int} {l : List (List U)} (hl : l.length ≤ 400) : ∀ (k i : Nat), i + k = l.length → EndZ 42 ctC false (stOf (sC n l i)) (iv (bc (anyR formR (l.drop i)) 6 0)) [] 0
  | 0, i, h => by
    rw [List.drop_eq_nil_of_le (by omega)]
    exact .done (cLast (by omega))
  | k + 1, i, h => by
    have hi : i < l.length := by omega
    have := cStep (n := n) hi hl
    rw [List.drop_eq_getElem_cons hi, anyR_cons]
    cases hb : formR l[i] <;> rw [hb] at this
    · exact .at ctC_ok this (cLoop hl k (i + 1) (by omega))
    · exact .done this
theorem bLoop {n : Int} {l : List (List U)} (hl : l.length ≤ 400) (h2 : 2 ≤ n) (h3 : n ≤ 24) : ∀ (k i : Nat), i + k = l.length → EndZ 42 ctC false (stOf (sB n l i)) (iv (bc (anyR (badR n) (l.drop i)) 2 (bc (anyR formR l) 6 0))) [] 0
  | 0, i, h => by
    rw [List.drop_eq_nil_of_le (by omega)]
    exact .at ctC_ok (bLast (by omega)) (cLoop hl l.length 0 (by omega))
  | k + 1, i, h => by
    have hi : i < l.length := by omega
    have := bStep (n := n) hi hl h2 h3
    rw [List.drop_eq_getElem_cons hi, anyR_cons]
    cases hb : badR n l[i] <;> rw [hb] at this
    · exact .at ctC_ok this (bLoop hl h2 h3 k (i + 1) (by omega))
    · exact .done this
theorem aLoop {n : Int} {l : List (List U)} (hl : l.length ≤ 400) (h3 : n ≤ 24) : ∀ (k i : Nat), i + k = l.length → EndZ 42 ctC false (stOf (sA n l i)) (iv (bc (anyR longR (l.drop i)) 3 (bc (decide (n < 2)) 2 (bc (anyR (badR n) l) 2 (bc (anyR formR l) 6 0))))) [] 0
  | 0, i, h => by
    rw [List.drop_eq_nil_of_le (by omega)]
    have := aLast (n := n) (l := l) (i := i) (by omega)
    by_cases h2 : n < 2
    · rw [dt h2, bc_t] at this ⊢; exact .done this
    · rw [df h2, bc_f] at this ⊢; exact .at ctC_ok this (bLoop hl (by omega) h3 l.length 0 (by omega))
  | k + 1, i, h => by
    have hi : i < l.length := by omega
    have := aStep (n := n) hi hl
    rw [List.drop_eq_getElem_cons hi, anyR_cons]
    cases hb : longR l[i] <;> rw [hb] at this
    · exact .at ctC_ok this (aLoop hl h3 k (i + 1) (by omega))
    · exact .done this
theorem ends (n : Int) (l : List (List U)) : EndZ 42 ctC false (st0 42 [.agg [iv n, wl l]]) (iv (chk4 n l)) [] 0 := by
  have h := in_t n l
  unfold chk4
  by_cases h1 : 24 < n
  · simp only [dt h1, bc_t] at h ⊢; exact .done h
  by_cases h2 : 400 < (l.length : Int)
  · simp only [ofn, df h1, dt h2, bc_t, bc_f] at h ⊢; exact .done h
  · simp only [ofn, df h1, df h2, bc_f] at h ⊢
    exact .at ctC_ok h (aLoop (by omega) (by omega) l.length 0 (by omega))
end RChk4
noncomputable def spChk4 : ZCT := fun ax => match ax with
  | [.agg [.v (.int .i64 n), .lst (.recs [.int .i64, .int .i64, .str] l)]] => some ⟨decide (True), iv (chk4 n l), [], 0⟩
  | _ => none
theorem spChk4_ok : ZCtOk Try.prog 42 spChk4 := fun γ w us ax r hs hc hax hN hfz => by
  unfold spChk4 at hs
  split at hs
  case h_2 => cases hs
  rename_i n l
  obtain ⟨rfl⟩ := Option.some.inj hs
  have hc_0 : decide (True) = true := hc
  have hc := of_decide_eq_true hc_0
  exact EndZ.calls (RChk4.ends n l) ctC_ok (by kernel_rfl) hax hN hfz
end Go.Proofs.Ytkbebiebaenbdaa.Ev
namespace Go.Proofs.Ytkbebiebaenbdaa.Ev
open Go.RowKit
variable {P : Program} {γ γ' : G} {w0 : Bs} {w w' : World} {H H' : Tr EK} {n n' : Nat}
theorem HR.start (hN : ∀ i, γ i = none) (hfz : FzAt γ w) : HR γ (Bs.ofG w γ) .nil 0 w :=
  ⟨(fun i k hk => by cases hk), (fun i j ki kj hi => by cases hi), (fun i _ => hN i), (fun i hi => hi.elim), (fun i p hp => by rw [hN i] at hp; cases hp), ⟨rfl, rfl, rfl, Nat.le_refl _, fun _ _ => rfl⟩, FZ.init hfz⟩
theorem UOk.list_cases {fz : Nat → Option (Array Value)} {sh : List Sh} {u : U} {x : Value} (h : UOk fz (.list sh) u x) : (∃ a c, u.list = [] ∧ x = .slice a 0 c) ∨ ∃ k off c, x = .slice (some ⟨k, off, none⟩) u.list.length c ∧ u.list.length ≤ c ∧ c ≤ maxLen ∧ ∃ arr, fz k = some arr := by
  cases h with
  | empty _ _ a c hl hc hn => exact .inl ⟨a, c, hl, rfl⟩
  | list _ _ k off c arr hk hl hc hs hh => exact .inr ⟨k, off, c, rfl, hl, hc, arr, hk⟩
/-- a string so many times -/
noncomputable def zrep (s : ByteArray) (k : Nat) : ByteArray := ⟨(Lib.repeatL s.data.toList k).toArray⟩
noncomputable def zjoin (l : List ByteArray) (sep : ByteArray) : ByteArray := ⟨(Lib.join (l.map (·.data.toList)) sep.data.toList).toArray⟩
noncomputable def spRepeat : ZCT := fun ax => match ax with
  | [.v (.string s), .v (.int .i64 n)] => some ⟨bc (decide (0 ≤ n)) (bc (decide (n ≤ 65536)) (Nat.ble s.size 65536) false) false, .v (.string (zrep s n.toNat)), [], 0⟩
  | _ => none
theorem spRepeat_ok {f : FuncId} (h : ∀ (s : ByteArray) (c : Nat) (w : World), c ≤ 9223372036854775807 → s.size * c ≤ 140737488355328 → Calls P f #[.string s, .int .i64 c] w fun e w' => e = .returned (.string ⟨(Lib.repeatL s.data.toList c).toArray⟩) ∧ Below w.heap.size w w') : ZCtOk P f spRepeat := fun γ w us ax r hs hc hax hN hfz => by
  unfold spRepeat at hs
  split at hs
  case h_2 => cases hs
  rename_i s n
  obtain ⟨rfl⟩ := Option.some.inj hs
  obtain ⟨h1, hc⟩ := bcT (show bc (decide (0 ≤ n)) (bc (decide (n ≤ 65536)) (Nat.ble s.size 65536) false) false = true from hc)
  obtain ⟨h2, h3⟩ := bcT hc
  have h1 := of_decide_eq_true h1
  have h2 := of_decide_eq_true h2
  have h3 := Nat.le_of_ble_eq_true h3
  obtain ⟨x, r1, e1, hx, hc1⟩ := ECL.inv hax
  obtain ⟨y, r2, e2, hy, hc2⟩ := ECL.inv hc1
  have e3 : r2 = [] := by apply List.eq_nil_of_length_eq_zero; have := hc2.1; simpa using this.symm
  have hx := ec_v hx
  have hy := ec_v hy
  subst hx; subst hy; subst e3; subst e2
  obtain ⟨c, rfl⟩ : ∃ c : Nat, n = (c : Int) := ⟨n.toNat, by omega⟩
  have eu : us = #[.string s, .int .i64 (c : Int)] := by apply Array.ext'; simpa using e1
  rw [eu]
  refine (h s c w (by omega) (by have := Nat.mul_le_mul h3 (show c ≤ 65536 by omega); omega)).mono ?_
  rintro e w' ⟨rfl, hb⟩
  exact ⟨γ, _, rfl, .v _, (HR.start hN hfz).below hb⟩
noncomputable def spJoin : ZCT := fun ax => match ax with
  | [.lst (.strs l), .v (.string sep)] => some ⟨bc (Nat.ble l.length 65536) (Nat.ble (Lib.join (l.map (·.data.toList)) sep.data.toList).length 65536) false, .v (.string (zjoin l sep)), [], 0⟩
  | _ => none
theorem spJoin_ok {f : FuncId} (h0 : ∀ (a : Option Addr) (c : Nat) (sep : ByteArray) (w : World), Calls P f #[.slice a 0 c, .string sep] w fun e w' => e = .returned (.string ⟨#[]⟩) ∧ w' = w)
    (h : ∀ (bk o c : Nat) (xs : List ByteArray) (sep : ByteArray) (w : World), (∀ (j : Nat) x, xs[j]? = some x → w.cell? ⟨bk, o + j, none⟩ = some (.string x)) → bk < w.heap.size → xs.length ≤ 140737488355328 → xs.length ≤ c → (Lib.join (xs.map (·.data.toList)) sep.data.toList).length ≤ 140737488355328 →
      Calls P f #[.slice (some ⟨bk, o, none⟩) xs.length c, .string sep] w fun e w' => e = .returned (.string ⟨(Lib.join (xs.map (·.data.toList)) sep.data.toList).toArray⟩) ∧ Below w.heap.size w w') : ZCtOk P f spJoin := fun γ w us ax r hs hc hax hN hfz => by
  unfold spJoin at hs
  split at hs
  case h_2 => cases hs
  rename_i l sep
  obtain ⟨rfl⟩ := Option.some.inj hs
  obtain ⟨h1, h2⟩ := bcT (show bc (Nat.ble l.length 65536) (Nat.ble (Lib.join (l.map (·.data.toList)) sep.data.toList).length 65536) false = true from hc)
  have h1 := Nat.le_of_ble_eq_true h1
  have h2 := Nat.le_of_ble_eq_true h2
  obtain ⟨x, r1, e1, hx, hc1⟩ := ECL.inv hax
  obtain ⟨y, r2, e2, hy, hc2⟩ := ECL.inv hc1
  have e3 : r2 = [] := by apply List.eq_nil_of_length_eq_zero; have := hc2.1; simpa using this.symm
  have hy := ec_v hy
  subst hy; subst e3; subst e2
  have eu : us = #[x, .string sep] := by apply Array.ext'; simpa using e1
  rw [eu]
  cases hx with
  | lst _ _ hu =>
    have hlen : (SyC.strs l).rows.length = l.length := by simp [SyC.rows]
    have hget : ∀ (fz : Nat → Option (Array Value)) (k off c j : Nat), γ.fz = fz → UOk fz (.list (SyC.strs l).sh) (.l (SyC.strs l).rows) (.slice (some ⟨k, off, none⟩) (SyC.strs l).rows.length c) → ∀ s, l[j]? = some s → ∃ arr, fz k = some arr ∧ arr[off + j]? = some (.string s) := fun fz k off c j _ hu s hs => by
      have hj : j < (SyC.strs l).rows.length := by rw [hlen]; exact (List.getElem?_eq_some_iff.1 hs).1
      obtain ⟨arr, y, q1, q2, q3⟩ := UOk.get (f := 0) (s := .str) hu (show j < (U.list (.l (SyC.strs l).rows)).length from hj) rfl
      have q2 : arr[off + (j * 1 + 0)]? = some y := q2
      rw [show off + (j * 1 + 0) = off + j by omega] at q2
      refine ⟨arr, q1, ?_⟩
      rw [q2]
      have e : (((U.list (.l (SyC.strs l).rows)).getD j []).getD 0 (.i 0)).str = s := by
        show (((SyC.strs l).rows.getD j []).getD 0 (.i 0)).str = s
        simp [SyC.rows, List.getD_eq_getElem?_getD, hs]
        rfl
      cases q3 with
      | str => rw [e]
    rcases UOk.list_cases hu with ⟨a, c, hl, rfl⟩ | ⟨k, off, c, rfl, hlc, hcm, arr, hk⟩
    · have : l = [] := List.eq_nil_of_length_eq_zero (by rw [← hlen]; exact congrArg List.length hl)
      subst this
      refine (h0 a c sep w).mono ?_
      rintro e w' ⟨rfl, rfl⟩
      exact ⟨γ, _, rfl, .v _, HR.start hN hfz⟩
    · have hle : (U.l (SyC.strs l).rows).list.length = l.length := hlen
      obtain ⟨ty, fz, hb⟩ := hfz k arr hk
      have hkl : k < w.heap.size := (Array.getElem?_eq_some_iff.1 hb).1
      have hcells : ∀ (j : Nat) s, l[j]? = some s → w.cell? ⟨k, off + j, none⟩ = some (.string s) := fun j s hs => by
        obtain ⟨arr2, q1, q2⟩ := hget γ.fz k off c j rfl hu s hs
        rw [hk] at q1; injection q1 with q1; subst q1
        simp [World.cell?, hb, q2]
      rw [hle] at hlc
      have := h k off c l sep w hcells hkl (by omega) hlc (by omega)
      rw [← hle] at this
      refine this.mono ?_
      rintro e w' ⟨rfl, hbw⟩
      exact ⟨γ, _, rfl, .v _, (HR.start hN hfz).below hbw⟩
end Go.Proofs.Ytkbebiebaenbdaa.Ev
namespace Go.Proofs.Ytkbebiebaenbdaa.Ev
open Go.Proofs
theorem byteAt_lo (s : ByteArray) (i : Nat) : 0 ≤ byteAt s i := by unfold byteAt; exact Int.natCast_nonneg _
theorem byteAt_hi (s : ByteArray) (i : Nat) : byteAt s i < 256 := by
  unfold byteAt
  have := (s.data.toList.getD i 0).toNat_lt
  show ((s.data.toList.getD i 0).toNat : Int) < 256
  omega
theorem idxB_lib (s : ByteArray) (b : UInt8) : ∀ (k i : Nat), i + k = s.size → idxB s (b.toNat : Int) i k = if Lib.indexByte (s.data.toList.drop i) b = -1 then -1 else Lib.indexByte (s.data.toList.drop i) b + i
  | 0, i, h => by
    rw [List.drop_eq_nil_of_le (by have : s.data.toList.length = s.size := by rw [Array.length_toList]; rfl
                                   omega)]
    rfl
  | k + 1, i, h => by
    have hl : s.data.toList.length = s.size := by rw [Array.length_toList]; rfl
    have hi : i < s.data.toList.length := by omega
    rw [List.drop_eq_getElem_cons hi]
    unfold idxB
    rw [idxB_lib s b k (i + 1) (by omega)]
    have e : (byteAt s i == (b.toNat : Int)) = (s.data.toList[i] == b) := by
      unfold byteAt
      rw [getD_at hi]
      apply Bool.eq_iff_iff.2
      simp only [beq_iff_eq]
      constructor
      · intro h; exact UInt8.toNat_inj.1 (by have h : ((s.data.toList[i]).toNat : Int) = b.toNat := h; omega)
      · intro h; rw [h]; rfl
    rw [e]
    rw [show Lib.indexByte (s.data.toList[i] :: s.data.toList.drop (i + 1)) b = if (s.data.toList[i] == b) = true then 0 else if (Lib.indexByte (s.data.toList.drop (i + 1)) b == -1) = true then -1 else Lib.indexByte (s.data.toList.drop (i + 1)) b + 1 from rfl]
    have ge := Lib.indexByte_ge (s.data.toList.drop (i + 1)) b
    by_cases h1 : (s.data.toList[i] == b) = true
    · rw [h1]; simp [bc]
    · have h1 : (s.data.toList[i] == b) = false := by simpa using h1
      rw [h1]
      by_cases h2 : Lib.indexByte (s.data.toList.drop (i + 1)) b = -1
      · simp [bc, h2]
      · have h3 : (Lib.indexByte (s.data.toList.drop (i + 1)) b == -1) = false := by simpa using h2
        simp only [bc, h3, if_neg h2]
        rw [if_neg (by simp; omega)]
        simp
        omega
theorem idx_lib (s : ByteArray) (c : Int) (h1 : 0 ≤ c) (h2 : c < 256) : Lib.indexByte s.data.toList c.toNat.toUInt8 = idx s c := by
  have e : ((c.toNat.toUInt8).toNat : Int) = c := by
    have : c.toNat % 256 = c.toNat := Nat.mod_eq_of_lt (by omega)
    show ((c.toNat % 256 : Nat) : Int) = c
    omega
  unfold idx
  rw [← e, idxB_lib s _ s.size 0 (by omega), List.drop_zero, e]
  split
  · rename_i h; rw [h]
  · simp
noncomputable def spIB : ZCT := fun ax => match ax with
  | [.v (.string s), .v (.int .u8 c)] => some ⟨bc (decide (0 ≤ c)) (decide (c < 256)) false, iv (idx s c), [], 0⟩
  | _ => none
theorem spIB_ok : ZCtOk Try.prog 117 spIB := fun γ w us ax r hs hc hax hN hfz => by
  unfold spIB at hs
  split at hs
  case h_2 => cases hs
  rename_i s c
  obtain ⟨rfl⟩ := Option.some.inj hs
  obtain ⟨h1, h2⟩ := bcT (show bc (decide (0 ≤ c)) (decide (c < 256)) false = true from hc)
  have h1 := of_decide_eq_true h1
  have h2 := of_decide_eq_true h2
  obtain ⟨x, r1, e1, hx, hc1⟩ := ECL.inv hax
  obtain ⟨y, r2, e2, hy, hc2⟩ := ECL.inv hc1
  have e3 : r2 = [] := by apply List.eq_nil_of_length_eq_zero; have := hc2.1; simpa using this.symm
  have hx := ec_v hx
  have hy := ec_v hy
  subst hx; subst hy; subst e3; subst e2
  have eu : us = #[.string s, .int .u8 c] := by apply Array.ext'; simpa using e1
  rw [eu]
  refine (Try.strings_IndexByte s c w).mono ?_
  rintro e w' ⟨rfl, rfl⟩
  exact ⟨γ, _, rfl, by rw [idx_lib s c h1 h2]; exact .v _, HR.start hN hfz⟩
noncomputable def ctP1 : Tr ZCC := Tr.nil.put 117 (some (dC spIB))
theorem ctP1_ok : ZCtsOk Try.prog ctP1 := (ZCtsOk.nil _).add rfl spIB_ok
/-! ### Check of a word -/
namespace PChk3
noncomputable def RUN (s : ES) : ZF := RZ 99 ctP1 (atS 0 99 4) [] [[(0,none),(8,none),(9,none)]] false s

noncomputable def sC (s : ByteArray) (i : Int) : NS := ⟨[⟨99, 18, [(0, (EV.v (Value.string (s)))), (8, (EV.v (Value.int IntKind.i64 (Int.ofNat (ByteArray.size s))))), (9, iv i)], [.it (.code (nav [1, 1, 0, 1, 0, 0] (bodyOf Try.f99))), .it (.inLoop (nav [1, 1, 0, 1, 0, 0] (bodyOf Try.f99))), .it (.inBlock 0), .it (.code (nav [1, 1, 1] (bodyOf Try.f99)))], [], Option.none⟩], [], 0⟩
theorem in_t (s : ByteArray) : RUN (st0 99 [sv s]) = (bc (Decidable.decide ((16 : Int) < Int.ofNat (ByteArray.size s)))
  (.done (EV.v (Value.int IntKind.i64 (3))) [] 0)
  (.at (sC (s) ((0 : Int))))) := by kernel_rfl
theorem step_t (s : ByteArray) (i : Int) : RUN (stOf (sC s i)) = (bc (Decidable.decide (i < Int.ofNat (ByteArray.size s)))
  (bc (bc (bc (Decidable.decide ((0 : Int) ≤ i)) (Nat.blt (Int.toNat i) (ByteArray.size s)) Bool.false) Bool.true Bool.false)
    (bc (bc (Decidable.decide (byteAt s (Int.toNat i) < (256 : Int))) Bool.true Bool.false)
      (bc (Decidable.decide (idx { data := #[(67 : UInt8), (84 : UInt8), (76 : UInt8), (82 : UInt8), (80 : UInt8), (99 : UInt8), (116 : UInt8), (108 : UInt8), (114 : UInt8)] } (byteAt s (Int.toNat i)) < (0 : Int)))
        (.done (EV.v (Value.int IntKind.i64 (6))) [] 0)
        (.at (sC (s) (IntKind.wrap IntKind.i64 (i + (1 : Int))))))
      .bad)
    .bad)
  (.done (EV.v (Value.int IntKind.i64 (0))) [] 0)) := by kernel_rfl
theorem step {s : ByteArray} {i : Nat} (hi : i < s.size) (hs : s.size ≤ 1000) : RUN (stOf (sC s i)) = bc (decide (idx bLet (byteAt s i) < 0)) (.done (iv 6) [] 0) (.at (sC s (i + 1 : Nat))) := by
  rw [step_t]
  have h1 := byteAt_lo s i
  have h2 := byteAt_hi s i
  simp (disch := omega) only [Nat.add_eq, eqSy_self, eqN_self, bc_same, List.length_cons, ofn, wrap_in, dt, df, bltD, bltN, ble_of, bleN, beqD, bc_t, bc_f, nn_ok, Nat.zero_add, to_nat, Int.zero_add, Int.sub_zero, Int.sub_self, Int.cast_ofNat_Int, Int.natCast_zero, Int.toNat_zero, List.take_zero, List.nil_append, List.length_append, List.length_nil]
  rfl
theorem last {s : ByteArray} {i : Nat} (hi : s.size ≤ i) : RUN (stOf (sC s i)) = .done (iv 0) [] 0 := by
  rw [step_t]
  simp (disch := omega) only [Nat.add_eq, eqSy_self, eqN_self, bc_same, List.length_cons, ofn, wrap_in, dt, df, bltD, bltN, ble_of, bleN, beqD, bc_t, bc_f, nn_ok, Nat.zero_add, to_nat, Int.zero_add, Int.sub_zero, Int.sub_self, Int.cast_ofNat_Int, Int.natCast_zero, Int.toNat_zero, List.take_zero, List.nil_append, List.length_append, List.length_nil]
theorem loop {s : ByteArray} (hs : s.size ≤ 1000) : ∀ (k i : Nat), i + k = s.size → EndZ 99 ctP1 false (stOf (sC s i)) (iv (bc (badF s i k) 6 0)) [] 0
  | 0, i, h => .done (last (by omega))
  | k + 1, i, h => by
    have := step (show i < s.size by omega) hs
    unfold badF
    cases hb : decide (idx bLet (byteAt s i) < 0) <;> rw [hb] at this
    · exact .at ctP1_ok this (loop hs k (i + 1) (by omega))
    · exact .done this
theorem ends (s : ByteArray) : EndZ 99 ctP1 false (st0 99 [sv s]) (iv (chk3 s)) [] 0 := by
  have h := in_t s
  unfold chk3
  by_cases h1 : 16 < (s.size : Int)
  · simp only [ofn, dt h1, bc_t] at h ⊢; exact .done h
  · simp only [ofn, df h1, bc_f] at h ⊢
    exact .at ctP1_ok h (loop (by omega) s.size 0 (by omega))
end PChk3
noncomputable def spPChk3 : ZCT := fun ax => match ax with
  | [.v (.string s)] => some ⟨decide (True), iv (chk3 s), [], 0⟩
  | _ => none
theorem spPChk3_ok : ZCtOk Try.prog 99 spPChk3 := fun γ w us ax r hs hc hax hN hfz => by
  unfold spPChk3 at hs
  split at hs
  case h_2 => cases hs
  rename_i s
  obtain ⟨rfl⟩ := Option.some.inj hs
  have hc_0 : decide (True) = true := hc
  have hc := of_decide_eq_true hc_0
  exact EndZ.calls (PChk3.ends s) ctP1_ok (by kernel_rfl) hax hN hfz
noncomputable def ctP2 : Tr ZCC := ctP1.put 99 (some (dC spPChk3))
theorem ctP2_ok : ZCtsOk Try.prog ctP2 := ctP1_ok.add rfl spPChk3_ok
/-! ### is there a long word? -/
namespace PAny
noncomputable def RUN (s : ES) : ZF := RZ 118 .nil (atS 0 118 2) [] [[(0,none),(1,none),(7,none),(8,none)]] false s
noncomputable abbrev args (l : List (List U)) : List EV := [wl l, .fn 98 []]

noncomputable def sF (l : List (List U)) (i : Int) : NS := ⟨[⟨118, 19, [(0, (EV.lst (SyC.recs [(Sh.int IntKind.i64), (Sh.int IntKind.i64), Sh.str] (l)))), (1, (EV.fn 98 [])), (7, (EV.v (Value.int IntKind.i64 (Int.ofNat (List.length l))))), (8, iv i)], [.it (.code (nav [1, 0, 1, 0, 0] (bodyOf Try.f118))), .it (.inLoop (nav [1, 0, 1, 0, 0] (bodyOf Try.f118))), .it (.inBlock 0), .it (.code (nav [1, 1] (bodyOf Try.f118)))], [], Option.none⟩], [], 0⟩
theorem in_t (l : List (List U)) : RUN (st0 118 (args l)) = (.at (sF (l) ((0 : Int)))) := by kernel_rfl
theorem step_t (l : List (List U)) (i : Int) : RUN (stOf (sF l i)) = (bc (Decidable.decide (i < Int.ofNat (List.length l)))
  (bc (bc (bc (Decidable.decide ((0 : Int) ≤ i)) (Nat.blt (Int.toNat i) (List.length l)) Bool.false) Bool.true Bool.false)
    (bc (bc (Nat.blt (Int.toNat i) (List.length l)) Bool.true Bool.false)
      (bc (Decidable.decide ((16 : Int) < Int.ofNat (ByteArray.size (U.str (List.getD (List.getD l (Int.toNat i) []) (Nat.succ (Nat.succ (0 : Nat))) (U.i (0 : Int)))))))
        (.done (EV.v (Value.int IntKind.i64 (i))) [] 0)
        (.at (sF (l) (IntKind.wrap IntKind.i64 (i + (1 : Int))))))
      .bad)
    .bad)
  (.done (EV.v (Value.int IntKind.i64 (-1))) [] 0)) := by kernel_rfl
noncomputable def at' (l : List (List U)) (i : Nat) : List (List U) → Int
  | [] => -1
  | r :: q => bc (longR r) (i : Int) (at' l (i + 1) q)
theorem step {l : List (List U)} {i : Nat} (hi : i < l.length) (hl : l.length ≤ 100000) : RUN (stOf (sF l i)) = bc (longR l[i]) (.done (iv i) [] 0) (.at (sF l (i + 1 : Nat))) := by
  rw [step_t]
  have e : l.getD i [] = l[i] := getD_at hi
  simp (disch := omega) only [Nat.add_eq, eqSy_self, eqN_self, bc_same, List.length_cons, ofn, wrap_in, dt, df, bltD, bltN, ble_of, bleN, beqD, bc_t, bc_f, nn_ok, Nat.zero_add, to_nat, Int.zero_add, Int.sub_zero, Int.sub_self, Int.cast_ofNat_Int, Int.natCast_zero, Int.toNat_zero, List.take_zero, List.nil_append, List.length_append, List.length_nil, e, fK0, fK1, fA0, fA1, fA2, fW0, fW1, fW2]
  rfl
theorem last {l : List (List U)} {i : Nat} (hi : l.length ≤ i) : RUN (stOf (sF l i)) = .done (iv (-1)) [] 0 := by
  rw [step_t]
  simp (disch := omega) only [Nat.add_eq, eqSy_self, eqN_self, bc_same, List.length_cons, ofn, wrap_in, dt, df, bltD, bltN, ble_of, bleN, beqD, bc_t, bc_f, nn_ok, Nat.zero_add, to_nat, Int.zero_add, Int.sub_zero, Int.sub_self, Int.cast_ofNat_Int, Int.natCast_zero, Int.toNat_zero, List.take_zero, List.nil_append, List.length_append, List.length_nil]
theorem loop {l : List (List U)} (hl : l.length ≤ 100000) : ∀ (k i : Nat), i + k = l.length → EndZ 118 .nil false (stOf (sF l i)) (iv (at' l i (l.drop i))) [] 0
  | 0, i, h => by
    rw [List.drop_eq_nil_of_le (by omega)]
    exact .done (last (by omega))
  | k + 1, i, h => by
    have hi : i < l.length := by omega
    have := step hi hl
    rw [List.drop_eq_getElem_cons hi]
    unfold at'
    cases hb : longR l[i] <;> rw [hb] at this
    · exact .at (.nil _) this (loop hl k (i + 1) (by omega))
    · exact .done this
theorem sign (l : List (List U)) : ∀ (q : List (List U)) (i : Nat), decide (0 ≤ at' l i q) = anyR longR q
  | [], i => rfl
  | r :: q, i => by
    rw [anyR_cons]
    unfold at'
    cases longR r
    · exact sign l q (i + 1)
    · exact dt (Int.natCast_nonneg i)
end PAny
noncomputable def spIxF : ZCT := fun ax => match ax with
  | [.lst (.recs [.int .i64, .int .i64, .str] l), .fn 98 []] => some ⟨decide (l.length ≤ 100000), iv (PAny.at' l 0 l), [], 0⟩
  | _ => none
theorem spIxF_ok : ZCtOk Try.prog 118 spIxF := fun γ w us ax r hs hc hax hN hfz => by
  unfold spIxF at hs
  split at hs
  case h_2 => cases hs
  rename_i l
  obtain ⟨rfl⟩ := Option.some.inj hs
  have hc_0 : decide (l.length ≤ 100000) = true := hc
  have hc := of_decide_eq_true hc_0
  exact EndZ.calls (.at (.nil _) (PAny.in_t l) (PAny.loop hc l.length 0 (by omega))) (.nil _) (by kernel_rfl) hax hN hfz
noncomputable def ctP3 : Tr ZCC := ctP2.put 118 (some (dC spIxF))
theorem ctP3_ok : ZCtsOk Try.prog ctP3 := ctP2_ok.add rfl spIxF_ok
/-! ### Check of a sheet -/
namespace PChk4
noncomputable def RUN (s : ES) : ZF := RZ 69 ctP3 (atS 0 69 7) [] [[(1,none),(3,none),(24,none),(25,none),(26,none)]] false s

noncomputable def sB (n : Int) (l : List (List U)) (f i : Int) : NS := ⟨[⟨69, 63, [(1, (EV.ptr 0 0)), (3, iv f), (24, (EV.lst (SyC.recs [(Sh.int IntKind.i64), (Sh.int IntKind.i64), Sh.str] (l)))), (25, (EV.v (Value.int IntKind.i64 (Int.ofNat (List.length l))))), (26, iv i)], [.it (.code (nav [1, 1, 1, 1, 0, 1, 0, 0] (bodyOf Try.f69))), .it (.inLoop (nav [1, 1, 1, 1, 0, 1, 0, 0] (bodyOf Try.f69))), .it (.inBlock 0), .it (.code (nav [1, 1, 1, 1, 1] (bodyOf Try.f69)))], [], Option.none⟩], [(0, (EK.cells 24 [(EV.v (Value.int IntKind.i64 (n))), (EV.lst (SyC.recs [(Sh.int IntKind.i64), (Sh.int IntKind.i64), Sh.str] (l)))] true))], 1⟩
theorem in_t (n : Int) (l : List (List U)) : RUN (st0 69 [.agg [iv n, wl l]]) = (bc (Decidable.decide ((24 : Int) < n))
  (.done (EV.v (Value.int IntKind.i64 (3))) [] 0)
  (bc (Decidable.decide ((400 : Int) < Int.ofNat (List.length l)))
    (.done (EV.v (Value.int IntKind.i64 (3))) [] 0)
    (bc (bc (Decidable.decide (List.length l ≤ (100000 : Nat))) Bool.true Bool.false)
      (bc (Decidable.decide ((0 : Int) ≤ PAny.at' l (0 : Nat) l))
        (.done (EV.v (Value.int IntKind.i64 (3))) [] 0)
        (bc (Decidable.decide (n < (2 : Int)))
          (.done (EV.v (Value.int IntKind.i64 (2))) [] 0)
          (.at (sB (n) (l) ((0 : Int)) ((0 : Int))))))
      .bad))) := by kernel_rfl
theorem b_t (n : Int) (l : List (List U)) (f i : Int) : RUN (stOf (sB n l f i)) = (bc (Decidable.decide (i < Int.ofNat (List.length l)))
  (bc (bc (bc (Decidable.decide ((0 : Int) ≤ i)) (Nat.blt (Int.toNat i) (List.length l)) Bool.false) Bool.true Bool.false)
    (bc (bc (Nat.blt (Int.toNat i) (List.length l)) Bool.true Bool.false)
      (bc (U.int (List.getD (List.getD l (Int.toNat i) []) (0 : Nat) (U.i (0 : Int))) != (1 : Int))
        (bc (U.int (List.getD (List.getD l (Int.toNat i) []) (0 : Nat) (U.i (0 : Int))) != (2 : Int))
          (.done (EV.v (Value.int IntKind.i64 (2))) [] 0)
          (bc (!ByteArray.toList (U.str (List.getD (List.getD l (Int.toNat i) []) (Nat.succ (Nat.succ (0 : Nat))) (U.i (0 : Int)))) == ByteArray.toList { data := #[] })
            (.done (EV.v (Value.int IntKind.i64 (2))) [] 0)
            (bc (Decidable.decide (U.int (List.getD (List.getD l (Int.toNat i) []) (Nat.succ (0 : Nat)) (U.i (0 : Int))) < (0 : Int)))
              (.done (EV.v (Value.int IntKind.i64 (2))) [] 0)
              (bc (Decidable.decide (IntKind.wrap IntKind.i64 (n - (2 : Int)) < U.int (List.getD (List.getD l (Int.toNat i) []) (Nat.succ (0 : Nat)) (U.i (0 : Int)))))
                (.done (EV.v (Value.int IntKind.i64 (2))) [] 0)
                (.at (sB (n) (l) (if chk3 (U.str (List.getD (List.getD l (Int.toNat i) []) (Nat.succ (Nat.succ (0 : Nat))) (U.i (0 : Int)))) > f then chk3 (U.str (List.getD (List.getD l (Int.toNat i) []) (Nat.succ (Nat.succ (0 : Nat))) (U.i (0 : Int)))) else f) (IntKind.wrap IntKind.i64 (i + (1 : Int)))))))))
        (bc (Decidable.decide (U.int (List.getD (List.getD l (Int.toNat i) []) (Nat.succ (0 : Nat)) (U.i (0 : Int))) < (0 : Int)))
          (.done (EV.v (Value.int IntKind.i64 (2))) [] 0)
          (bc (Decidable.decide (IntKind.wrap IntKind.i64 (n - (2 : Int)) < U.int (List.getD (List.getD l (Int.toNat i) []) (Nat.succ (0 : Nat)) (U.i (0 : Int)))))
            (.done (EV.v (Value.int IntKind.i64 (2))) [] 0)
            (.at (sB (n) (l) (if chk3 (U.str (List.getD (List.getD l (Int.toNat i) []) (Nat.succ (Nat.succ (0 : Nat))) (U.i (0 : Int)))) > f then chk3 (U.str (List.getD (List.getD l (Int.toNat i) []) (Nat.succ (Nat.succ (0 : Nat))) (U.i (0 : Int)))) else f) (IntKind.wrap IntKind.i64 (i + (1 : Int))))))))
      .bad)
    .bad)
  (.done (EV.v (Value.int IntKind.i64 (f))) [] 0)) := by kernel_rfl
noncomputable def badP (n : Int) (r : List U) : Bool := bc (rK r != 1)
  (bc (rK r != 2) true (bc (!((rW r).toList == (ByteArray.mk #[]).toList)) true (bc (decide (rA r < 0)) true (bc (decide (n - 2 < rA r)) true false))))
  (bc (decide (rA r < 0)) true (bc (decide (n - 2 < rA r)) true false))
theorem badP_eq (n : Int) (r : List U) : badP n r = badR n r := by
  unfold badP badR
  by_cases h1 : rK r = 1
  · have e1 : (rK r != 1) = false := by simp [h1]
    have e2 : (rK r == 2) = false := by simp [h1]
    rw [e1, e2]; simp only [bc_f]
  · have e1 : (rK r != 1) = true := by simp [h1]
    by_cases h2 : rK r = 2
    · have e2 : (rK r != 2) = false := by simp [h2]
      have e3 : (rK r == 2) = true := by simp [h2]
      rw [e1, e2, e3]
      simp only [bc_t, bc_f]
      cases decide (rA r < 0) <;> cases decide (n - 2 < rA r) <;> cases ((rW r).toList == (ByteArray.mk #[]).toList) <;> rfl
    · have e2 : (rK r != 2) = true := by simp [h2]
      rw [e1, e2]; simp only [bc_t]
theorem step {n f : Int} {l : List (List U)} {i : Nat} (hi : i < l.length) (hl : l.length ≤ 400) (h2 : 2 ≤ n) (h3 : n ≤ 24) : RUN (stOf (sB n l f i)) = bc (badR n l[i]) (.done (iv 2) [] 0) (.at (sB n l (if chk3 (rW l[i]) > f then chk3 (rW l[i]) else f) (i + 1 : Nat))) := by
  rw [b_t, ← badP_eq]
  have e : l.getD i [] = l[i] := getD_at hi
  unfold badP
  simp (disch := omega) only [Nat.add_eq, eqSy_self, eqN_self, bc_same, List.length_cons, ofn, wrap_in, dt, df, bltD, bltN, ble_of, bleN, beqD, bc_t, bc_f, nn_ok, Nat.zero_add, to_nat, Int.zero_add, Int.sub_zero, Int.sub_self, Int.cast_ofNat_Int, Int.natCast_zero, Int.toNat_zero, List.take_zero, List.nil_append, List.length_append, List.length_nil, e, fK0, fK1, fA0, fA1, fA2, fW0, fW1, fW2, bc_bc]
  rfl
theorem last {n f : Int} {l : List (List U)} {i : Nat} (hi : l.length ≤ i) : RUN (stOf (sB n l f i)) = .done (iv f) [] 0 := by
  rw [b_t]
  simp (disch := omega) only [Nat.add_eq, eqSy_self, eqN_self, bc_same, List.length_cons, ofn, wrap_in, dt, df, bltD, bltN, ble_of, bleN, beqD, bc_t, bc_f, nn_ok, Nat.zero_add, to_nat, Int.zero_add, Int.sub_zero, Int.sub_self, Int.cast_ofNat_Int, Int.natCast_zero, Int.toNat_zero, List.take_zero, List.nil_append, List.length_append, List.length_nil]
theorem form_step {r : List U} {f : Int} (hr : longR r = false) (hf : f = 0 ∨ f = 6) : (if chk3 (rW r) > f then chk3 (rW r) else f) = bc (formR r) 6 f := by
  unfold longR at hr
  unfold formR chk3
  rw [hr, bc_f]
  cases badF (rW r) 0 (rW r).size
  · rw [bc_f]
    have e : ((0 : Int) != 0) = false := rfl
    rw [e, bc_f]
    rcases hf with rfl | rfl <;> rfl
  · rw [bc_t]
    have e : ((6 : Int) != 0) = true := rfl
    rw [e, bc_t]
    rcases hf with rfl | rfl <;> rfl
theorem loop {n : Int} {l : List (List U)} (hl : l.length ≤ 400) (h2 : 2 ≤ n) (h3 : n ≤ 24) : ∀ (k i : Nat) (f : Int), i + k = l.length → anyR longR (l.drop i) = false → f = 0 ∨ f = 6 → EndZ 69 ctP3 false (stOf (sB n l f i)) (iv (bc (anyR (badR n) (l.drop i)) 2 (bc (anyR formR (l.drop i)) 6 f))) [] 0
  | 0, i, f, h, _, _ => by
    rw [List.drop_eq_nil_of_le (by omega)]
    exact .done (last (by omega))
  | k + 1, i, f, h, hg, hf => by
    have hi : i < l.length := by omega
    have := step (n := n) (f := f) hi hl h2 h3
    rw [List.drop_eq_getElem_cons hi] at hg ⊢
    rw [anyR_cons] at hg
    rw [anyR_cons, anyR_cons]
    cases hlr : longR l[i] with
    | true => rw [hlr, bc_t] at hg; cases hg
    | false =>
      rw [hlr, bc_f] at hg
      rw [form_step hlr hf] at this
      cases hb : badR n l[i] <;> rw [hb] at this
      · rw [bc_f] at this
        have key := loop hl h2 h3 k (i + 1) (bc (formR l[i]) 6 f) (by omega) hg (by cases formR l[i]; exact hf; exact .inr rfl)
        have e : bc (anyR formR (l.drop (i + 1))) 6 (bc (formR l[i]) 6 f) = bc (bc (formR l[i]) true (anyR formR (l.drop (i + 1)))) 6 f := by
          cases formR l[i] <;> cases anyR formR (l.drop (i + 1)) <;> rfl
        rw [e] at key
        exact .at ctP3_ok this key
      · exact .done this
theorem ends (n : Int) (l : List (List U)) : EndZ 69 ctP3 false (st0 69 [.agg [iv n, wl l]]) (iv (chk4 n l)) [] 0 := by
  have h := in_t n l
  rw [PAny.sign] at h
  unfold chk4
  by_cases h1 : 24 < n
  · simp only [dt h1, bc_t] at h ⊢; exact .done h
  by_cases h2 : 400 < (l.length : Int)
  · simp only [ofn, df h1, dt h2, bc_t, bc_f] at h ⊢; exact .done h
  have h3 : l.length ≤ 100000 := by omega
  simp only [ofn, df h1, df h2, dt h3, bc_f, bc_t] at h ⊢
  cases h4 : anyR longR l <;> rw [h4] at h
  · by_cases h5 : n < 2
    · simp only [dt h5, bc_f, bc_t] at h ⊢; exact .done h
    · simp only [df h5, bc_f] at h ⊢
      exact .at ctP3_ok h (loop (by omega) (by omega) (by omega) l.length 0 0 (by omega) h4 (.inl rfl))
  · exact .done h
end PChk4
noncomputable def spPChk4 : ZCT := fun ax => match ax with
  | [.agg [.v (.int .i64 n), .lst (.recs [.int .i64, .int .i64, .str] l)]] => some ⟨decide (True), iv (chk4 n l), [], 0⟩
  | _ => none
theorem spPChk4_ok : ZCtOk Try.prog 69 spPChk4 := fun γ w us ax r hs hc hax hN hfz => by
  unfold spPChk4 at hs
  split at hs
  case h_2 => cases hs
  rename_i n l
  obtain ⟨rfl⟩ := Option.some.inj hs
  have hc_0 : decide (True) = true := hc
  have hc := of_decide_eq_true hc_0
  exact EndZ.calls (PChk4.ends n l) ctP3_ok (by kernel_rfl) hax hN hfz
end Go.Proofs.Ytkbebiebaenbdaa.Ev
namespace Go.Proofs.Ytkbebiebaenbdaa.Ev
open Go.Proofs
theorem anyR_false {p : List U → Bool} : ∀ {l : List (List U)}, anyR p l = false → ∀ r, r ∈ l → p r = false
  | [], _, r, h => by simp at h
  | x :: l, h, r, hr => by
    rw [anyR_cons] at h
    cases hx : p x with
    | true => rw [hx, bc_t] at h; cases h
    | false =>
      rw [hx, bc_f] at h
      rcases List.mem_cons.1 hr with rfl | hr
      · exact hx
      · exact anyR_false h r hr
theorem anyR_of {p : List U → Bool} : ∀ {l : List (List U)}, (∀ r, r ∈ l → p r = false) → anyR p l = false
  | [], _ => rfl
  | x :: l, h => by
    rw [anyR_cons, h x (by simp), bc_f]
    exact anyR_of fun r hr => h r (by simp [hr])
/-- a work of a sheet of n pairs -/
structure ValR (n : Int) (r : List U) : Prop where
  kind : rK r = 1 ∨ rK r = 2
  lo : 0 ≤ rA r
  hi : rA r ≤ n - 2
  sew : rK r = 2 → (rW r).toList = (ByteArray.mk #[]).toList
  long : (rW r).size ≤ 16
  form : badF (rW r) 0 (rW r).size = false
theorem chk3_ok {w : ByteArray} (h : chk3 w = 0) : w.size ≤ 16 ∧ badF w 0 w.size = false := by
  unfold chk3 at h
  by_cases h1 : 16 < (w.size : Int)
  · rw [dt h1, bc_t] at h; cases h
  · rw [df h1, bc_f] at h
    refine ⟨by omega, ?_⟩
    cases hb : badF w 0 w.size
    · rfl
    · rw [hb, bc_t] at h; cases h
theorem chk3_of {w : ByteArray} (h1 : w.size ≤ 16) (h2 : badF w 0 w.size = false) : chk3 w = 0 := by
  unfold chk3
  rw [df (by omega), bc_f, h2, bc_f]
theorem badR_false {n : Int} {r : List U} (h : badR n r = false) : (rK r = 1 ∨ rK r = 2) ∧ 0 ≤ rA r ∧ rA r ≤ n - 2 ∧ (rK r = 2 → (rW r).toList = (ByteArray.mk #[]).toList) := by
  unfold badR at h
  by_cases h1 : rK r = 1
  · rw [show (rK r != 1) = false by simp [h1], bc_f] at h
    by_cases h2 : rA r < 0
    · rw [dt h2, bc_t] at h; cases h
    rw [df h2, bc_f] at h
    by_cases h3 : n - 2 < rA r
    · rw [dt h3, bc_t] at h; cases h
    exact ⟨.inl h1, by omega, by omega, fun h4 => by omega⟩
  · rw [show (rK r != 1) = true by simp [h1], bc_t] at h
    by_cases h0 : rK r = 2
    · rw [show (rK r != 2) = false by simp [h0], bc_f] at h
      by_cases h2 : rA r < 0
      · rw [dt h2, bc_t] at h; cases h
      rw [df h2, bc_f] at h
      by_cases h3 : n - 2 < rA r
      · rw [dt h3, bc_t] at h; cases h
      rw [df h3, bc_f, show (rK r == 2) = true by simp [h0], bc_t] at h
      refine ⟨.inr h0, by omega, by omega, fun _ => ?_⟩
      cases h4 : ((rW r).toList == (ByteArray.mk #[]).toList) with
      | true => simpa using h4
      | false => rw [h4] at h; cases h
    · rw [show (rK r != 2) = true by simp [h0], bc_t] at h; cases h
theorem badR_of {n : Int} {r : List U} (h : ValR n r) : badR n r = false := by
  have g1 := h.lo
  have g2 := h.hi
  unfold badR
  rcases h.kind with h1 | h1
  · rw [show (rK r != 1) = false by simp [h1], bc_f, df (by omega), bc_f, df (by omega), bc_f, show (rK r == 2) = false by simp [h1], bc_f]
  · rw [show (rK r != 1) = true by simp [h1], bc_t, show (rK r != 2) = false by simp [h1], bc_f, df (by omega), bc_f, df (by omega), bc_f, show (rK r == 2) = true by simp [h1], bc_t, h.sew h1]
    simp [bc]
/-- a sheet that is checked -/
structure ValS (n : Int) (l : List (List U)) : Prop where
  lo : 2 ≤ n
  hi : n ≤ 24
  len : l.length ≤ 400
  val : ∀ r, r ∈ l → ValR n r
theorem chk4_ok {n : Int} {l : List (List U)} (h : chk4 n l = 0) : ValS n l := by
  unfold chk4 at h
  by_cases h1 : 24 < n
  · rw [dt h1, bc_t] at h; cases h
  rw [df h1, bc_f] at h
  by_cases h2 : 400 < (l.length : Int)
  · rw [dt h2, bc_t] at h; cases h
  rw [df h2, bc_f] at h
  cases h3 : anyR longR l with
  | true => rw [h3, bc_t] at h; cases h
  | false =>
    rw [h3, bc_f] at h
    by_cases h4 : n < 2
    · rw [dt h4, bc_t] at h; cases h
    rw [df h4, bc_f] at h
    cases h5 : anyR (badR n) l with
    | true => rw [h5, bc_t] at h; cases h
    | false =>
      rw [h5, bc_f] at h
      cases h6 : anyR formR l with
      | true => rw [h6, bc_t] at h; cases h
      | false =>
        refine ⟨by omega, by omega, by omega, fun r hr => ?_⟩
        obtain ⟨k1, k2, k3, k4⟩ := badR_false (anyR_false h5 r hr)
        have k5 := anyR_false h6 r hr
        unfold formR at k5
        obtain ⟨k6, k7⟩ := chk3_ok (w := rW r) (by simpa using k5)
        exact ⟨k1, k2, k3, k4, k6, k7⟩
theorem chk4_of {n : Int} {l : List (List U)} (h : ValS n l) : chk4 n l = 0 := by
  have g1 := h.lo
  have g2 := h.hi
  have g3 := h.len
  unfold chk4
  rw [df (by omega), bc_f, df (by omega), bc_f, anyR_of fun r hr => ?_, bc_f, df (by omega), bc_f, anyR_of fun r hr => badR_of (h.val r hr), bc_f, anyR_of fun r hr => ?_, bc_f]
  · have := h.val r hr
    unfold formR
    rw [chk3_of this.long this.form]
    rfl
  · have := (h.val r hr).long
    unfold longR
    exact df (by omega)
theorem chk4_cases (n : Int) (l : List (List U)) : chk4 n l = 0 ∨ chk4 n l ≠ 0 := by omega
/-- numbers that are small -/
def AtOk (l : List (List U)) : Prop := ∀ r, r ∈ l → 0 ≤ rA r ∧ rA r ≤ 1000
noncomputable instance AtOk.dec (l : List (List U)) : Decidable (AtOk l) := Classical.propDecidable _
theorem ValS.at {n : Int} {l : List (List U)} (h : ValS n l) : AtOk l := fun r hr => ⟨(h.val r hr).lo, by have := (h.val r hr).hi; have := h.hi; omega⟩
noncomputable def mkR (k a : Int) (w : ByteArray) : List U := [.i k, .i a, .s w]
theorem rK_mk (k a : Int) (w : ByteArray) : rK (mkR k a w) = k := rfl
theorem rA_mk (k a : Int) (w : ByteArray) : rA (mkR k a w) = a := rfl
theorem rW_mk (k a : Int) (w : ByteArray) : rW (mkR k a w) = w := rfl
/-- further right -/
noncomputable def shR (d : Int) (r : List U) : List U := mkR (rK r) (rA r + d) (rW r)
noncomputable def shL (d : Int) (l : List (List U)) : List (List U) := l.map (shR d)
theorem shL_len (d : Int) (l : List (List U)) : (shL d l).length = l.length := by unfold shL; simp
theorem ValR.sh {n m d : Int} {r : List U} (h : ValR n r) (h1 : 0 ≤ d) (h2 : n + d ≤ m) : ValR m (shR d r) :=
  ⟨h.kind, by show 0 ≤ rA r + d; have := h.lo; omega, by show rA r + d ≤ m - 2; have := h.hi; omega, h.sew, h.long, h.form⟩
theorem ValR.mono {n m : Int} {r : List U} (h : ValR n r) (h1 : n ≤ m) : ValR m r := ⟨h.kind, h.lo, by have := h.hi; omega, h.sew, h.long, h.form⟩
end Go.Proofs.Ytkbebiebaenbdaa.Ev
namespace Go.Proofs.Ytkbebiebaenbdaa.Ev
open Go.Proofs
/-! ### Same -/
noncomputable def rowEq (x y : List U) : Bool := bc (rK x == rK y) (bc (rA x == rA y) (bc ((rW x).toList == (rW y).toList) true false) false) false
theorem rowEq_self (x : List U) : rowEq x x = true := by
  unfold rowEq
  simp [bc_t]
noncomputable def sameR : List (List U) → List (List U) → Bool
  | x :: a, y :: b => bc (rowEq x y) (sameR a b) false
  | _, _ => true
theorem sameR_cons (x y : List U) (a b : List (List U)) : sameR (x :: a) (y :: b) = bc (rowEq x y) (sameR a b) false := rfl
theorem sameR_self : ∀ a, sameR a a = true
  | [] => rfl
  | x :: a => by rw [sameR_cons, rowEq_self, bc_t, sameR_self a]
noncomputable def sameW (n m : Int) (a b : List (List U)) : Bool := bc (n != m) false (bc (Int.ofNat a.length != Int.ofNat b.length) false (sameR a b))
theorem sameW_self (n : Int) (a : List (List U)) : sameW n n a a = true := by
  unfold sameW
  simp [bc_f, sameR_self]
namespace MSame
noncomputable def RUN (s : ES) : ZF := RZ 25 .nil (atS 0 25 4) [] [[(2,none),(3,none),(5,none)]] false s

noncomputable def sSame (n m : Int) (a b : List (List U)) (i : Int) : NS := ⟨[⟨25, 38, [(2, (EV.ptr 0 0)), (3, (EV.ptr 1 0)), (5, iv i)], [.it (.code (nav [1, 1, 0, 1, 0, 0, 0] (bodyOf Try.f25))), .it (.code (nav [1, 1, 0, 1, 0, 0, 1] (bodyOf Try.f25))), .it (.inLoop (nav [1, 1, 0, 1, 0, 0] (bodyOf Try.f25))), .it (.inBlock 0), .it (.code (nav [1, 1, 1] (bodyOf Try.f25)))], [], Option.none⟩], [(0, (EK.cells 24 [(EV.v (Value.int IntKind.i64 (n))), (EV.lst (SyC.recs [(Sh.int IntKind.i64), (Sh.int IntKind.i64), Sh.str] (a)))] true)), (1, (EK.cells 24 [(EV.v (Value.int IntKind.i64 (m))), (EV.lst (SyC.recs [(Sh.int IntKind.i64), (Sh.int IntKind.i64), Sh.str] (b)))] true))], 2⟩
theorem in_t (n m : Int) (a b : List (List U)) : RUN (st0 25 [.agg [iv n, wl a], .agg [iv m, wl b]]) = (bc (n != m)
  (.done (EV.v (Value.bool false)) [] 0)
  (bc (Int.ofNat (List.length a) != Int.ofNat (List.length b))
    (.done (EV.v (Value.bool false)) [] 0)
    (.at (sSame (n) (m) (a) (b) ((0 : Int)))))) := by kernel_rfl
theorem step_t (n m : Int) (a b : List (List U)) (i : Int) : RUN (stOf (sSame n m a b i)) = (bc (Decidable.decide (i < Int.ofNat (List.length a)))
  (bc (bc (bc (bc (bc (Decidable.decide ((0 : Int) ≤ i)) (Nat.blt (Int.toNat i) (List.length a)) Bool.false) Bool.true Bool.false) (bc (bc (Nat.blt (Int.toNat i) (List.length a)) Bool.true Bool.false) (bc (bc (bc (Decidable.decide ((0 : Int) ≤ i)) (Nat.blt (Int.toNat i) (List.length b)) Bool.false) Bool.true Bool.false) (bc (bc (Nat.blt (Int.toNat i) (List.length b)) Bool.true Bool.false) Bool.true Bool.false) Bool.false) Bool.false) Bool.false) Bool.true Bool.false)
    (bc (bnot (bc (U.int (List.getD (List.getD a (Int.toNat i) []) (0 : Nat) (U.i (0 : Int))) == U.int (List.getD (List.getD b (Int.toNat i) []) (0 : Nat) (U.i (0 : Int)))) (bc (U.int (List.getD (List.getD a (Int.toNat i) []) (Nat.succ (0 : Nat)) (U.i (0 : Int))) == U.int (List.getD (List.getD b (Int.toNat i) []) (Nat.succ (0 : Nat)) (U.i (0 : Int)))) (bc (ByteArray.toList (U.str (List.getD (List.getD a (Int.toNat i) []) (Nat.succ (Nat.succ (0 : Nat))) (U.i (0 : Int)))) == ByteArray.toList (U.str (List.getD (List.getD b (Int.toNat i) []) (Nat.succ (Nat.succ (0 : Nat))) (U.i (0 : Int))))) Bool.true Bool.false) Bool.false) Bool.false))
      (.done (EV.v (Value.bool false)) [] 0)
      (.at (sSame (n) (m) (a) (b) (IntKind.wrap IntKind.i64 (i + (1 : Int))))))
    .bad)
  (.done (EV.v (Value.bool true)) [] 0)) := by kernel_rfl
theorem step {n m : Int} {a b : List (List U)} {i : Nat} (hi : i < a.length) (hl : a.length ≤ 100000) (hb : a.length = b.length) : RUN (stOf (sSame n m a b i)) = bc (rowEq a[i] (b[i]'(by omega))) (.at (sSame n m a b (i + 1 : Nat))) (.done (bv false) [] 0) := by
  rw [step_t]
  have e : a.getD i [] = a[i] := getD_at hi
  have e2 : b.getD i [] = b[i]'(by omega) := getD_at (by omega)
  simp (disch := omega) only [Nat.add_eq, eqSy_self, eqN_self, bc_same, List.length_cons, ofn, wrap_in, dt, df, bltD, bltN, ble_of, bleN, beqD, bc_t, bc_f, nn_ok, Nat.zero_add, to_nat, Int.zero_add, Int.sub_zero, Int.sub_self, Int.cast_ofNat_Int, Int.natCast_zero, Int.toNat_zero, List.take_zero, List.nil_append, List.length_append, List.length_nil, e, e2, fK0, fK1, fA0, fA1, fA2, fW0, fW1, fW2]
  show bc (bnot (rowEq _ _)) _ _ = _
  cases rowEq a[i] (b[i]'(by omega)) <;> rfl
theorem last {n m : Int} {a b : List (List U)} {i : Nat} (hi : a.length ≤ i) : RUN (stOf (sSame n m a b i)) = .done (bv true) [] 0 := by
  rw [step_t]
  simp (disch := omega) only [Nat.add_eq, eqSy_self, eqN_self, bc_same, List.length_cons, ofn, wrap_in, dt, df, bltD, bltN, ble_of, bleN, beqD, bc_t, bc_f, nn_ok, Nat.zero_add, to_nat, Int.zero_add, Int.sub_zero, Int.sub_self, Int.cast_ofNat_Int, Int.natCast_zero, Int.toNat_zero, List.take_zero, List.nil_append, List.length_append, List.length_nil]
theorem loop {n m : Int} {a b : List (List U)} (hl : a.length ≤ 100000) (hb : a.length = b.length) : ∀ (k i : Nat), i + k = a.length → EndZ 25 .nil false (stOf (sSame n m a b i)) (bv (sameR (a.drop i) (b.drop i))) [] 0
  | 0, i, h => by
    rw [List.drop_eq_nil_of_le (by omega)]
    exact .done (last (by omega))
  | k + 1, i, h => by
    have hi : i < a.length := by omega
    have hs := step (n := n) (m := m) hi hl hb
    rw [List.drop_eq_getElem_cons hi, List.drop_eq_getElem_cons (show i < b.length by omega), sameR_cons]
    cases hc : rowEq a[i] (b[i]'(by omega)) <;> rw [hc] at hs
    · exact .done hs
    · exact .at (.nil _) hs (loop hl hb k (i + 1) (by omega))
theorem ends (n m : Int) (a b : List (List U)) (hl : a.length ≤ 100000) : EndZ 25 .nil false (st0 25 [.agg [iv n, wl a], .agg [iv m, wl b]]) (bv (sameW n m a b)) [] 0 := by
  have h := in_t n m a b
  unfold sameW
  cases h1 : (n != m) <;> rw [h1] at h
  · cases h2 : (Int.ofNat a.length != Int.ofNat b.length) <;> rw [h2] at h
    · have hb : a.length = b.length := by have : (a.length : Int) = b.length := by simpa using h2
                                          omega
      exact .at (.nil _) h (loop hl hb a.length 0 (by omega))
    · exact .done h
  · exact .done h
end MSame
noncomputable def spSame : ZCT := fun ax => match ax with
  | [.agg [.v (.int .i64 n), .lst (.recs [.int .i64, .int .i64, .str] a)], .agg [.v (.int .i64 m), .lst (.recs [.int .i64, .int .i64, .str] b)]] => some ⟨decide (a.length ≤ 100000), bv (sameW n m a b), [], 0⟩
  | _ => none
theorem spSame_ok : ZCtOk Try.prog 25 spSame := fun γ w us ax r hs hc hax hN hfz => by
  unfold spSame at hs
  split at hs
  case h_2 => cases hs
  rename_i n a m b
  obtain ⟨rfl⟩ := Option.some.inj hs
  have hc_0 : decide (a.length ≤ 100000) = true := hc
  have hc := of_decide_eq_true hc_0
  exact EndZ.calls (MSame.ends n m a b hc) (.nil _) (by kernel_rfl) hax hN hfz
/-! ### place -/
namespace RPlc
noncomputable def RUN (s : ES) : ZF := RZ 70 .nil (atS 0 70 3) [] [[(1,none),(2,none),(4,none),(5,some (3, 81, .recs shW [])),(6,none)]] false s

noncomputable def sP (n k : Int) (l : List (List U)) (i : Int) (q : List (List U)) (nn : Bool) : NS := ⟨[⟨70, 35, [(1, (EV.v (Value.int IntKind.i64 (k)))), (2, (EV.ptr 0 0)), (4, (EV.ptr 1 0)), (5, (EV.ptr 2 0)), (6, iv i)], [.it (.code (nav [1, 1, 0, 1, 0, 0, 0] (bodyOf Try.f70))), .it (.code (nav [1, 1, 0, 1, 0, 0, 1] (bodyOf Try.f70))), .it (.inLoop (nav [1, 1, 0, 1, 0, 0] (bodyOf Try.f70))), .it (.inBlock 0), .it (.code (nav [1, 1, 1] (bodyOf Try.f70)))], [], Option.none⟩], [(0, (EK.cells 24 [(EV.v (Value.int IntKind.i64 (n))), (EV.lst (SyC.recs [(Sh.int IntKind.i64), (Sh.int IntKind.i64), Sh.str] (l)))] true)), (1, (EK.cells 24 [(EV.v (Value.int IntKind.i64 (0))), (EV.v (Value.slice Option.none 0 0))] true)), (2, EK.cells 24 [iv n, EV.slO 3 3 q.length nn] true), (3, EK.seq 81 (.recs shW q) nn)], 4⟩
theorem in_t (n k : Int) (l : List (List U)) : RUN (st0 70 [.agg [iv n, wl l], iv k]) = (.at (sP (n) (k) (l) ((0 : Int)) ([]) (Bool.false))) := by kernel_rfl
theorem step_t (n k : Int) (l : List (List U)) (i : Int) (q : List (List U)) (nn : Bool) : RUN (stOf (sP n k l i q nn)) = (bc (Decidable.decide (i < Int.ofNat (List.length l)))
  (bc (bc (bc (Decidable.decide ((0 : Int) ≤ i)) (Nat.blt (Int.toNat i) (List.length l)) Bool.false) Bool.true Bool.false)
    (bc (bc (Nat.blt (Int.toNat i) (List.length l)) Bool.true Bool.false)
      (bc (bc (Nat.beq (List.length q) (List.length q)) (bc (Nat.ble (List.length q + List.length [[U.i (U.int (List.getD (List.getD l (Int.toNat i) []) (0 : Nat) (U.i (0 : Int)))), U.i (IntKind.wrap IntKind.i64 (U.int (List.getD (List.getD l (Int.toNat i) []) (Nat.succ (0 : Nat)) (U.i (0 : Int))) + k)), U.s (U.str (List.getD (List.getD l (Int.toNat i) []) (Nat.succ (Nat.succ (0 : Nat))) (U.i (0 : Int))))]]) (65536 : Nat)) (bc nn Bool.true (bc nn Bool.false Bool.true)) Bool.false) Bool.false)
        (.at (sP (n) (k) (l) (IntKind.wrap IntKind.i64 (i + (1 : Int))) (q ++ [[U.i (U.int (List.getD (List.getD l (Int.toNat i) []) (0 : Nat) (U.i (0 : Int)))), U.i (IntKind.wrap IntKind.i64 (U.int (List.getD (List.getD l (Int.toNat i) []) (Nat.succ (0 : Nat)) (U.i (0 : Int))) + k)), U.s (U.str (List.getD (List.getD l (Int.toNat i) []) (Nat.succ (Nat.succ (0 : Nat))) (U.i (0 : Int))))]]) (bc nn Bool.true (Nat.blt (0 : Nat) (List.length [[U.i (U.int (List.getD (List.getD l (Int.toNat i) []) (0 : Nat) (U.i (0 : Int)))), U.i (IntKind.wrap IntKind.i64 (U.int (List.getD (List.getD l (Int.toNat i) []) (Nat.succ (0 : Nat)) (U.i (0 : Int))) + k)), U.s (U.str (List.getD (List.getD l (Int.toNat i) []) (Nat.succ (Nat.succ (0 : Nat))) (U.i (0 : Int))))]])))))
        .bad)
      .bad)
    .bad)
  (bc (bc (Nat.beq (List.length q) (List.length q)) Bool.true Bool.false)
    (.done (EV.agg [(EV.v (Value.int IntKind.i64 (n))), (EV.lst (SyC.recs [(Sh.int IntKind.i64), (Sh.int IntKind.i64), Sh.str] (q)))]) [] 0)
    .bad)) := by kernel_rfl
theorem step {n k : Int} {l : List (List U)} {i : Nat} {q : List (List U)} {nn : Bool} (hi : i < l.length) (hl : l.length ≤ 1000) (hq : q.length ≤ 1000) (ha : 0 ≤ rA l[i] ∧ rA l[i] ≤ 1000) (hk : -1000 ≤ k ∧ k ≤ 1000) : RUN (stOf (sP n k l i q nn)) = .at (sP n k l (i + 1 : Nat) (q ++ [shR k l[i]]) true) := by
  rw [step_t]
  have e : l.getD i [] = l[i] := getD_at hi
  simp (disch := omega) only [Nat.add_eq, eqSy_self, eqN_self, bc_same, List.length_cons, ofn, wrap_in, dt, df, bltD, bltN, ble_of, bleN, beqD, bc_t, bc_f, nn_ok, Nat.zero_add, to_nat, Int.zero_add, Int.sub_zero, Int.sub_self, Int.cast_ofNat_Int, Int.natCast_zero, Int.toNat_zero, List.take_zero, List.nil_append, List.length_append, List.length_nil, e, fK0, fK1, fA0, fA1, fA2, fW0, fW1, fW2]
  rfl
theorem last {n k : Int} {l : List (List U)} {i : Nat} {q : List (List U)} {nn : Bool} (hi : l.length ≤ i) : RUN (stOf (sP n k l i q nn)) = .done (.agg [iv n, wl q]) [] 0 := by
  rw [step_t]
  simp (disch := omega) only [Nat.add_eq, eqSy_self, eqN_self, bc_same, List.length_cons, ofn, wrap_in, dt, df, bltD, bltN, ble_of, bleN, beqD, bc_t, bc_f, nn_ok, Nat.zero_add, to_nat, Int.zero_add, Int.sub_zero, Int.sub_self, Int.cast_ofNat_Int, Int.natCast_zero, Int.toNat_zero, List.take_zero, List.nil_append, List.length_append, List.length_nil]
  rfl
theorem loop {n k : Int} {l : List (List U)} (hl : l.length ≤ 1000) (ha : AtOk l) (hk : -1000 ≤ k ∧ k ≤ 1000) : ∀ (m i : Nat) (q : List (List U)) (nn : Bool), i + m = l.length → q.length ≤ i → EndZ 70 .nil false (stOf (sP n k l i q nn)) (.agg [iv n, wl (q ++ shL k (l.drop i))]) [] 0
  | 0, i, q, nn, h, hq => by
    rw [List.drop_eq_nil_of_le (by omega)]
    show EndZ _ _ _ _ (.agg [iv n, wl (q ++ [])]) _ _
    rw [List.append_nil]
    exact .done (last (by omega))
  | m + 1, i, q, nn, h, hq => by
    have hi : i < l.length := by omega
    rw [List.drop_eq_getElem_cons hi]
    show EndZ _ _ _ _ (.agg [iv n, wl (q ++ (shR k l[i] :: shL k (l.drop (i + 1))))]) _ _
    rw [show q ++ (shR k l[i] :: shL k (l.drop (i + 1))) = (q ++ [shR k l[i]]) ++ shL k (l.drop (i + 1)) by simp]
    exact .at (.nil _) (step hi hl (by omega) (ha _ (List.getElem_mem hi)) hk) (loop hl ha hk m (i + 1) _ true (by omega) (by simp; omega))
end RPlc
noncomputable def spPlc : ZCT := fun ax => match ax with
  | [.agg [.v (.int .i64 n), .lst (.recs [.int .i64, .int .i64, .str] l)], .v (.int .i64 k)] => some ⟨decide (l.length ≤ 1000 ∧ AtOk l ∧ -1000 ≤ k ∧ k ≤ 1000), .agg [iv n, wl (shL k l)], [], 0⟩
  | _ => none
theorem spPlc_ok : ZCtOk Try.prog 70 spPlc := fun γ w us ax r hs hc hax hN hfz => by
  unfold spPlc at hs
  split at hs
  case h_2 => cases hs
  rename_i n l k
  obtain ⟨rfl⟩ := Option.some.inj hs
  have hc_0 : decide (l.length ≤ 1000 ∧ AtOk l ∧ -1000 ≤ k ∧ k ≤ 1000) = true := hc
  have hc := of_decide_eq_true hc_0
  exact EndZ.calls (.at (.nil _) (RPlc.in_t n k l) (RPlc.loop hc.1 hc.2.1 hc.2.2 l.length 0 [] false (by omega) (by simp))) (.nil _) (by kernel_rfl) hax hN hfz
noncomputable def ctJ0 : Tr ZCC := (ctC.put 42 (some (dC spChk4))).put 70 (some (dC spPlc))
theorem ctJ0_ok : ZCtsOk Try.prog ctJ0 := (ctC_ok.add rfl spChk4_ok).add rfl spPlc_ok
/-! ### Beside, Below -/
noncomputable def both (n m : Int) (l k : List (List U)) : Int := bc (chk4 n l != 0) (chk4 n l) (chk4 m k)
noncomputable def besE (n m : Int) (l k : List (List U)) : Int := bc (both n m l k != 0) (both n m l k) (bc (decide (24 < n + m)) 3 (bc (decide (400 < (l.length : Int) + (k.length : Int))) 3 0))
noncomputable def besP (n m : Int) (l k : List (List U)) : Int := bc (besE n m l k != 0) 0 (n + m)
noncomputable def besL (n m : Int) (l k : List (List U)) : List (List U) := bc (besE n m l k != 0) [] (l ++ shL n k)
noncomputable def belE (n m : Int) (l k : List (List U)) : Int := bc (both n m l k != 0) (both n m l k) (bc (n != m) 2 (bc (decide (400 < (l.length : Int) + (k.length : Int))) 3 0))
noncomputable def belP (n m : Int) (l k : List (List U)) : Int := bc (belE n m l k != 0) 0 n
noncomputable def belL (n m : Int) (l k : List (List U)) : List (List U) := bc (belE n m l k != 0) [] (l ++ k)
theorem ne0 {x : Int} (h : (x != 0) = false) : x = 0 := by simpa using h
theorem besE0 {n m : Int} {l k : List (List U)} (h1 : chk4 n l = 0) (h2 : chk4 m k = 0) : besE n m l k = bc (decide (24 < n + m)) 3 (bc (decide (400 < (l.length : Int) + (k.length : Int))) 3 0) := by
  have e : both n m l k = 0 := by unfold both; rw [h1, h2]; rfl
  unfold besE
  rw [e]; rfl
theorem belE0 {n m : Int} {l k : List (List U)} (h1 : chk4 n l = 0) (h2 : chk4 m k = 0) : belE n m l k = bc (n != m) 2 (bc (decide (400 < (l.length : Int) + (k.length : Int))) 3 0) := by
  have e : both n m l k = 0 := by unfold both; rw [h1, h2]; rfl
  unfold belE
  rw [e]; rfl
theorem bothT {n m : Int} {l k : List (List U)} (h1 : (chk4 n l != 0) = true) : both n m l k = chk4 n l := by unfold both; rw [h1]; rfl
theorem bothF {n m : Int} {l k : List (List U)} (h1 : (chk4 n l != 0) = false) : both n m l k = chk4 m k := by unfold both; rw [h1]; rfl
theorem besE1 {n m : Int} {l k : List (List U)} {e : Int} (h : both n m l k = e) (he : (e != 0) = true) : besE n m l k = e := by unfold besE; rw [h, he]; rfl
theorem belE1 {n m : Int} {l k : List (List U)} {e : Int} (h : both n m l k = e) (he : (e != 0) = true) : belE n m l k = e := by unfold belE; rw [h, he]; rfl
theorem doneX {f : FuncId} {ct : Tr ZCC} {s : ES} {p p' : Int} {q q' : List (List U)} {e e' : Int} {ps : PLs} {lk : List Nat} (h : RZs f ct ps lk false s = .done (shE p q e) [] 0) (hp : p = p') (hq : q = q') (he : e = e') : EndZ f ct false s (shE p' q' e') [] 0 := by
  subst hp; subst hq; subst he; exact .done h
theorem doneY {f : FuncId} {ct : Tr ZCC} {s : ES} {p' : Int} {q' : List (List U)} {e e' : Int} {ps : PLs} {lk : List Nat} (h : RZs f ct ps lk false s = .done (shN e) [] 0) (hp : 0 = p') (hq : [] = q') (he : e = e') : EndZ f ct false s (shE p' q' e') [] 0 := by
  subst hp; subst hq; subst he; exact (EndZ.done h).weak (shN_weak e)
theorem besV {n m : Int} {l k : List (List U)} {e : Int} (h : besE n m l k = e) (he : (e != 0) = true) : besP n m l k = 0 ∧ besL n m l k = [] := by unfold besP besL; rw [h, he]; exact ⟨rfl, rfl⟩
theorem besV0 {n m : Int} {l k : List (List U)} (h : besE n m l k = 0) : besP n m l k = n + m ∧ besL n m l k = l ++ shL n k := by unfold besP besL; rw [h]; exact ⟨rfl, rfl⟩
theorem belV {n m : Int} {l k : List (List U)} {e : Int} (h : belE n m l k = e) (he : (e != 0) = true) : belP n m l k = 0 ∧ belL n m l k = [] := by unfold belP belL; rw [h, he]; exact ⟨rfl, rfl⟩
theorem belV0 {n m : Int} {l k : List (List U)} (h : belE n m l k = 0) : belP n m l k = n ∧ belL n m l k = l ++ k := by unfold belP belL; rw [h]; exact ⟨rfl, rfl⟩
theorem atS3 {n : Int} {k : List (List U)} (v : ValS n k) (d : Int) (h1 : 0 ≤ d) (h2 : d ≤ 24) : k.length ≤ 1000 ∧ AtOk k ∧ -1000 ≤ d ∧ d ≤ 1000 := ⟨by have := v.len; omega, v.at, by omega, by omega⟩
noncomputable abbrev as2 (n m : Int) (l k : List (List U)) : List EV := [.agg [iv n, wl l], .agg [iv m, wl k]]
namespace RBes
noncomputable def RUN (s : ES) : ZF := RZ 38 ctJ0 (fun _ => false) [] [] false s
theorem in_t (n m : Int) (l k : List (List U)) : RUN (st0 38 (as2 n m l k)) = (bc (chk4 n l != (0 : Int))
  (bc (chk4 n l != (0 : Int))
    (.done (EV.tup [(EV.v (Value.agg (Array.mk [(Value.int IntKind.i64 (0)), (Value.slice Option.none 0 0)]))), (EV.v (Value.int IntKind.i64 (chk4 n l)))]) [] 0)
    (bc (Decidable.decide ((24 : Int) < IntKind.wrap IntKind.i64 (n + m)))
      (.done (EV.tup [(EV.v (Value.agg (Array.mk [(Value.int IntKind.i64 (0)), (Value.slice Option.none 0 0)]))), (EV.v (Value.int IntKind.i64 (3)))]) [] 0)
      (bc (Decidable.decide ((400 : Int) < IntKind.wrap IntKind.i64 (Int.ofNat (List.length l) + Int.ofNat (List.length k))))
        (.done (EV.tup [(EV.v (Value.agg (Array.mk [(Value.int IntKind.i64 (0)), (Value.slice Option.none 0 0)]))), (EV.v (Value.int IntKind.i64 (3)))]) [] 0)
        (bc (bc (bc (bc (Nat.ble ((0 : Nat) + List.length l) (65536 : Nat)) Bool.true Bool.false) (bc (Decidable.decide (List.length k ≤ (1000 : Nat) ∧ AtOk k ∧ (-1000 : Int) ≤ n ∧ n ≤ (1000 : Int))) (bc (bc (Nat.beq (List.length ([] ++ l)) (List.length ([] ++ l))) (bc (Nat.ble (List.length ([] ++ l) + List.length (shL n k)) (65536 : Nat)) Bool.true Bool.false) Bool.false) Bool.true Bool.false) Bool.false) Bool.false) (bc (bc (bc (Decidable.decide (n = n)) (bc (Decidable.decide (n = n)) (bc (Decidable.decide (n = n)) (bc (Decidable.decide (n = n)) Bool.true Bool.false) Bool.false) Bool.false) Bool.false) (bc (bc (Decidable.decide (m = m)) (bc (Decidable.decide (m = m)) (bc (Decidable.decide (m = m)) (bc (Decidable.decide (m = m)) Bool.true Bool.false) Bool.false) Bool.false) Bool.false) (bc (bc (eqSy (SyC.recs shW l) (SyC.recs shW l)) Bool.true Bool.false) (bc (bc (bc (Decidable.decide (m = m)) (bc (eqSy (SyC.recs shW k) (SyC.recs shW k)) Bool.true Bool.false) Bool.false) (bc (bc (Decidable.decide (m = m)) (bc (eqSy (SyC.recs shW k) (SyC.recs shW k)) Bool.true Bool.false) Bool.false) Bool.true Bool.false) Bool.false) (bc (bc (Decidable.decide (n = n)) (bc (Decidable.decide (n = n)) Bool.true Bool.false) Bool.false) Bool.true Bool.false) Bool.false) Bool.false) Bool.false) Bool.false) Bool.true Bool.false) Bool.false)
          (bc (bc (bc (Nat.beq (List.length ([] ++ l ++ shL n k)) (List.length ([] ++ l ++ shL n k))) Bool.true Bool.false) Bool.true Bool.false)
            (.done (EV.tup [(EV.agg [(EV.v (Value.int IntKind.i64 (IntKind.wrap IntKind.i64 (n + m)))), (EV.lst (SyC.recs [(Sh.int IntKind.i64), (Sh.int IntKind.i64), Sh.str] ([] ++ l ++ shL n k)))]), (EV.v (Value.int IntKind.i64 (0)))]) [] 0)
            .bad)
          .bad))))
  (bc (chk4 m k != (0 : Int))
    (.done (EV.tup [(EV.v (Value.agg (Array.mk [(Value.int IntKind.i64 (0)), (Value.slice Option.none 0 0)]))), (EV.v (Value.int IntKind.i64 (chk4 m k)))]) [] 0)
    (bc (Decidable.decide ((24 : Int) < IntKind.wrap IntKind.i64 (n + m)))
      (.done (EV.tup [(EV.v (Value.agg (Array.mk [(Value.int IntKind.i64 (0)), (Value.slice Option.none 0 0)]))), (EV.v (Value.int IntKind.i64 (3)))]) [] 0)
      (bc (Decidable.decide ((400 : Int) < IntKind.wrap IntKind.i64 (Int.ofNat (List.length l) + Int.ofNat (List.length k))))
        (.done (EV.tup [(EV.v (Value.agg (Array.mk [(Value.int IntKind.i64 (0)), (Value.slice Option.none 0 0)]))), (EV.v (Value.int IntKind.i64 (3)))]) [] 0)
        (bc (bc (bc (bc (Nat.ble ((0 : Nat) + List.length l) (65536 : Nat)) Bool.true Bool.false) (bc (Decidable.decide (List.length k ≤ (1000 : Nat) ∧ AtOk k ∧ (-1000 : Int) ≤ n ∧ n ≤ (1000 : Int))) (bc (bc (Nat.beq (List.length ([] ++ l)) (List.length ([] ++ l))) (bc (Nat.ble (List.length ([] ++ l) + List.length (shL n k)) (65536 : Nat)) Bool.true Bool.false) Bool.false) Bool.true Bool.false) Bool.false) Bool.false) (bc (bc (bc (Decidable.decide (n = n)) (bc (Decidable.decide (n = n)) (bc (Decidable.decide (n = n)) (bc (Decidable.decide (n = n)) Bool.true Bool.false) Bool.false) Bool.false) Bool.false) (bc (bc (Decidable.decide (m = m)) (bc (Decidable.decide (m = m)) (bc (Decidable.decide (m = m)) (bc (Decidable.decide (m = m)) Bool.true Bool.false) Bool.false) Bool.false) Bool.false) (bc (bc (eqSy (SyC.recs shW l) (SyC.recs shW l)) Bool.true Bool.false) (bc (bc (bc (Decidable.decide (m = m)) (bc (eqSy (SyC.recs shW k) (SyC.recs shW k)) Bool.true Bool.false) Bool.false) (bc (bc (Decidable.decide (m = m)) (bc (eqSy (SyC.recs shW k) (SyC.recs shW k)) Bool.true Bool.false) Bool.false) Bool.true Bool.false) Bool.false) (bc (bc (Decidable.decide (n = n)) (bc (Decidable.decide (n = n)) Bool.true Bool.false) Bool.false) Bool.true Bool.false) Bool.false) Bool.false) Bool.false) Bool.false) Bool.true Bool.false) Bool.false)
          (bc (bc (bc (Nat.beq (List.length ([] ++ l ++ shL n k)) (List.length ([] ++ l ++ shL n k))) Bool.true Bool.false) Bool.true Bool.false)
            (.done (EV.tup [(EV.agg [(EV.v (Value.int IntKind.i64 (IntKind.wrap IntKind.i64 (n + m)))), (EV.lst (SyC.recs [(Sh.int IntKind.i64), (Sh.int IntKind.i64), Sh.str] ([] ++ l ++ shL n k)))]), (EV.v (Value.int IntKind.i64 (0)))]) [] 0)
            .bad)
          .bad))))) := by kernel_rfl
theorem ends (n m : Int) (l k : List (List U)) : EndZ 38 ctJ0 false (st0 38 (as2 n m l k)) (shE (besP n m l k) (besL n m l k) (besE n m l k)) [] 0 := by
  have h := in_t n m l k
  cases h1 : (chk4 n l != 0) <;> rw [h1] at h
  · cases h2 : (chk4 m k != 0) <;> rw [h2] at h
    · have e1 := ne0 h1
      have e2 := ne0 h2
      have v1 := chk4_ok e1
      have v2 := chk4_ok e2
      have g1 := v1.lo
      have g2 := v1.hi
      have g3 := v1.len
      have g4 := v2.lo
      have g5 := v2.hi
      have g6 := v2.len
      have e := besE0 e1 e2
      have hp := atS3 v2 n (by omega) (by omega)
      by_cases h3 : 24 < n + m
      · rw [dt h3, bc_t] at e
        simp (disch := omega) only [Nat.add_eq, eqSy_self, eqN_self, bc_same, List.length_cons, ofn, wrap_in, dt, df, bltD, bltN, ble_of, bleN, beqD, bc_t, bc_f, nn_ok, Nat.zero_add, to_nat, Int.zero_add, Int.sub_zero, Int.sub_self, Int.cast_ofNat_Int, Int.natCast_zero, Int.toNat_zero, List.take_zero, List.nil_append, List.length_append, List.length_nil] at h
        exact doneY h (besV e rfl).1.symm (besV e rfl).2.symm e.symm
      rw [df h3, bc_f] at e
      by_cases h4 : 400 < (l.length : Int) + (k.length : Int)
      · rw [dt h4, bc_t] at e
        simp (disch := omega) only [Nat.add_eq, eqSy_self, eqN_self, bc_same, List.length_cons, ofn, wrap_in, dt, df, bltD, bltN, ble_of, bleN, beqD, bc_t, bc_f, nn_ok, Nat.zero_add, to_nat, Int.zero_add, Int.sub_zero, Int.sub_self, Int.cast_ofNat_Int, Int.natCast_zero, Int.toNat_zero, List.take_zero, List.nil_append, List.length_append, List.length_nil] at h
        exact doneY h (besV e rfl).1.symm (besV e rfl).2.symm e.symm
      rw [df h4, bc_f] at e
      simp (disch := omega) only [Nat.add_eq, eqSy_self, eqN_self, bc_same, List.length_cons, ofn, wrap_in, dt, df, bltD, bltN, ble_of, bleN, beqD, bc_t, bc_f, nn_ok, Nat.zero_add, to_nat, Int.zero_add, Int.sub_zero, Int.sub_self, Int.cast_ofNat_Int, Int.natCast_zero, Int.toNat_zero, List.take_zero, List.nil_append, List.length_append, List.length_nil, dt hp, shL_len] at h
      exact doneX h (besV0 e).1.symm (besV0 e).2.symm e.symm
    · have e := besE1 (bothF (m := m) (k := k) h1) h2
      exact doneY h (besV e h2).1.symm (besV e h2).2.symm e.symm
  · have e := besE1 (bothT (m := m) (k := k) h1) h1
    simp only [bc_t] at h
    exact doneY h (besV e h1).1.symm (besV e h1).2.symm e.symm
end RBes
noncomputable def spRBes : ZCT := fun ax => match ax with
  | [.agg [.v (.int .i64 n), .lst (.recs [.int .i64, .int .i64, .str] l)], .agg [.v (.int .i64 m), .lst (.recs [.int .i64, .int .i64, .str] k)]] => some ⟨decide (True), shE (besP n m l k) (besL n m l k) (besE n m l k), [], 0⟩
  | _ => none
theorem spRBes_ok : ZCtOk Try.prog 38 spRBes := fun γ w us ax r hs hc hax hN hfz => by
  unfold spRBes at hs
  split at hs
  case h_2 => cases hs
  rename_i n l m k
  obtain ⟨rfl⟩ := Option.some.inj hs
  have hc_0 : decide (True) = true := hc
  have hc := of_decide_eq_true hc_0
  exact EndZ.calls (RBes.ends n m l k) ctJ0_ok (by kernel_rfl) hax hN hfz
namespace RBel
noncomputable def RUN (s : ES) : ZF := RZ 39 ctJ0 (fun _ => false) [] [] false s
theorem in_t (n m : Int) (l k : List (List U)) : RUN (st0 39 (as2 n m l k)) = (bc (chk4 n l != (0 : Int))
  (bc (chk4 n l != (0 : Int))
    (.done (EV.tup [(EV.v (Value.agg (Array.mk [(Value.int IntKind.i64 (0)), (Value.slice Option.none 0 0)]))), (EV.v (Value.int IntKind.i64 (chk4 n l)))]) [] 0)
    (bc (n != m)
      (.done (EV.tup [(EV.v (Value.agg (Array.mk [(Value.int IntKind.i64 (0)), (Value.slice Option.none 0 0)]))), (EV.v (Value.int IntKind.i64 (2)))]) [] 0)
      (bc (Decidable.decide ((400 : Int) < IntKind.wrap IntKind.i64 (Int.ofNat (List.length l) + Int.ofNat (List.length k))))
        (.done (EV.tup [(EV.v (Value.agg (Array.mk [(Value.int IntKind.i64 (0)), (Value.slice Option.none 0 0)]))), (EV.v (Value.int IntKind.i64 (3)))]) [] 0)
        (bc (bc (bc (bc (Nat.ble ((0 : Nat) + List.length l) (65536 : Nat)) Bool.true Bool.false) (bc (bc (Nat.beq (List.length ([] ++ l)) (List.length ([] ++ l))) (bc (Nat.ble (List.length ([] ++ l) + List.length k) (65536 : Nat)) Bool.true Bool.false) Bool.false) Bool.true Bool.false) Bool.false) (bc (bc (bc (Decidable.decide (n = n)) (bc (Decidable.decide (n = n)) (bc (Decidable.decide (n = n)) Bool.true Bool.false) Bool.false) Bool.false) (bc (bc (eqSy (SyC.recs shW l) (SyC.recs shW l)) Bool.true Bool.false) (bc (bc (eqSy (SyC.recs shW k) (SyC.recs shW k)) (bc (eqSy (SyC.recs shW k) (SyC.recs shW k)) Bool.true Bool.false) Bool.false) Bool.true Bool.false) Bool.false) Bool.false) Bool.true Bool.false) Bool.false)
          (bc (bc (bc (Nat.beq (List.length ([] ++ l ++ k)) (List.length ([] ++ l ++ k))) Bool.true Bool.false) Bool.true Bool.false)
            (.done (EV.tup [(EV.agg [(EV.v (Value.int IntKind.i64 (n))), (EV.lst (SyC.recs [(Sh.int IntKind.i64), (Sh.int IntKind.i64), Sh.str] ([] ++ l ++ k)))]), (EV.v (Value.int IntKind.i64 (0)))]) [] 0)
            .bad)
          .bad))))
  (bc (chk4 m k != (0 : Int))
    (.done (EV.tup [(EV.v (Value.agg (Array.mk [(Value.int IntKind.i64 (0)), (Value.slice Option.none 0 0)]))), (EV.v (Value.int IntKind.i64 (chk4 m k)))]) [] 0)
    (bc (n != m)
      (.done (EV.tup [(EV.v (Value.agg (Array.mk [(Value.int IntKind.i64 (0)), (Value.slice Option.none 0 0)]))), (EV.v (Value.int IntKind.i64 (2)))]) [] 0)
      (bc (Decidable.decide ((400 : Int) < IntKind.wrap IntKind.i64 (Int.ofNat (List.length l) + Int.ofNat (List.length k))))
        (.done (EV.tup [(EV.v (Value.agg (Array.mk [(Value.int IntKind.i64 (0)), (Value.slice Option.none 0 0)]))), (EV.v (Value.int IntKind.i64 (3)))]) [] 0)
        (bc (bc (bc (bc (Nat.ble ((0 : Nat) + List.length l) (65536 : Nat)) Bool.true Bool.false) (bc (bc (Nat.beq (List.length ([] ++ l)) (List.length ([] ++ l))) (bc (Nat.ble (List.length ([] ++ l) + List.length k) (65536 : Nat)) Bool.true Bool.false) Bool.false) Bool.true Bool.false) Bool.false) (bc (bc (bc (Decidable.decide (n = n)) (bc (Decidable.decide (n = n)) (bc (Decidable.decide (n = n)) Bool.true Bool.false) Bool.false) Bool.false) (bc (bc (eqSy (SyC.recs shW l) (SyC.recs shW l)) Bool.true Bool.false) (bc (bc (eqSy (SyC.recs shW k) (SyC.recs shW k)) (bc (eqSy (SyC.recs shW k) (SyC.recs shW k)) Bool.true Bool.false) Bool.false) Bool.true Bool.false) Bool.false) Bool.false) Bool.true Bool.false) Bool.false)
          (bc (bc (bc (Nat.beq (List.length ([] ++ l ++ k)) (List.length ([] ++ l ++ k))) Bool.true Bool.false) Bool.true Bool.false)
            (.done (EV.tup [(EV.agg [(EV.v (Value.int IntKind.i64 (n))), (EV.lst (SyC.recs [(Sh.int IntKind.i64), (Sh.int IntKind.i64), Sh.str] ([] ++ l ++ k)))]), (EV.v (Value.int IntKind.i64 (0)))]) [] 0)
            .bad)
          .bad))))) := by kernel_rfl
theorem ends (n m : Int) (l k : List (List U)) : EndZ 39 ctJ0 false (st0 39 (as2 n m l k)) (shE (belP n m l k) (belL n m l k) (belE n m l k)) [] 0 := by
  have h := in_t n m l k
  cases h1 : (chk4 n l != 0) <;> rw [h1] at h
  · cases h2 : (chk4 m k != 0) <;> rw [h2] at h
    · have e1 := ne0 h1
      have e2 := ne0 h2
      have v1 := chk4_ok e1
      have v2 := chk4_ok e2
      have g3 := v1.len
      have g6 := v2.len
      have e := belE0 e1 e2
      cases h3 : (n != m) <;> rw [h3] at e h
      · rw [bc_f] at e
        by_cases h4 : 400 < (l.length : Int) + (k.length : Int)
        · rw [dt h4, bc_t] at e
          simp (disch := omega) only [Nat.add_eq, eqSy_self, eqN_self, bc_same, List.length_cons, ofn, wrap_in, dt, df, bltD, bltN, ble_of, bleN, beqD, bc_t, bc_f, nn_ok, Nat.zero_add, to_nat, Int.zero_add, Int.sub_zero, Int.sub_self, Int.cast_ofNat_Int, Int.natCast_zero, Int.toNat_zero, List.take_zero, List.nil_append, List.length_append, List.length_nil] at h
          exact doneY h (belV e rfl).1.symm (belV e rfl).2.symm e.symm
        rw [df h4, bc_f] at e
        simp (disch := omega) only [Nat.add_eq, eqSy_self, eqN_self, bc_same, List.length_cons, ofn, wrap_in, dt, df, bltD, bltN, ble_of, bleN, beqD, bc_t, bc_f, nn_ok, Nat.zero_add, to_nat, Int.zero_add, Int.sub_zero, Int.sub_self, Int.cast_ofNat_Int, Int.natCast_zero, Int.toNat_zero, List.take_zero, List.nil_append, List.length_append, List.length_nil] at h
        exact doneX h (belV0 e).1.symm (belV0 e).2.symm e.symm
      · rw [bc_t] at e
        exact doneY h (belV e rfl).1.symm (belV e rfl).2.symm e.symm
    · have e := belE1 (bothF (m := m) (k := k) h1) h2
      exact doneY h (belV e h2).1.symm (belV e h2).2.symm e.symm
  · have e := belE1 (bothT (m := m) (k := k) h1) h1
    simp only [bc_t] at h
    exact doneY h (belV e h1).1.symm (belV e h1).2.symm e.symm
end RBel
noncomputable def spRBel : ZCT := fun ax => match ax with
  | [.agg [.v (.int .i64 n), .lst (.recs [.int .i64, .int .i64, .str] l)], .agg [.v (.int .i64 m), .lst (.recs [.int .i64, .int .i64, .str] k)]] => some ⟨decide (True), shE (belP n m l k) (belL n m l k) (belE n m l k), [], 0⟩
  | _ => none
theorem spRBel_ok : ZCtOk Try.prog 39 spRBel := fun γ w us ax r hs hc hax hN hfz => by
  unfold spRBel at hs
  split at hs
  case h_2 => cases hs
  rename_i n l m k
  obtain ⟨rfl⟩ := Option.some.inj hs
  have hc_0 : decide (True) = true := hc
  have hc := of_decide_eq_true hc_0
  exact EndZ.calls (RBel.ends n m l k) ctJ0_ok (by kernel_rfl) hax hN hfz
/-! ### Times -/
noncomputable def repL (l : List (List U)) : Nat → List (List U)
  | 0 => []
  | k + 1 => l ++ repL l k
theorem repL_len (l : List (List U)) : ∀ k, (repL l k).length = k * l.length
  | 0 => by simp [repL]
  | k + 1 => by unfold repL; rw [List.length_append, repL_len l k, Nat.succ_mul]; omega
noncomputable def timE (n t : Int) (l : List (List U)) : Int := bc (chk4 n l != 0) (chk4 n l) (bc (decide (t < 0)) 7 (bc (decide (400 < t)) 7 (bc (decide (400 < t * (l.length : Int))) 3 0)))
noncomputable def timP (n t : Int) (l : List (List U)) : Int := bc (timE n t l != 0) 0 n
noncomputable def timL (n t : Int) (l : List (List U)) : List (List U) := bc (timE n t l != 0) [] (repL l t.toNat)
theorem timV {n t : Int} {l : List (List U)} {e : Int} (h : timE n t l = e) (he : (e != 0) = true) : timP n t l = 0 ∧ timL n t l = [] := by unfold timP timL; rw [h, he]; exact ⟨rfl, rfl⟩
theorem timV0 {n t : Int} {l : List (List U)} (h : timE n t l = 0) : timP n t l = n ∧ timL n t l = repL l t.toNat := by unfold timP timL; rw [h]; exact ⟨rfl, rfl⟩
namespace RTim
noncomputable def RUN (s : ES) : ZF := RZ 41 ctJ0 (atS 0 41 10) [] [[(1,none),(2,none),(4,none),(7,some (3, 81, .recs shW [])),(8,none)]] false s

noncomputable def sT (n t p : Int) (l : List (List U)) (i : Int) (q : List (List U)) (nn : Bool) : NS := ⟨[⟨41, 44, [(1, (EV.v (Value.int IntKind.i64 (t)))), (2, (EV.ptr 0 0)), (4, (EV.ptr 1 0)), (7, (EV.ptr 2 0)), (8, iv i)], [.it (.code (nav [1, 1, 1, 1, 1, 1, 0, 1, 0, 0, 0] (bodyOf Try.f41))), .it (.code (nav [1, 1, 1, 1, 1, 1, 0, 1, 0, 0, 1] (bodyOf Try.f41))), .it (.inLoop (nav [1, 1, 1, 1, 1, 1, 0, 1, 0, 0] (bodyOf Try.f41))), .it (.inBlock 0), .it (.code (nav [1, 1, 1, 1, 1, 1, 1] (bodyOf Try.f41)))], [], Option.none⟩], [(0, (EK.cells 24 [(EV.v (Value.int IntKind.i64 (n))), (EV.lst (SyC.recs [(Sh.int IntKind.i64), (Sh.int IntKind.i64), Sh.str] (l)))] true)), (1, (EK.cells 24 [(EV.v (Value.int IntKind.i64 (0))), (EV.v (Value.slice Option.none 0 0))] true)), (2, EK.cells 24 [iv p, EV.slO 3 3 q.length nn] true), (3, EK.seq 81 (.recs shW q) nn)], 4⟩
theorem in_t (n t : Int) (l : List (List U)) : RUN (st0 41 [.agg [iv n, wl l], iv t]) = (bc (chk4 n l != (0 : Int))
  (.done (EV.tup [(EV.v (Value.agg (Array.mk [(Value.int IntKind.i64 (0)), (Value.slice Option.none 0 0)]))), (EV.v (Value.int IntKind.i64 (chk4 n l)))]) [] 0)
  (bc (Decidable.decide (t < (0 : Int)))
    (.done (EV.tup [(EV.v (Value.agg (Array.mk [(Value.int IntKind.i64 (0)), (Value.slice Option.none 0 0)]))), (EV.v (Value.int IntKind.i64 (7)))]) [] 0)
    (bc (Decidable.decide ((400 : Int) < t))
      (.done (EV.tup [(EV.v (Value.agg (Array.mk [(Value.int IntKind.i64 (0)), (Value.slice Option.none 0 0)]))), (EV.v (Value.int IntKind.i64 (7)))]) [] 0)
      (bc (Decidable.decide ((400 : Int) < IntKind.wrap IntKind.i64 (t * Int.ofNat (List.length l))))
        (.done (EV.tup [(EV.v (Value.agg (Array.mk [(Value.int IntKind.i64 (0)), (Value.slice Option.none 0 0)]))), (EV.v (Value.int IntKind.i64 (3)))]) [] 0)
        (.at (sT (n) (t) (n) (l) ((0 : Int)) ([]) (Bool.false))))))) := by kernel_rfl
theorem step_t (n t p : Int) (l : List (List U)) (i : Int) (q : List (List U)) (nn : Bool) : RUN (stOf (sT n t p l i q nn)) = (bc (Decidable.decide (i < t))
  (bc (bc (Nat.beq (List.length q) (List.length q)) (bc (Nat.ble (List.length q + List.length l) (65536 : Nat)) (bc nn Bool.true (bc nn Bool.false Bool.true)) Bool.false) Bool.false)
    (.at (sT (n) (t) (p) (l) (IntKind.wrap IntKind.i64 (i + (1 : Int))) (q ++ l) (bc nn Bool.true (Nat.blt (0 : Nat) (List.length l)))))
    .bad)
  (bc (bc (bc (Nat.beq (List.length q) (List.length q)) Bool.true Bool.false) Bool.true Bool.false)
    (.done (EV.tup [(EV.agg [(EV.v (Value.int IntKind.i64 (p))), (EV.lst (SyC.recs [(Sh.int IntKind.i64), (Sh.int IntKind.i64), Sh.str] (q)))]), (EV.v (Value.int IntKind.i64 (0)))]) [] 0)
    .bad)) := by kernel_rfl
theorem step {n t p : Int} {l : List (List U)} {i : Nat} {q : List (List U)} {nn : Bool} (hi : (i : Int) < t) (ht : t ≤ 400) (hl : l.length ≤ 400) (hq : q.length ≤ 60000) : RUN (stOf (sT n t p l i q nn)) = .at (sT n t p l (i + 1 : Nat) (q ++ l) (bc nn true (Nat.blt 0 l.length))) := by
  rw [step_t]
  simp (disch := omega) only [Nat.add_eq, eqSy_self, eqN_self, bc_same, List.length_cons, ofn, wrap_in, dt, df, bltD, bltN, ble_of, bleN, beqD, bc_t, bc_f, nn_ok, Nat.zero_add, to_nat, Int.zero_add, Int.sub_zero, Int.sub_self, Int.cast_ofNat_Int, Int.natCast_zero, Int.toNat_zero, List.take_zero, List.nil_append, List.length_append, List.length_nil]
  rfl
theorem last {n t p : Int} {l : List (List U)} {i : Nat} {q : List (List U)} {nn : Bool} (hi : t ≤ (i : Int)) : RUN (stOf (sT n t p l i q nn)) = .done (shE p q 0) [] 0 := by
  rw [step_t]
  simp (disch := omega) only [Nat.add_eq, eqSy_self, eqN_self, bc_same, List.length_cons, ofn, wrap_in, dt, df, bltD, bltN, ble_of, bleN, beqD, bc_t, bc_f, nn_ok, Nat.zero_add, to_nat, Int.zero_add, Int.sub_zero, Int.sub_self, Int.cast_ofNat_Int, Int.natCast_zero, Int.toNat_zero, List.take_zero, List.nil_append, List.length_append, List.length_nil]
  rfl
theorem loop {n t p : Int} {l : List (List U)} (ht : t ≤ 400) (hl : l.length ≤ 400) : ∀ (k i : Nat) (q : List (List U)) (nn : Bool), (i : Int) + k = t → q.length + k * l.length ≤ 60000 → EndZ 41 ctJ0 false (stOf (sT n t p l i q nn)) (shE p (q ++ repL l k) 0) [] 0
  | 0, i, q, nn, h, hq => by
    show EndZ _ _ _ _ (shE p (q ++ []) 0) _ _
    rw [List.append_nil]
    exact .done (last (by omega))
  | k + 1, i, q, nn, h, hq => by
    show EndZ _ _ _ _ (shE p (q ++ (l ++ repL l k)) 0) _ _
    rw [← List.append_assoc]
    rw [Nat.succ_mul] at hq
    exact .at ctJ0_ok (step (by omega) ht hl (by omega)) (loop ht hl k (i + 1) _ _ (by omega) (by rw [List.length_append]; omega))
theorem ends (n t : Int) (l : List (List U)) : EndZ 41 ctJ0 false (st0 41 [.agg [iv n, wl l], iv t]) (shE (timP n t l) (timL n t l) (timE n t l)) [] 0 := by
  have h := in_t n t l
  have he : timE n t l = bc (chk4 n l != 0) (chk4 n l) (bc (decide (t < 0)) 7 (bc (decide (400 < t)) 7 (bc (decide (400 < t * (l.length : Int))) 3 0))) := rfl
  cases h1 : (chk4 n l != 0) <;> rw [h1] at h he
  · have v := chk4_ok (ne0 h1)
    have g3 := v.len
    simp only [bc_f] at h he
    by_cases h2 : t < 0
    · simp only [dt h2, bc_t] at h he
      exact doneY h (timV he rfl).1.symm (timV he rfl).2.symm he.symm
    by_cases h3 : 400 < t
    · simp only [df h2, dt h3, bc_t, bc_f] at h he
      exact doneY h (timV he rfl).1.symm (timV he rfl).2.symm he.symm
    have b1 : 0 ≤ t * (l.length : Int) := Int.mul_nonneg (by omega) (by omega)
    have b2 : t * (l.length : Int) ≤ 400 * 400 := Int.mul_le_mul (by omega) (by omega) (by omega) (by omega)
    by_cases h4 : 400 < t * (l.length : Int)
    · simp (disch := omega) only [df h2, df h3, dt h4, bc_t, bc_f, ofn, wrap_in] at h he
      exact doneY h (timV he rfl).1.symm (timV he rfl).2.symm he.symm
    simp (disch := omega) only [df h2, df h3, df h4, bc_f, ofn, wrap_in] at h he
    obtain ⟨k, rfl⟩ : ∃ k : Nat, t = (k : Int) := ⟨t.toNat, by omega⟩
    have b3 : k * l.length ≤ 400 := by have : ((k * l.length : Nat) : Int) ≤ 400 := by rw [Int.natCast_mul]; omega
                                       omega
    have key := loop (n := n) (p := n) (t := k) (l := l) (by omega) g3 k 0 [] false (by omega) (by simp only [List.length_nil]; omega)
    rw [List.nil_append] at key
    rw [(timV0 he).1, (timV0 he).2, he, Int.toNat_natCast]
    exact .at ctJ0_ok h key
  · simp only [bc_t] at h he
    exact doneY h (timV he h1).1.symm (timV he h1).2.symm he.symm
end RTim
noncomputable def spRTim : ZCT := fun ax => match ax with
  | [.agg [.v (.int .i64 n), .lst (.recs [.int .i64, .int .i64, .str] l)], .v (.int .i64 t)] => some ⟨decide (True), shE (timP n t l) (timL n t l) (timE n t l), [], 0⟩
  | _ => none
theorem spRTim_ok : ZCtOk Try.prog 41 spRTim := fun γ w us ax r hs hc hax hN hfz => by
  unfold spRTim at hs
  split at hs
  case h_2 => cases hs
  rename_i n l t
  obtain ⟨rfl⟩ := Option.some.inj hs
  have hc_0 : decide (True) = true := hc
  have hc := of_decide_eq_true hc_0
  exact EndZ.calls (RTim.ends n t l) ctJ0_ok (by kernel_rfl) hax hN hfz
end Go.Proofs.Ytkbebiebaenbdaa.Ev
namespace Go.Proofs.Ytkbebiebaenbdaa.Ev
open Go.Proofs
noncomputable abbrev bl (l : List Bool) : EV := .lst (.bools l)
namespace RTou
noncomputable def RUN (s : ES) : ZF := RZ 78 .nil (fun _ => false) [] [] false s
theorem in_t (a b c d : Int) (u v : ByteArray) : RUN (st0 78 [.agg [iv a, iv b, sv u], .agg [iv c, iv d, sv v]]) = (bc (Decidable.decide (IntKind.wrap IntKind.i64 (b - d) ≤ (1 : Int)))
  (.done (EV.v (Value.bool (Decidable.decide (IntKind.wrap IntKind.i64 (d - b) ≤ (1 : Int))))) [] 0)
  (.done (EV.v (Value.bool false)) [] 0)) := by kernel_rfl
theorem ends (a b c d : Int) (u v : ByteArray) (h : -1000 ≤ b ∧ b ≤ 1000 ∧ -1000 ≤ d ∧ d ≤ 1000) : EndZ 78 .nil false (st0 78 [.agg [iv a, iv b, sv u], .agg [iv c, iv d, sv v]]) (bv (bc (decide (b - d ≤ 1)) (decide (d - b ≤ 1)) false)) [] 0 := by
  have h2 := in_t a b c d u v
  simp (disch := omega) only [wrap_in] at h2
  cases h3 : decide (b - d ≤ 1) <;> rw [h3] at h2 <;> exact .done h2
end RTou
noncomputable def spTou : ZCT := fun ax => match ax with
  | [.agg [.v (.int .i64 a), .v (.int .i64 b), .v (.string u)], .agg [.v (.int .i64 c), .v (.int .i64 d), .v (.string v)]] => some ⟨decide (-1000 ≤ b ∧ b ≤ 1000 ∧ -1000 ≤ d ∧ d ≤ 1000), bv (bc (decide (b - d ≤ 1)) (decide (d - b ≤ 1)) false), [], 0⟩
  | _ => none
theorem spTou_ok : ZCtOk Try.prog 78 spTou := fun γ w us ax r hs hc hax hN hfz => by
  unfold spTou at hs
  split at hs
  case h_2 => cases hs
  rename_i a b u c d v
  obtain ⟨rfl⟩ := Option.some.inj hs
  have hc_0 : decide (-1000 ≤ b ∧ b ≤ 1000 ∧ -1000 ≤ d ∧ d ≤ 1000) = true := hc
  have hc := of_decide_eq_true hc_0
  exact EndZ.calls (RTou.ends a b c d u v hc) (.nil _) (by kernel_rfl) hax hN hfz
noncomputable def ctK : Tr ZCC := Tr.nil.put 78 (some (dC spTou))
theorem ctK_ok : ZCtsOk Try.prog ctK := (ZCtsOk.nil _).add rfl spTou_ok
namespace RKep
noncomputable def RUN (s : ES) : ZF := RZs 44 ctK [(atS 0 44 3, [[(1,none),(2,none),(3,none),(7,none),(8,none)]]), (atS 0 44 7, [[(1,none),(2,none),(3,none),(7,none),(8,none),(9,none)]])] [] false s

noncomputable def sO (n a b : Int) (l : List (List U)) (m : Nat) (i : Int) (q : List Bool) : NS := ⟨[⟨44, 69, [(1, (EV.v (Value.int IntKind.i64 (a)))), (2, (EV.v (Value.int IntKind.i64 (b)))), (3, (EV.ptr 0 0)), (7, EV.slO 1 1 m true), (8, iv i)], [.it (.code (nav [1, 1, 0, 1, 0, 0, 0] (bodyOf Try.f44))), .it (.code (nav [1, 1, 0, 1, 0, 0, 1] (bodyOf Try.f44))), .it (.inLoop (nav [1, 1, 0, 1, 0, 0] (bodyOf Try.f44))), .it (.inBlock 0), .it (.code (nav [1, 1, 1] (bodyOf Try.f44)))], [], Option.none⟩], [(0, (EK.cells 24 [(EV.v (Value.int IntKind.i64 (n))), (EV.lst (SyC.recs [(Sh.int IntKind.i64), (Sh.int IntKind.i64), Sh.str] (l)))] true)), (1, EK.seq 4 (.bools q) true)], 2⟩
noncomputable def sI (n a b : Int) (l : List (List U)) (m : Nat) (i j : Int) (q : List Bool) : NS := ⟨[⟨44, 69, [(1, (EV.v (Value.int IntKind.i64 (a)))), (2, (EV.v (Value.int IntKind.i64 (b)))), (3, (EV.ptr 0 0)), (7, EV.slO 1 1 m true), (8, iv i), (9, iv j)], [.it (.code (nav [1, 1, 0, 1, 0, 0, 1, 0, 0, 1, 1, 0, 0, 0] (bodyOf Try.f44))), .it (.code (nav [1, 1, 0, 1, 0, 0, 1, 0, 0, 1, 1, 0, 0, 1] (bodyOf Try.f44))), .it (.inLoop (nav [1, 1, 0, 1, 0, 0, 1, 0, 0, 1, 1, 0, 0] (bodyOf Try.f44))), .it (.inBlock 2), .it (.inBlock 1), .it (.code (nav [1, 1, 0, 1, 0, 0, 1, 1] (bodyOf Try.f44))), .it (.inLoop (nav [1, 1, 0, 1, 0, 0] (bodyOf Try.f44))), .it (.inBlock 0), .it (.code (nav [1, 1, 1] (bodyOf Try.f44)))], [], Option.none⟩], [(0, EK.cells 24 [iv n, wl l] true), (1, EK.seq 4 (.bools q) true)], 2⟩
theorem in_t (n a b : Int) (l : List (List U)) : RUN (st0 44 [.agg [iv n, wl l], iv a, iv b]) = (bc (bc (Decidable.decide (Int.ofNat (List.length l) ≤ Int.ofNat (List.length l))) (Decidable.decide (Int.ofNat (List.length l) ≤ (65536 : Int))) Bool.false)
  (.at (sO (n) (a) (b) (l) (List.length (List.replicate (Int.toNat (Int.ofNat (List.length l))) Bool.false)) ((0 : Int)) (List.replicate (Int.toNat (Int.ofNat (List.length l))) Bool.false)))
  .bad) := by kernel_rfl
theorem o_t (n a b : Int) (l : List (List U)) (m : Nat) (i : Int) (q : List Bool) : RUN (stOf (sO n a b l m i q)) = (bc (Decidable.decide (i < Int.ofNat (List.length l)))
  (bc (bc (bc (Decidable.decide ((0 : Int) ≤ i)) (Nat.blt (Int.toNat i) (List.length l)) Bool.false) Bool.true Bool.false)
    (bc (bc (Nat.blt (Int.toNat i) (List.length l)) Bool.true Bool.false)
      (bc (Decidable.decide (a ≤ U.int (List.getD (List.getD l (Int.toNat i) []) (Nat.add (0 : Nat) (1 : Nat)) (U.i (0 : Int)))))
        (bc (bc (bc (Decidable.decide ((0 : Int) ≤ i)) (Nat.blt (Int.toNat i) (List.length l)) Bool.false) Bool.true Bool.false)
          (bc (bc (Nat.blt (Int.toNat i) (List.length l)) Bool.true Bool.false)
            (bc (bc (bc (Decidable.decide ((0 : Int) ≤ i)) (Nat.blt (Int.toNat i) m) Bool.false) Bool.true Bool.false)
              (bc (Nat.blt (Int.toNat i) (List.length q))
                (.at (sI (n) (a) (b) (l) (m) (i) ((0 : Int)) (List.set q (Int.toNat i) (Decidable.decide (U.int (List.getD (List.getD l (Int.toNat i) []) (Nat.add (0 : Nat) (1 : Nat)) (U.i (0 : Int))) < b)))))
                .bad)
              .bad)
            .bad)
          .bad)
        (bc (bc (bc (Decidable.decide ((0 : Int) ≤ i)) (Nat.blt (Int.toNat i) m) Bool.false) Bool.true Bool.false)
          (bc (Nat.blt (Int.toNat i) (List.length q))
            (.at (sI (n) (a) (b) (l) (m) (i) ((0 : Int)) (List.set q (Int.toNat i) Bool.false)))
            .bad)
          .bad))
      .bad)
    .bad)
  (bc (Nat.beq m (List.length q))
    (.done (EV.lst (SyC.bools (q))) [] 0)
    .bad)) := by kernel_rfl
theorem i_t (n a b : Int) (l : List (List U)) (m : Nat) (i j : Int) (q : List Bool) : RUN (stOf (sI n a b l m i j q)) = (bc (Decidable.decide (j < i))
  (bc (!List.getD q (Int.toNat j) Bool.false)
    (bc (bc (bc (bc (bc (Decidable.decide ((0 : Int) ≤ j)) (Nat.blt (Int.toNat j) m) Bool.false) Bool.true Bool.false) (bc (bc (Nat.blt (Int.toNat j) (List.length q)) Bool.true Bool.false) (bc (eqB (!List.getD q (Int.toNat j) Bool.false) Bool.true) (bc (bc (bc (Decidable.decide ((0 : Int) ≤ j)) (Nat.blt (Int.toNat j) (List.length l)) Bool.false) Bool.true Bool.false) (bc (bc (Nat.blt (Int.toNat j) (List.length l)) Bool.true Bool.false) (bc (bc (bc (Decidable.decide ((0 : Int) ≤ i)) (Nat.blt (Int.toNat i) (List.length l)) Bool.false) Bool.true Bool.false) (bc (bc (Nat.blt (Int.toNat i) (List.length l)) Bool.true Bool.false) (bc (bc (Decidable.decide ((-1000 : Int) ≤ U.int (List.getD (List.getD l (Int.toNat j) []) (Nat.succ (0 : Nat)) (U.i (0 : Int))) ∧ U.int (List.getD (List.getD l (Int.toNat j) []) (Nat.succ (0 : Nat)) (U.i (0 : Int))) ≤ (1000 : Int) ∧ (-1000 : Int) ≤ U.int (List.getD (List.getD l (Int.toNat i) []) (Nat.succ (0 : Nat)) (U.i (0 : Int))) ∧ U.int (List.getD (List.getD l (Int.toNat i) []) (Nat.succ (0 : Nat)) (U.i (0 : Int))) ≤ (1000 : Int))) Bool.true Bool.false) Bool.true Bool.false) Bool.false) Bool.false) Bool.false) Bool.false) Bool.false) Bool.false) Bool.false) Bool.true Bool.false)
      (bc (bc (Decidable.decide (U.int (List.getD (List.getD l (Int.toNat j) []) (Nat.succ (0 : Nat)) (U.i (0 : Int))) - U.int (List.getD (List.getD l (Int.toNat i) []) (Nat.succ (0 : Nat)) (U.i (0 : Int))) ≤ (1 : Int))) (Decidable.decide (U.int (List.getD (List.getD l (Int.toNat i) []) (Nat.succ (0 : Nat)) (U.i (0 : Int))) - U.int (List.getD (List.getD l (Int.toNat j) []) (Nat.succ (0 : Nat)) (U.i (0 : Int))) ≤ (1 : Int))) Bool.false)
        (bc (bc (bc (Decidable.decide ((0 : Int) ≤ i)) (Nat.blt (Int.toNat i) m) Bool.false) Bool.true Bool.false)
          (bc (Nat.blt (Int.toNat i) (List.length q))
            (.at (sI (n) (a) (b) (l) (m) (i) (IntKind.wrap IntKind.i64 (j + (1 : Int))) (List.set q (Int.toNat i) Bool.false)))
            .bad)
          .bad)
        (.at (sI (n) (a) (b) (l) (m) (i) (IntKind.wrap IntKind.i64 (j + (1 : Int))) (q))))
      .bad)
    (bc (bc (bc (bc (bc (Decidable.decide ((0 : Int) ≤ j)) (Nat.blt (Int.toNat j) m) Bool.false) Bool.true Bool.false) (bc (bc (Nat.blt (Int.toNat j) (List.length q)) Bool.true Bool.false) (bc (eqB (!List.getD q (Int.toNat j) Bool.false) Bool.false) Bool.true Bool.false) Bool.false) Bool.false) Bool.true Bool.false)
      (.at (sI (n) (a) (b) (l) (m) (i) (IntKind.wrap IntKind.i64 (j + (1 : Int))) (q)))
      .bad))
  (.at (sO (n) (a) (b) (l) (m) (IntKind.wrap IntKind.i64 (i + (1 : Int))) (q)))) := by kernel_rfl
end RKep
noncomputable def tch (x y : List U) : Bool := bc (decide (rA x - rA y ≤ 1)) (decide (rA y - rA x ≤ 1)) false
noncomputable def inB (l : List (List U)) (q : List Bool) (i j : Nat) : Nat → Bool
  | 0 => false
  | k + 1 => bc (bc (!q.getD j false) (tch (l.getD j []) (l.getD i [])) false) true (inB l q i (j + 1) k)
theorem eqBt : eqB true true = true := rfl
theorem eqBf : eqB false false = true := rfl
def AtG (l : List (List U)) : Prop := ∀ j, j < l.length → -1000 ≤ rA (l.getD j []) ∧ rA (l.getD j []) ≤ 1000
noncomputable instance AtG.dec (l : List (List U)) : Decidable (AtG l) := Classical.propDecidable _
namespace RKep
theorem istep {n a b : Int} {l : List (List U)} {i j : Nat} {q : List Bool} (hl : l.length ≤ 1000) (hq : q.length = l.length) (hi : i < l.length) (hj : j < i) (ha : AtG l) : RUN (stOf (sI n a b l l.length i j q)) = .at (sI n a b l l.length i (j + 1 : Nat) (bc (bc (!q.getD j false) (tch (l.getD j []) (l.getD i [])) false) (q.set i false) q)) := by
  rw [i_t]
  have h1 := ha j (by omega)
  have h2 := ha i hi
  have h3 : -1000 ≤ rA (l.getD j []) ∧ rA (l.getD j []) ≤ 1000 ∧ -1000 ≤ rA (l.getD i []) ∧ rA (l.getD i []) ≤ 1000 := ⟨h1.1, h1.2, h2.1, h2.2⟩
  cases hb : q.getD j false
  · simp (disch := omega) only [Nat.add_eq, eqSy_self, eqN_self, bc_same, List.length_cons, ofn, wrap_in, dt, df, bltD, bltN, ble_of, bleN, beqD, bc_t, bc_f, nn_ok, Nat.zero_add, to_nat, Int.zero_add, Int.sub_zero, Int.sub_self, Int.cast_ofNat_Int, Int.natCast_zero, Int.toNat_zero, List.take_zero, List.nil_append, List.length_append, List.length_nil, fK0, fK1, fA0, fA1, fA2, fW0, fW1, fW2, hb, hq, dt h3, Bool.not_false, eqBt, bc_bc]
    unfold tch
    cases decide (rA (l.getD j []) - rA (l.getD i []) ≤ 1)
    · rfl
    · cases decide (rA (l.getD i []) - rA (l.getD j []) ≤ 1) <;> rfl
  · simp (disch := omega) only [Nat.add_eq, eqSy_self, eqN_self, bc_same, List.length_cons, ofn, wrap_in, dt, df, bltD, bltN, ble_of, bleN, beqD, bc_t, bc_f, nn_ok, Nat.zero_add, to_nat, Int.zero_add, Int.sub_zero, Int.sub_self, Int.cast_ofNat_Int, Int.natCast_zero, Int.toNat_zero, List.take_zero, List.nil_append, List.length_append, List.length_nil, fK0, fK1, fA0, fA1, fA2, fW0, fW1, fW2, hb, hq, Bool.not_true, eqBf, bc_bc]
    rfl
theorem ilast {n a b : Int} {l : List (List U)} {i j : Nat} {q : List Bool} (hl : l.length ≤ 1000) (hi : i < l.length) (hj : i ≤ j) : RUN (stOf (sI n a b l l.length i j q)) = .at (sO n a b l l.length (i + 1 : Nat) q) := by
  rw [i_t]
  simp (disch := omega) only [Nat.add_eq, eqSy_self, eqN_self, bc_same, List.length_cons, ofn, wrap_in, dt, df, bltD, bltN, ble_of, bleN, beqD, bc_t, bc_f, nn_ok, Nat.zero_add, to_nat, Int.zero_add, Int.sub_zero, Int.sub_self, Int.cast_ofNat_Int, Int.natCast_zero, Int.toNat_zero, List.take_zero, List.nil_append, List.length_append, List.length_nil]
  rfl
theorem inner {n a b : Int} {l : List (List U)} {i : Nat} {V : EV} (hl : l.length ≤ 1000) (hi : i < l.length) (ha : AtG l) : ∀ (k j : Nat) (q : List Bool), j + k = i → q.length = l.length → EndZ 44 ctK false (stOf (sO n a b l l.length (i + 1 : Nat) (bc (inB l q i j k) (q.set i false) q))) V [] 0 → EndZ 44 ctK false (stOf (sI n a b l l.length i j q)) V [] 0
  | 0, j, q, h, hq, H => .at ctK_ok (ilast hl hi (by omega)) H
  | k + 1, j, q, h, hq, H => by
    have hs := istep (n := n) (a := a) (b := b) hl hq hi (show j < i by omega) ha
    unfold inB at H
    cases hc : bc (!q.getD j false) (tch (l.getD j []) (l.getD i [])) false <;> rw [hc] at hs H
    · exact .at ctK_ok hs (inner hl hi ha k (j + 1) q (by omega) hq H)
    · refine .at ctK_ok hs (inner hl hi ha k (j + 1) (q.set i false) (by omega) (by rw [List.length_set]; exact hq) ?_)
      rw [List.set_set]
      have e : ∀ x : Bool, bc x (q.set i false) (q.set i false) = q.set i false := fun x => by cases x <;> rfl
      rw [e]
      exact H
end RKep
noncomputable def rng (a b : Int) (r : List U) : Bool := bc (decide (a ≤ rA r)) (decide (rA r < b)) false
noncomputable def outF (l : List (List U)) (a b : Int) (q : List Bool) (i : Nat) : List Bool := bc (inB l (q.set i (rng a b (l.getD i []))) i 0 i) ((q.set i (rng a b (l.getD i []))).set i false) (q.set i (rng a b (l.getD i [])))
theorem outF_len (l : List (List U)) (a b : Int) (q : List Bool) (i : Nat) : (outF l a b q i).length = q.length := by
  unfold outF
  cases inB l (q.set i (rng a b (l.getD i []))) i 0 i
  · exact List.length_set
  · show ((q.set i _).set i false).length = _
    rw [List.length_set, List.length_set]
noncomputable def kepF (l : List (List U)) (a b : Int) (i : Nat) (q : List Bool) : Nat → List Bool
  | 0 => q
  | k + 1 => kepF l a b (i + 1) (outF l a b q i) k
noncomputable def kepL (a b : Int) (l : List (List U)) : List Bool := kepF l a b 0 (List.replicate l.length false) l.length
namespace RKep
theorem ostep {n a b : Int} {l : List (List U)} {i : Nat} {q : List Bool} (hl : l.length ≤ 1000) (hq : q.length = l.length) (hi : i < l.length) : RUN (stOf (sO n a b l l.length i q)) = .at (sI n a b l l.length i (0 : Nat) (q.set i (rng a b (l.getD i [])))) := by
  rw [o_t]
  unfold rng
  by_cases h : a ≤ rA (l.getD i [])
  · simp (disch := omega) only [Nat.add_eq, eqSy_self, eqN_self, bc_same, List.length_cons, ofn, wrap_in, dt, df, bltD, bltN, ble_of, bleN, beqD, bc_t, bc_f, nn_ok, Nat.zero_add, to_nat, Int.zero_add, Int.sub_zero, Int.sub_self, Int.cast_ofNat_Int, Int.natCast_zero, Int.toNat_zero, List.take_zero, List.nil_append, List.length_append, List.length_nil, fK0, fK1, fA0, fA1, fA2, fW0, fW1, fW2, hq, dt h]
  · simp (disch := omega) only [Nat.add_eq, eqSy_self, eqN_self, bc_same, List.length_cons, ofn, wrap_in, dt, df, bltD, bltN, ble_of, bleN, beqD, bc_t, bc_f, nn_ok, Nat.zero_add, to_nat, Int.zero_add, Int.sub_zero, Int.sub_self, Int.cast_ofNat_Int, Int.natCast_zero, Int.toNat_zero, List.take_zero, List.nil_append, List.length_append, List.length_nil, fK0, fK1, fA0, fA1, fA2, fW0, fW1, fW2, hq, df h]
theorem olast {n a b : Int} {l : List (List U)} {i : Nat} {q : List Bool} (hq : q.length = l.length) (hi : l.length ≤ i) : RUN (stOf (sO n a b l l.length i q)) = .done (bl q) [] 0 := by
  rw [o_t]
  rw [← hq]
  rw [← hq] at hi
  simp (disch := omega) only [Nat.add_eq, eqSy_self, eqN_self, bc_same, List.length_cons, ofn, wrap_in, dt, df, bltD, bltN, ble_of, bleN, beqD, bc_t, bc_f, nn_ok, Nat.zero_add, to_nat, Int.zero_add, Int.sub_zero, Int.sub_self, Int.cast_ofNat_Int, Int.natCast_zero, Int.toNat_zero, List.take_zero, List.nil_append, List.length_append, List.length_nil, hq]
theorem oloop {n a b : Int} {l : List (List U)} (hl : l.length ≤ 1000) (ha : AtG l) : ∀ (k i : Nat) (q : List Bool), i + k = l.length → q.length = l.length → EndZ 44 ctK false (stOf (sO n a b l l.length i q)) (bl (kepF l a b i q k)) [] 0
  | 0, i, q, h, hq => .done (olast hq (by omega))
  | k + 1, i, q, h, hq => by
    have hi : i < l.length := by omega
    exact .at ctK_ok (ostep hl hq hi) (inner hl hi ha i 0 _ (by omega) (by rw [List.length_set]; exact hq) (oloop hl ha k (i + 1) (outF l a b q i) (by omega) (by rw [outF_len]; exact hq)))
theorem ends (n a b : Int) (l : List (List U)) (hl : l.length ≤ 1000) (ha : AtG l) : EndZ 44 ctK false (st0 44 [.agg [iv n, wl l], iv a, iv b]) (bl (kepL a b l)) [] 0 := by
  have h := in_t n a b l
  have e : Int.toNat (Int.ofNat l.length) = l.length := rfl
  simp (disch := omega) only [e, List.length_replicate, Nat.add_eq, eqSy_self, eqN_self, bc_same, List.length_cons, ofn, wrap_in, dt, df, bltD, bltN, ble_of, bleN, beqD, bc_t, bc_f, nn_ok, Nat.zero_add, to_nat, Int.zero_add, Int.sub_zero, Int.sub_self, Int.cast_ofNat_Int, Int.natCast_zero, Int.toNat_zero, List.take_zero, List.nil_append, List.length_append, List.length_nil] at h
  exact .at ctK_ok h (oloop hl ha l.length 0 _ (by omega) List.length_replicate)
end RKep
theorem AtOk.g {l : List (List U)} (h : AtOk l) : AtG l := fun j hj => by
  rw [getD_at hj]
  have := h _ (List.getElem_mem hj)
  omega
noncomputable def spKep : ZCT := fun ax => match ax with
  | [.agg [.v (.int .i64 n), .lst (.recs [.int .i64, .int .i64, .str] l)], .v (.int .i64 a), .v (.int .i64 b)] => some ⟨decide (l.length ≤ 1000 ∧ AtOk l), bl (kepL a b l), [], 0⟩
  | _ => none
theorem spKep_ok : ZCtOk Try.prog 44 spKep := fun γ w us ax r hs hc hax hN hfz => by
  unfold spKep at hs
  split at hs
  case h_2 => cases hs
  rename_i n l a b
  obtain ⟨rfl⟩ := Option.some.inj hs
  have hc_0 : decide (l.length ≤ 1000 ∧ AtOk l) = true := hc
  have hc := of_decide_eq_true hc_0
  exact EndZ.calls (RKep.ends n a b l hc.1 hc.2.g) ctK_ok (by kernel_rfl) hax hN hfz
noncomputable def ctCu : Tr ZCC := ctJ0.put 44 (some (dC spKep))
theorem ctCu_ok : ZCtsOk Try.prog ctCu := ctJ0_ok.add rfl spKep_ok
noncomputable def dnR (a : Int) (r : List U) : List U := mkR (rK r) (rA r - a) (rW r)
noncomputable def cutG (ks : List Bool) (l : List (List U)) (a : Int) (i : Nat) : Nat → List (List U)
  | 0 => []
  | k + 1 => bc (ks.getD i false) (dnR a (l.getD i []) :: cutG ks l a (i + 1) k) (cutG ks l a (i + 1) k)
noncomputable def cutE (n a b : Int) (l : List (List U)) : Int := bc (chk4 n l != 0) (chk4 n l) (bc (decide (a < 0)) 7 (bc (decide (n ≤ b)) 7 (bc (decide (b ≤ a)) 7 0)))
noncomputable def cutP (n a b : Int) (l : List (List U)) : Int := bc (cutE n a b l != 0) 0 (b - a + 1)
noncomputable def cutL (n a b : Int) (l : List (List U)) : List (List U) := bc (cutE n a b l != 0) [] (cutG (kepL a b l) l a 0 l.length)
theorem cutV {n a b : Int} {l : List (List U)} {e : Int} (h : cutE n a b l = e) (he : (e != 0) = true) : cutP n a b l = 0 ∧ cutL n a b l = [] := by unfold cutP cutL; rw [h, he]; exact ⟨rfl, rfl⟩
theorem cutV0 {n a b : Int} {l : List (List U)} (h : cutE n a b l = 0) : cutP n a b l = b - a + 1 ∧ cutL n a b l = cutG (kepL a b l) l a 0 l.length := by unfold cutP cutL; rw [h]; exact ⟨rfl, rfl⟩
theorem kepF_len (l : List (List U)) (a b : Int) : ∀ (k i : Nat) (q : List Bool), (kepF l a b i q k).length = q.length
  | 0, i, q => rfl
  | k + 1, i, q => by unfold kepF; rw [kepF_len l a b k (i + 1), outF_len]
theorem kepL_len (a b : Int) (l : List (List U)) : (kepL a b l).length = l.length := by unfold kepL; rw [kepF_len, List.length_replicate]
namespace RCut
noncomputable def RUN (s : ES) : ZF := RZ 34 ctCu (atS 0 34 9) [] [[(1,none),(2,none),(3,none),(6,none),(9,none),(10,some (3, 81, .recs shW [])),(11,none)]] false s

noncomputable def sC (n p a b : Int) (l : List (List U)) (ks : List Bool) (i : Int) (q : List (List U)) (nn : Bool) : NS := ⟨[⟨34, 70, [(1, (EV.v (Value.int IntKind.i64 (a)))), (2, (EV.v (Value.int IntKind.i64 (b)))), (3, (EV.ptr 0 0)), (6, (EV.ptr 1 0)), (9, bl ks), (10, (EV.ptr 2 0)), (11, iv i)], [.it (.code (nav [1, 1, 1, 1, 1, 1, 0, 1, 0, 0, 0] (bodyOf Try.f34))), .it (.code (nav [1, 1, 1, 1, 1, 1, 0, 1, 0, 0, 1] (bodyOf Try.f34))), .it (.inLoop (nav [1, 1, 1, 1, 1, 1, 0, 1, 0, 0] (bodyOf Try.f34))), .it (.inBlock 0), .it (.code (nav [1, 1, 1, 1, 1, 1, 1] (bodyOf Try.f34)))], [], Option.none⟩], [(0, (EK.cells 24 [(EV.v (Value.int IntKind.i64 (n))), (EV.lst (SyC.recs [(Sh.int IntKind.i64), (Sh.int IntKind.i64), Sh.str] (l)))] true)), (1, (EK.cells 24 [(EV.v (Value.int IntKind.i64 (0))), (EV.v (Value.slice Option.none 0 0))] true)), (2, EK.cells 24 [iv p, EV.slO 3 3 q.length nn] true), (3, EK.seq 81 (.recs shW q) nn)], 4⟩
theorem in_t (n a b : Int) (l : List (List U)) : RUN (st0 34 [.agg [iv n, wl l], iv a, iv b]) = (bc (chk4 n l != (0 : Int))
  (.done (EV.tup [(EV.v (Value.agg (Array.mk [(Value.int IntKind.i64 (0)), (Value.slice Option.none 0 0)]))), (EV.v (Value.int IntKind.i64 (chk4 n l)))]) [] 0)
  (bc (Decidable.decide (a < (0 : Int)))
    (.done (EV.tup [(EV.v (Value.agg (Array.mk [(Value.int IntKind.i64 (0)), (Value.slice Option.none 0 0)]))), (EV.v (Value.int IntKind.i64 (7)))]) [] 0)
    (bc (Decidable.decide (n ≤ b))
      (.done (EV.tup [(EV.v (Value.agg (Array.mk [(Value.int IntKind.i64 (0)), (Value.slice Option.none 0 0)]))), (EV.v (Value.int IntKind.i64 (7)))]) [] 0)
      (bc (Decidable.decide (b ≤ a))
        (.done (EV.tup [(EV.v (Value.agg (Array.mk [(Value.int IntKind.i64 (0)), (Value.slice Option.none 0 0)]))), (EV.v (Value.int IntKind.i64 (7)))]) [] 0)
        (bc (Decidable.decide (List.length l ≤ (1000 : Nat) ∧ AtOk l))
          (.at (sC (n) (IntKind.wrap IntKind.i64 (IntKind.wrap IntKind.i64 (b - a) + (1 : Int))) (a) (b) (l) (kepL a b l) ((0 : Int)) ([]) (Bool.false)))
          .bad))))) := by kernel_rfl
theorem step_t (n p a b : Int) (l : List (List U)) (ks : List Bool) (i : Int) (q : List (List U)) (nn : Bool) : RUN (stOf (sC n p a b l ks i q nn)) = (bc (Decidable.decide (i < Int.ofNat (List.length l)))
  (bc (bc (bc (Decidable.decide ((0 : Int) ≤ i)) (Nat.blt (Int.toNat i) (List.length ks)) Bool.false) Bool.true Bool.false)
    (bc (bc (Nat.blt (Int.toNat i) (List.length ks)) Bool.true Bool.false)
      (bc (List.getD ks (Int.toNat i) Bool.false)
        (bc (bc (bc (Decidable.decide ((0 : Int) ≤ i)) (Nat.blt (Int.toNat i) (List.length l)) Bool.false) Bool.true Bool.false)
          (bc (bc (Nat.blt (Int.toNat i) (List.length l)) Bool.true Bool.false)
            (bc (bc (Nat.beq (List.length q) (List.length q)) (bc (Nat.ble (List.length q + List.length [[U.i (U.int (List.getD (List.getD l (Int.toNat i) []) (0 : Nat) (U.i (0 : Int)))), U.i (IntKind.wrap IntKind.i64 (U.int (List.getD (List.getD l (Int.toNat i) []) (Nat.succ (0 : Nat)) (U.i (0 : Int))) - a)), U.s (U.str (List.getD (List.getD l (Int.toNat i) []) (Nat.succ (Nat.succ (0 : Nat))) (U.i (0 : Int))))]]) (65536 : Nat)) (bc nn Bool.true (bc nn Bool.false Bool.true)) Bool.false) Bool.false)
              (.at (sC (n) (p) (a) (b) (l) (ks) (IntKind.wrap IntKind.i64 (i + (1 : Int))) (q ++ [[U.i (U.int (List.getD (List.getD l (Int.toNat i) []) (0 : Nat) (U.i (0 : Int)))), U.i (IntKind.wrap IntKind.i64 (U.int (List.getD (List.getD l (Int.toNat i) []) (Nat.succ (0 : Nat)) (U.i (0 : Int))) - a)), U.s (U.str (List.getD (List.getD l (Int.toNat i) []) (Nat.succ (Nat.succ (0 : Nat))) (U.i (0 : Int))))]]) (bc nn Bool.true (Nat.blt (0 : Nat) (List.length [[U.i (U.int (List.getD (List.getD l (Int.toNat i) []) (0 : Nat) (U.i (0 : Int)))), U.i (IntKind.wrap IntKind.i64 (U.int (List.getD (List.getD l (Int.toNat i) []) (Nat.succ (0 : Nat)) (U.i (0 : Int))) - a)), U.s (U.str (List.getD (List.getD l (Int.toNat i) []) (Nat.succ (Nat.succ (0 : Nat))) (U.i (0 : Int))))]])))))
              .bad)
            .bad)
          .bad)
        (.at (sC (n) (p) (a) (b) (l) (ks) (IntKind.wrap IntKind.i64 (i + (1 : Int))) (q) (nn))))
      .bad)
    .bad)
  (bc (bc (bc (Nat.beq (List.length q) (List.length q)) Bool.true Bool.false) Bool.true Bool.false)
    (.done (EV.tup [(EV.agg [(EV.v (Value.int IntKind.i64 (p))), (EV.lst (SyC.recs [(Sh.int IntKind.i64), (Sh.int IntKind.i64), Sh.str] (q)))]), (EV.v (Value.int IntKind.i64 (0)))]) [] 0)
    .bad)) := by kernel_rfl
theorem step {n p a b : Int} {l : List (List U)} {ks : List Bool} {i : Nat} {q : List (List U)} {nn : Bool} (hi : i < l.length) (hl : l.length ≤ 1000) (hk : ks.length = l.length) (hq : q.length ≤ 1000) (ha : -1000 ≤ rA (l.getD i []) ∧ rA (l.getD i []) ≤ 1000) (h2 : -1000 ≤ a ∧ a ≤ 1000) : RUN (stOf (sC n p a b l ks i q nn)) = bc (ks.getD i false) (.at (sC n p a b l ks (i + 1 : Nat) (q ++ [dnR a (l.getD i [])]) true)) (.at (sC n p a b l ks (i + 1 : Nat) q nn)) := by
  rw [step_t]
  cases hb : ks.getD i false <;> simp (disch := omega) only [Nat.add_eq, eqSy_self, eqN_self, bc_same, List.length_cons, ofn, wrap_in, dt, df, bltD, bltN, ble_of, bleN, beqD, bc_t, bc_f, nn_ok, Nat.zero_add, to_nat, Int.zero_add, Int.sub_zero, Int.sub_self, Int.cast_ofNat_Int, Int.natCast_zero, Int.toNat_zero, List.take_zero, List.nil_append, List.length_append, List.length_nil, hk, hb, fK0, fK1, fA0, fA1, fA2, fW0, fW1, fW2] <;> rfl
theorem last {n p a b : Int} {l : List (List U)} {ks : List Bool} {i : Nat} {q : List (List U)} {nn : Bool} (hi : l.length ≤ i) : RUN (stOf (sC n p a b l ks i q nn)) = .done (shE p q 0) [] 0 := by
  rw [step_t]
  simp (disch := omega) only [Nat.add_eq, eqSy_self, eqN_self, bc_same, List.length_cons, ofn, wrap_in, dt, df, bltD, bltN, ble_of, bleN, beqD, bc_t, bc_f, nn_ok, Nat.zero_add, to_nat, Int.zero_add, Int.sub_zero, Int.sub_self, Int.cast_ofNat_Int, Int.natCast_zero, Int.toNat_zero, List.take_zero, List.nil_append, List.length_append, List.length_nil]
  rfl
theorem loop {n p a b : Int} {l : List (List U)} {ks : List Bool} (hl : l.length ≤ 1000) (hk : ks.length = l.length) (ha : AtG l) (h2 : -1000 ≤ a ∧ a ≤ 1000) : ∀ (m i : Nat) (q : List (List U)) (nn : Bool), i + m = l.length → q.length ≤ i → EndZ 34 ctCu false (stOf (sC n p a b l ks i q nn)) (shE p (q ++ cutG ks l a i m) 0) [] 0
  | 0, i, q, nn, h, hq => by
    show EndZ _ _ _ _ (shE p (q ++ []) 0) _ _
    rw [List.append_nil]
    exact .done (last (by omega))
  | m + 1, i, q, nn, h, hq => by
    have hi : i < l.length := by omega
    have hs := step (n := n) (p := p) (b := b) (nn := nn) hi hl hk (show q.length ≤ 1000 by omega) (ha i hi) h2
    unfold cutG
    cases hb : ks.getD i false <;> rw [hb] at hs
    · exact .at ctCu_ok hs (loop hl hk ha h2 m (i + 1) q nn (by omega) (by omega))
    · show EndZ _ _ _ _ (shE p (q ++ (dnR a (l.getD i []) :: cutG ks l a (i + 1) m)) 0) _ _
      rw [show q ++ (dnR a (l.getD i []) :: cutG ks l a (i + 1) m) = (q ++ [dnR a (l.getD i [])]) ++ cutG ks l a (i + 1) m by simp]
      exact .at ctCu_ok hs (loop hl hk ha h2 m (i + 1) _ true (by omega) (by simp; omega))
theorem ends (n a b : Int) (l : List (List U)) : EndZ 34 ctCu false (st0 34 [.agg [iv n, wl l], iv a, iv b]) (shE (cutP n a b l) (cutL n a b l) (cutE n a b l)) [] 0 := by
  have h := in_t n a b l
  have he : cutE n a b l = bc (chk4 n l != 0) (chk4 n l) (bc (decide (a < 0)) 7 (bc (decide (n ≤ b)) 7 (bc (decide (b ≤ a)) 7 0))) := rfl
  cases h1 : (chk4 n l != 0) <;> rw [h1] at h he
  · have v := chk4_ok (ne0 h1)
    have g1 := v.lo
    have g2 := v.hi
    have g3 := v.len
    simp only [bc_f] at h he
    by_cases h2 : a < 0
    · simp only [dt h2, bc_t] at h he
      exact doneY h (cutV he rfl).1.symm (cutV he rfl).2.symm he.symm
    by_cases h3 : n ≤ b
    · simp only [df h2, dt h3, bc_t, bc_f] at h he
      exact doneY h (cutV he rfl).1.symm (cutV he rfl).2.symm he.symm
    by_cases h4 : b ≤ a
    · simp only [df h2, df h3, dt h4, bc_t, bc_f] at h he
      exact doneY h (cutV he rfl).1.symm (cutV he rfl).2.symm he.symm
    have hq : l.length ≤ 1000 ∧ AtOk l := ⟨by omega, v.at⟩
    simp (disch := omega) only [df h2, df h3, df h4, dt hq, bc_t, bc_f, wrap_in] at h he
    have key := loop (n := n) (p := b - a + 1) (a := a) (b := b) (l := l) (by omega) (kepL_len a b l) v.at.g ⟨by omega, by omega⟩ l.length 0 [] false (by omega) (by simp)
    rw [List.nil_append] at key
    rw [(cutV0 he).1, (cutV0 he).2, he]
    exact .at ctCu_ok h key
  · simp only [bc_t] at h he
    exact doneY h (cutV he h1).1.symm (cutV he h1).2.symm he.symm
end RCut
noncomputable def spRCut : ZCT := fun ax => match ax with
  | [.agg [.v (.int .i64 n), .lst (.recs [.int .i64, .int .i64, .str] l)], .v (.int .i64 a), .v (.int .i64 b)] => some ⟨decide (True), shE (cutP n a b l) (cutL n a b l) (cutE n a b l), [], 0⟩
  | _ => none
theorem spRCut_ok : ZCtOk Try.prog 34 spRCut := fun γ w us ax r hs hc hax hN hfz => by
  unfold spRCut at hs
  split at hs
  case h_2 => cases hs
  rename_i n l a b
  obtain ⟨rfl⟩ := Option.some.inj hs
  have hc_0 : decide (True) = true := hc
  have hc := of_decide_eq_true hc_0
  exact EndZ.calls (RCut.ends n a b l) ctCu_ok (by kernel_rfl) hax hN hfz
end Go.Proofs.Ytkbebiebaenbdaa.Ev
namespace Go.Proofs.Ytkbebiebaenbdaa.Ev
namespace MatchP
section
variable {α : Type} (eq tch : α → α → Bool)
def firstI (p : Nat → Bool) : Nat → Nat → Option Nat
  | 0, _ => none
  | m + 1, i => if p i = true then some i else firstI p m (i + 1)
def readyF (a : Nat → α) (done : Nat → Bool) (i : Nat) : Bool := !done i && (List.range i).all fun k => done k || !tch (a k) (a i)
def upd (done : Nat → Bool) (i : Nat) : Nat → Bool := fun j => if j = i then true else done j
def matchF (n : Nat) (a : Nat → α) : (Nat → Bool) → List α → Bool
  | _, [] => true
  | done, x :: xs => match firstI (fun i => eq (a i) x && readyF tch a done i) n 0 with
    | none => false
    | some i => matchF n a (upd done i) xs
theorem firstI_eq {p : Nat → Bool} {q : Nat} (hq : p q = true) : ∀ (m i : Nat), i ≤ q → q < i + m → (∀ j, i ≤ j → j < q → p j = false) → firstI p m i = some q
  | 0, i, h1, h2, _ => by omega
  | m + 1, i, h1, h2, h3 => by
    unfold firstI
    by_cases e : i = q
    · subst e; rw [if_pos hq]
    · rw [if_neg (by rw [h3 i (Nat.le_refl _) (by omega)]; simp)]
      exact firstI_eq hq m (i + 1) (by omega) (by omega) fun j hj => h3 j (by omega)
variable {eq tch}
theorem matchF_of {n : Nat} {a : Nat → α} (hrefl : ∀ i, eq (a i) (a i) = true) (heq : ∀ i j, eq (a i) (a j) = true → tch (a i) (a j) = true) :
    ∀ (ord : List Nat) (done : Nat → Bool), (∀ i, i ∈ ord → i < n) → ord.Nodup → (∀ i, i < n → (done i = false ↔ i ∈ ord)) → ord.Pairwise (fun p q => ¬ (q < p ∧ tch (a q) (a p) = true)) → matchF eq tch n a done (ord.map a) = true
  | [], done, _, _, _, _ => rfl
  | p :: ord, done, hlt, hnd, hdone, hpw => by
    obtain ⟨hp, hnd'⟩ := List.nodup_cons.1 hnd
    obtain ⟨hpp, hpw'⟩ := List.pairwise_cons.1 hpw
    have hpn := hlt p (by simp)
    have hdp : done p = false := (hdone p hpn).2 (by simp)
    have hfirst : firstI (fun i => eq (a i) (a p) && readyF tch a done i) n 0 = some p := by
      refine firstI_eq ?_ n 0 (Nat.zero_le _) (by omega) fun j _ hj => ?_
      · simp only [Bool.and_eq_true]
        refine ⟨hrefl p, ?_⟩
        unfold readyF
        simp only [Bool.and_eq_true, Bool.not_eq_true', List.all_eq_true, List.mem_range, Bool.or_eq_true]
        refine ⟨hdp, fun k hk => ?_⟩
        by_cases hd : done k = true
        · exact .inl hd
        · right
          have hd : done k = false := by simpa using hd
          have hm := (hdone k (by omega)).1 hd
          have hm : k ∈ ord := by
            rcases List.mem_cons.1 hm with h | h
            · omega
            · exact h
          have := hpp k hm
          cases ht : tch (a k) (a p)
          · rfl
          · exact absurd ⟨hk, ht⟩ this
      · by_cases he : eq (a j) (a p) = true
        · by_cases hr : readyF tch a done j = true
          · exfalso
            unfold readyF at hr
            simp only [Bool.and_eq_true, Bool.not_eq_true'] at hr
            have hm := (hdone j (by omega)).1 hr.1
            have hm : j ∈ ord := by
              rcases List.mem_cons.1 hm with h | h
              · omega
              · exact h
            exact hpp j hm ⟨hj, heq j p he⟩
          · simp [hr]
        · simp [he]
    show (match firstI (fun i => eq (a i) (a p) && readyF tch a done i) n 0 with
      | none => false
      | some i => matchF eq tch n a (upd done i) (ord.map a)) = true
    rw [hfirst]
    refine matchF_of hrefl heq ord (upd done p) (fun i hi => hlt i (by simp [hi])) hnd' (fun i hi => ?_) hpw'
    unfold upd
    by_cases e : i = p
    · subst e; simp [hp]
    · rw [if_neg e, hdone i hi]
      simp [e]
/-- exchanged stretches that do not touch -/
theorem matchF_swap {x y z v : Nat} {a : Nat → α} (hrefl : ∀ i, eq (a i) (a i) = true) (heq : ∀ i j, eq (a i) (a j) = true → tch (a i) (a j) = true)
    (hno : ∀ i j, i < y → j < z → tch (a (x + i)) (a (x + y + j)) = false) :
    matchF eq tch (x + y + z + v) a (fun _ => false) (((List.range x) ++ ((List.range z).map (x + y + ·)) ++ ((List.range y).map (x + ·)) ++ ((List.range v).map (x + y + z + ·))).map a) = true := by
  refine matchF_of hrefl heq _ _ (fun i hi => ?_) ?_ (fun i hi => ?_) ?_
  · simp only [List.mem_append, List.mem_map, List.mem_range] at hi
    rcases hi with ((h | ⟨j, h, rfl⟩) | ⟨j, h, rfl⟩) | ⟨j, h, rfl⟩ <;> omega
  · have inj : ∀ k m : Nat, ((List.range m).map (k + ·)).Nodup := fun k m => by
      rw [List.nodup_iff_pairwise_ne, List.pairwise_map]
      exact (List.nodup_range (n := m)).imp fun h e => h (by omega)
    simp only [List.nodup_append, List.mem_append, List.mem_map, List.mem_range]
    refine ⟨⟨⟨List.nodup_range, inj _ _, ?_⟩, inj _ _, ?_⟩, inj _ _, ?_⟩
    · rintro i h j ⟨k, hk, rfl⟩; omega
    · rintro i (h | ⟨k, hk, rfl⟩) j ⟨k2, hk2, rfl⟩ <;> omega
    · rintro i ((h | ⟨k, hk, rfl⟩) | ⟨k, hk, rfl⟩) j ⟨k2, hk2, rfl⟩ <;> omega
  · simp only [List.mem_append, List.mem_map, List.mem_range, true_iff]
    by_cases h1 : i < x
    · exact .inl (.inl (.inl h1))
    by_cases h2 : i < x + y
    · exact .inl (.inr ⟨i - x, by omega, by omega⟩)
    by_cases h3 : i < x + y + z
    · exact .inl (.inl (.inr ⟨i - (x + y), by omega, by omega⟩))
    · exact .inr ⟨i - (x + y + z), by omega, by omega⟩
  · have up : ∀ k m : Nat, ((List.range m).map (k + ·)).Pairwise (fun p q => ¬ (q < p ∧ tch (a q) (a p) = true)) := fun k m => by
      rw [List.pairwise_map]
      exact (List.pairwise_lt_range (n := m)).imp fun h e => by omega
    have up0 : (List.range x).Pairwise (fun p q => ¬ (q < p ∧ tch (a q) (a p) = true)) := (List.pairwise_lt_range (n := x)).imp fun h e => by omega
    simp only [List.pairwise_append, List.mem_append, List.mem_map, List.mem_range]
    refine ⟨⟨⟨up0, up _ _, ?_⟩, up _ _, ?_⟩, up _ _, ?_⟩
    · rintro i h j ⟨k, hk, rfl⟩ e; omega
    · rintro i (h | ⟨k, hk, rfl⟩) j ⟨k2, hk2, rfl⟩ e
      · omega
      · have := hno k2 k hk2 hk
        rw [this] at e; exact absurd e.2 (by simp)
    · rintro i ((h | ⟨k, hk, rfl⟩) | ⟨k, hk, rfl⟩) j ⟨k2, hk2, rfl⟩ e <;> omega
/-- by codes -/
theorem matchF_code {β : Type} {eq' tch' : β → β → Bool} {n : Nat} {a : Nat → α} {c : α → β} {Q : α → Prop} (ha : ∀ i, i < n → Q (a i)) (h1 : ∀ x y, Q x → Q y → eq x y = eq' (c x) (c y)) (h2 : ∀ x y, Q x → Q y → tch x y = tch' (c x) (c y)) :
    ∀ (xs : List α) (done : Nat → Bool), (∀ x, x ∈ xs → Q x) → matchF eq tch n a done xs = matchF eq' tch' n (fun i => c (a i)) done (xs.map c)
  | [], done, _ => rfl
  | x :: xs, done, hx => by
    have ef : ∀ (m i : Nat), i + m ≤ n → firstI (fun i => eq (a i) x && readyF tch a done i) m i = firstI (fun i => eq' (c (a i)) (c x) && readyF tch' (fun i => c (a i)) done i) m i := by
      intro m
      induction m with
      | zero => intro i _; rfl
      | succ m ih =>
        intro i hi
        unfold firstI
        have e1 : eq (a i) x = eq' (c (a i)) (c x) := h1 _ _ (ha i (by omega)) (hx x (by simp))
        have e2 : readyF tch a done i = readyF tch' (fun i => c (a i)) done i := by
          unfold readyF
          congr 1
          apply Bool.eq_iff_iff.2
          simp only [List.all_eq_true, List.mem_range]
          constructor
          · intro h k hk
            rw [← h2 _ _ (ha k (by omega)) (ha i (by omega))]; exact h k hk
          · intro h k hk
            rw [h2 _ _ (ha k (by omega)) (ha i (by omega))]; exact h k hk
        simp only [e1, e2]
        rw [ih (i + 1) (by omega)]
    show (match firstI (fun i => eq (a i) x && readyF tch a done i) n 0 with
      | none => false
      | some i => matchF eq tch n a (upd done i) xs) = (match firstI (fun i => eq' (c (a i)) (c x) && readyF tch' (fun i => c (a i)) done i) n 0 with
      | none => false
      | some i => matchF eq' tch' n (fun i => c (a i)) (upd done i) (xs.map c))
    rw [ef n 0 (by omega)]
    split
    · rfl
    · rename_i i _
      exact matchF_code ha h1 h2 xs (upd done i) fun y hy => hx y (by simp [hy])
end
end MatchP
end Go.Proofs.Ytkbebiebaenbdaa.Ev
