/- BraidsWords returns true, for every number and all words, in every world in which it is called, and nothing that was there turns. -/
import Derived.Test.YtfmofpdbhkoopaaChecked
import Derived.ProofKit
import Derived.ReadAgain
import Derived.Test.YtfmofpdbhkoopaaRows
import Derived.WalkKit
import Derived.Test.YtfmofpdbhkoopaaBw3
namespace Go.Proofs.Ytfmofpdbhkoopaa.Ev
open Go.RowKit
variable {P : Program} {γ γ' : G} {w0 : Bs} {w : World} {H H' : Tr EK} {n n' : Nat} {T : Tr EV} {cs : List Frame} {fid : FuncId} {FT : Tr FI} {tmps : Array Value} {o : Oper}

structure SA where
  c : Bool
  l : List Int
  i : Nat
  nn : Bool
/-- an argument that is a list of ints -/
noncomputable def slArg (RO : Tr (TypeId × SyC)) (H : Tr EK) (ty : TypeId) (a : EV) : Option SA := match a with
  | .slO i z len nn => match roSrc RO H i with
    | some (ty', c) => match c with
      | .ints k l => bc (decide (k = .i64)) (some ⟨bc (Nat.beq z 1) (bc (Nat.beq ty' ty) (Nat.beq len l.length) false) false, l, i, nn⟩) none
    | none => none
  | .v (.slice none 0 0) => some ⟨true, [], 0, false⟩
  | _ => none
theorem slArg_ok {RO : Tr (TypeId × SyC)} (hR : ROk γ w0 RO) (hH : HR γ w0 H n w) {ty : TypeId} {a : EV} {u : Value} {s : SA} (ha : EC γ a u) (h : slArg RO H ty a = some s) (hc : s.c = true) : EC γ (.slO s.i 1 s.l.length s.nn) u ∧ Src γ w s.i ty (.ints .i64 s.l) := by
  unfold slArg at h
  split at h
  case h_3 => cases h
  · rename_i i z len nn
    split at h
    case h_2 => cases h
    rename_i ty' c hs
    split at h
    rename_i k l
    rw [bc_eq] at h
    split at h
    case isFalse => cases h
    rename_i hk
    have hk := of_decide_eq_true hk
    subst hk
    injection h with h; subst h
    have hc : bc (Nat.beq z 1) (bc (Nat.beq ty' ty) (Nat.beq len l.length) false) false = true := hc
    rw [bc_eq] at hc
    split at hc
    case isFalse => cases hc
    rename_i h1
    rw [bc_eq] at hc
    split at hc
    case isFalse => cases hc
    rename_i h2
    have h1 := Nat.eq_of_beq_eq_true h1
    have h2 := Nat.eq_of_beq_eq_true h2
    have h3 := Nat.eq_of_beq_eq_true hc
    subst h1; subst h2; subst h3
    exact ⟨ha, roSrc_ok hR hH hs⟩
  · injection h with h; subst h
    rw [ec_v ha]
    exact ⟨.slO 0 1 0 false _ ⟨fun _ => ⟨rfl, rfl⟩, fun e => by cases e⟩, .inl rfl⟩
/-- an argument: a value without addresses, or a list -/
inductive PV where
  | v (x : Value)
  | s (l : List Int) (nn : Bool)
noncomputable def evs (ps : List PV) : Nat → List EV := List.rec (fun _ => []) (fun p _ ih j => PV.rec (fun x => .v x :: ih j) (fun l nn => .slO j 1 l.length nn :: ih (Nat.succ j)) p) ps
noncomputable def lss (ps : List PV) : List (List Int) := List.rec [] (fun p _ ih => PV.rec (fun _ => ih) (fun l _ => l :: ih) p) ps
structure PA where
  c : Bool
  ps : List PV
  is : List Nat
noncomputable def isV (a : EV) : Option Value := match a with
  | .v x => some x
  | _ => none
theorem isV_ok {a : EV} {x : Value} (h : isV a = some x) : a = .v x := by
  unfold isV at h
  split at h
  · injection h with h; subst h; rfl
  · cases h
noncomputable def parse (RO : Tr (TypeId × SyC)) (H : Tr EK) (ty : TypeId) (ax : List EV) : Option PA := List.rec (some ⟨true, [], []⟩) (fun a _ ih => match slArg RO H ty a with
  | some s => match ih with
    | some p => some ⟨bc s.c p.c false, .s s.l s.nn :: p.ps, s.i :: p.is⟩
    | none => none
  | none => match isV a with
    | some x => match ih with
      | some p => some ⟨p.c, .v x :: p.ps, p.is⟩
      | none => none
    | none => none) ax
theorem parse_ok {RO : Tr (TypeId × SyC)} (hR : ROk γ w0 RO) (hH : HR γ w0 H n w) {ty : TypeId} {γc : G} : ∀ {ax : List EV} {us : List Value} {p : PA}, ECL γ ax us → parse RO H ty ax = some p → p.c = true →
    (lss p.ps).length = p.is.length ∧ (∀ (q : Nat) (l : List Int), (lss p.ps)[q]? = some l → ∃ i, p.is[q]? = some i ∧ Src γ w i ty (.ints .i64 l)) ∧ ∀ j, (∀ q i, p.is[q]? = some i → γc (j + q) = γ i) → ECL γc (evs p.ps j) us
  | [], us, p, ha, h, _ => by
    have h' : some (⟨true, [], []⟩ : PA) = some p := h
    injection h' with h'; subst h'
    have : us = [] := List.eq_nil_of_length_eq_zero ha.1.symm
    subst this
    exact ⟨rfl, fun q l hl => by have hl : ([] : List (List Int))[q]? = some l := hl; simp at hl, fun _ _ => ECL.nil _⟩
  | a :: ax, us, p, ha, h, hc => by
    obtain ⟨u, us', rfl, ha1, ha2⟩ := ha.inv
    have h' : (match slArg RO H ty a with
      | some s => match parse RO H ty ax with
        | some p => some (⟨bc s.c p.c false, .s s.l s.nn :: p.ps, s.i :: p.is⟩ : PA)
        | none => none
      | none => match isV a with
        | some x => match parse RO H ty ax with
          | some p => some ⟨p.c, .v x :: p.ps, p.is⟩
          | none => none
        | none => none) = some p := h
    split at h'
    · rename_i s hs
      split at h'
      case h_2 => cases h'
      rename_i p' hp'
      injection h' with h'; subst h'
      have hc : bc s.c p'.c false = true := hc
      rw [bc_eq] at hc
      split at hc
      case isFalse => cases hc
      rename_i hsc
      obtain ⟨q1, q2⟩ := slArg_ok hR hH ha1 hs hsc
      obtain ⟨r1, r2, r3⟩ := parse_ok hR hH (γc := γc) ha2 hp' hc
      refine ⟨?_, fun q l hl => ?_, fun j hγ => .cons (q1.slO_to (hγ 0 s.i rfl)) (r3 (Nat.succ j) fun q i hi => ?_)⟩
      · show (s.l :: lss p'.ps).length = (s.i :: p'.is).length
        simp [r1]
      · have hl : (s.l :: lss p'.ps)[q]? = some l := hl
        cases q with
        | zero => simp at hl; subst hl; exact ⟨s.i, rfl, q2⟩
        | succ q => exact r2 q l (by simpa using hl)
      · have := hγ (q + 1) i (by simpa using hi)
        rw [show j + (q + 1) = Nat.succ j + q by omega] at this
        exact this
    · split at h'
      case h_2 => cases h'
      rename_i x hx
      have hx := isV_ok hx
      subst hx
      split at h'
      case h_2 => cases h'
      rename_i p' hp'
      injection h' with h'; subst h'
      obtain ⟨r1, r2, r3⟩ := parse_ok hR hH (γc := γc) ha2 hp' hc
      exact ⟨r1, r2, fun j hγ => .cons ha1.v_to (r3 j hγ)⟩
/-- lists that are only read, from number 0 on -/
noncomputable def roE (ty : TypeId) (ls : List (List Int)) : Nat → List (Nat × TypeId × SyC) := List.rec (fun _ => []) (fun l _ ih j => (j, ty, .ints .i64 l) :: ih (Nat.succ j)) ls
noncomputable def roL (ty : TypeId) (ls : List (List Int)) : Tr (TypeId × SyC) := mkT (roE ty ls 0)
theorem roE_mem {ty : TypeId} : ∀ {ls : List (List Int)} {j i : Nat} {p : TypeId × SyC}, (i, p) ∈ roE ty ls j → ∃ q l, i = j + q ∧ ls[q]? = some l ∧ p = (ty, .ints .i64 l)
  | [], j, i, p, h => by have h' : (i, p) ∈ ([] : List (Nat × TypeId × SyC)) := h; simp at h'
  | l :: ls, j, i, p, h => by
    have h' : (i, p) ∈ (j, ty, SyC.ints .i64 l) :: roE ty ls (Nat.succ j) := h
    rcases List.mem_cons.1 h' with e | h'
    · injection e with e1 e2; subst e1; subst e2; exact ⟨0, l, rfl, rfl, rfl⟩
    · obtain ⟨q, l', rfl, h2, h3⟩ := roE_mem h'
      exact ⟨q + 1, l', by omega, by simpa using h2, h3⟩
theorem roL_get {ty : TypeId} {ls : List (List Int)} {i : Nat} {p : TypeId × SyC} (h : (roL ty ls).get i = some p) : ∃ l, ls[i]? = some l ∧ p = (ty, .ints .i64 l) := by
  obtain ⟨q, l, rfl, h2, h3⟩ := roE_mem (mkT_get h)
  exact ⟨l, by rwa [Nat.zero_add], h3⟩
/-- what a call comes to, in its own numbers -/
structure SR where
  c : Bool
  a : EV
  K : List SQ
  n : Nat
abbrev Spec := List PV → Option SR
def CallsS (P : Program) (g : FuncId) (ty : TypeId) (sp : Spec) : Prop := ∀ (γ : G) (w : World) (us : Array Value) (ps : List PV) (r : SR), sp ps = some r → r.c = true → ECL γ (evs ps 0) us.toList → ROk γ (Bs.of w) (roL ty (lss ps)) → (∀ i, (lss ps).length ≤ i → γ i = none) → (∀ i p, γ i = some p → p.1.k < w.heap.size) →
  Calls P g us w fun e w' => ∃ γ' x, e = .returned x ∧ EC γ' r.a x ∧ HR γ' (Bs.of w) (mkT (seqsK r.K)) r.n w'
/-- numbers behind those that were -/
noncomputable def shE (n k : Nat) : EV → Option EV := Nat.rec (fun _ => none) (fun _ ih a => match a with
  | .v x => some (.v x)
  | .slO i z len nn => some (.slO (n + i) z len nn)
  | .tup l => withL (mapO ih l) .tup
  | _ => none) k
theorem shE_ok {n : Nat} (γ' : G) : ∀ {k : Nat} {a a' : EV} {x : Value}, shE n k a = some a' → EC γ a x → (∀ i, γ' (n + i) = γ i) → EC γ' a' x
  | 0, a, a', x, h, _, _ => by cases h
  | k + 1, a, a', x, h, hc, hγ => by
    cases hc with
    | v x => injection (show some (EV.v x) = some a' from h) with h; subst h; exact .v x
    | slO i z len nn x hs =>
      injection (show some (EV.slO (n + i) z len nn) = some a' from h) with h; subst h
      exact EC.slO_to (.slO i z len nn x hs) (hγ i)
    | tup l vs hl hh =>
      obtain ⟨r, h1, rfl⟩ := withL_ok (show withL (mapO (shE n k) l) .tup = some a' from h)
      obtain ⟨g1, g2⟩ := mapO_ok h1
      refine .tup r vs (by omega) fun j b y hb hy => ?_
      obtain ⟨b0, g3, g4⟩ := g2 j b hb
      exact shE_ok γ' g4 (hh j b0 y g3 hy) hγ
    | _ => cases h
noncomputable def oneK (n : Nat) (K : List SQ) : Bool := match K with
  | [] => true
  | [p] => Nat.ble (n + p.1) 65535
  | _ => false
noncomputable def ctOfS (ty : TypeId) (sp : Spec) : YCT := fun ax RO H n => match parse RO H ty ax with
  | some p => match sp p.ps with
    | some r => match shE n 4 r.a with
      | some a => bc (oneK n r.K) (some ⟨bc p.c r.c false, ⟨some a, putS n r.K H, n + r.n⟩⟩) none
      | none => none
    | none => none
  | none => none
theorem yct_of {g : FuncId} {ty : TypeId} {sp : Spec} (h : CallsS P g ty sp) : YCtOk P g (ctOfS ty sp) := fun γ w0 w H n RO ax us r hR hH ha hr hc => by
  unfold ctOfS at hr
  split at hr
  case h_2 => cases hr
  rename_i p hp
  split at hr
  case h_2 => cases hr
  rename_i r' hr'
  split at hr
  case h_2 => cases hr
  rename_i a hsh
  rw [bc_eq] at hr
  split at hr
  case isFalse => cases hr
  rename_i hone
  injection hr with hr; subst hr
  have hc : bc p.c r'.c false = true := hc
  rw [bc_eq] at hc
  split at hc
  case isFalse => cases hc
  rename_i hpc
  refine ⟨a, rfl, ?_⟩
  obtain ⟨q1, q2, q3⟩ := parse_ok hR hH (γc := fun q => (p.is[q]?).bind γ) ha hp hpc
  have hvs := q3 0 fun q i hi => by
    show (p.is[0 + q]?).bind γ = γ i
    rw [Nat.zero_add, hi]; rfl
  have hRO : ROk (fun q => (p.is[q]?).bind γ) (Bs.of w) (roL ty (lss p.ps)) := fun i ty' c hi => by
    obtain ⟨l, h1, h2⟩ := roL_get hi
    injection h2 with h2 h3; subst h2; subst h3
    obtain ⟨i', h4, h5⟩ := q2 i l h1
    exact h5.to (γ' := fun q => (p.is[q]?).bind γ) (j := i) (by show (p.is[i]?).bind γ = γ i'; rw [h4]; rfl)
  refine (h _ w us p.ps r' hr' hc hvs hRO (fun i hi => ?_) (fun i p' hp' => ?_)).mono ?_
  · show (p.is[i]?).bind γ = none
    rw [List.getElem?_eq_none (by omega)]; rfl
  · obtain ⟨i', _, h2⟩ := Option.bind_eq_some_iff.1 (show (p.is[i]?).bind γ = some p' from hp')
    exact hH.lt i' p' h2
  · rintro e w' ⟨γ', x, rfl, h2, h3⟩
    have hK : (∀ p, p ∈ r'.K → (mkT (seqsK r'.K)).get p.1 = some (.seq p.2.1 p.2.2.1 p.2.2.2)) ∧ ∀ p, p ∈ r'.K → n + p.1 ≤ 65535 := by
      cases hk : r'.K with
      | nil => exact ⟨fun p hp => by simp at hp, fun p hp => by simp at hp⟩
      | cons p1 K =>
        cases K with
        | nil =>
          have hone : Nat.ble (n + p1.1) 65535 = true := by rw [hk] at hone; exact hone
          have hone := Nat.le_of_ble_eq_true hone
          refine ⟨fun p hp => ?_, fun p hp => by simp at hp; subst hp; exact hone⟩
          simp at hp; subst hp
          have h9 : Nat.ble p.1 65535 = true := Nat.ble_eq_true_of_le (by omega)
          show (bc (Nat.ble p.1 65535) (Tr.put .nil p.1 (some (EK.seq p.2.1 p.2.2.1 p.2.2.2))) .nil).get p.1 = _
          rw [bc_eq, if_pos h9, Tr.get_put h9, if_pos rfl]
        | cons p2 K => rw [hk] at hone; cases hone
    exact ⟨γ.behind n γ', x, G.behind_le (fun i hi => hH.fresh i hi) γ', hH.merge h3 hK.1 hK.2, shE_ok _ hsh h2 fun i => G.behind_new γ n γ' i, rfl⟩
theorem HR.upto (h : HR γ w0 H n w) {m : Nat} (hm : n ≤ m) : HR γ w0 H m w := ⟨h.hp0, h.inj0, fun i hi => h.fresh i (by omega), fun i hi => ⟨(h.rsv i hi).1, by have := (h.rsv i hi).2; omega⟩, h.lt, h.stays⟩
/-- nil, said as a sequence -/
theorem EC.tupNil {i z : Nat} {e x : Value} (h : EC γ (.tup [.v (.slice none 0 0), .v e]) x) : EC γ (.tup [.slO i z 0 false, .v e]) x := by
  cases h with
  | tup _ vs hl hh =>
    refine .tup _ vs hl fun j a y ha hy => ?_
    match j, ha with
    | 0, ha =>
      injection ha with ha; subst ha
      have := ec_v (hh 0 _ y rfl hy)
      subst this
      exact .slO i z 0 false _ ⟨fun _ => ⟨rfl, rfl⟩, fun e => by cases e⟩
    | 1, ha => exact hh 1 _ y ha hy
    | j + 2, ha => cases ha
theorem HR.seqNil (h : HR γ w0 (mkT []) n w) {i m : Nat} {ty : TypeId} {k : IntKind} (hi : Nat.ble i 65535 = true) (hm : n ≤ m) : HR γ w0 (mkT (seqsK [(i, ty, .ints k [], false)])) m w := by
  show HR γ w0 (bc (Nat.ble i 65535) (Tr.put .nil i (some (EK.seq ty (.ints k []) false))) .nil) m w
  rw [bc_eq, if_pos hi]
  exact (HR.nilSeq (h.upto hm) hi rfl)
end Go.Proofs.Ytfmofpdbhkoopaa.Ev
namespace Go.Proofs.Ytfmofpdbhkoopaa.Ev
open Go.Proofs
noncomputable def ft0 : Tr FI := .nil
theorem ft0Ok : FTok Try.prog ft0 := FTok.nil _
noncomputable def ft1 : Tr FI := ft0.put 2 (some (ofFunc Try.f2))
theorem ft1Ok : FTok Try.prog ft1 := ft0Ok.add (by kernel_rfl) Try.func2 (by kernel_rfl) (by kernel_rfl)
noncomputable def ft2 : Tr FI := ft1.put 3 (some (ofFunc Try.f3))
theorem ft2Ok : FTok Try.prog ft2 := ft1Ok.add (by kernel_rfl) Try.func3 (by kernel_rfl) (by kernel_rfl)
noncomputable def ft3 : Tr FI := ft2.put 4 (some (ofFunc Try.f4))
theorem ft3Ok : FTok Try.prog ft3 := ft2Ok.add (by kernel_rfl) Try.func4 (by kernel_rfl) (by kernel_rfl)
noncomputable def ft4 : Tr FI := ft3.put 5 (some (ofFunc Try.f5))
theorem ft4Ok : FTok Try.prog ft4 := ft3Ok.add (by kernel_rfl) Try.func5 (by kernel_rfl) (by kernel_rfl)
noncomputable def ft5 : Tr FI := ft4.put 6 (some (ofFunc Try.f6))
theorem ft5Ok : FTok Try.prog ft5 := ft4Ok.add (by kernel_rfl) Try.func6 (by kernel_rfl) (by kernel_rfl)
noncomputable def ft6 : Tr FI := ft5.put 7 (some (ofFunc Try.f7))
theorem ft6Ok : FTok Try.prog ft6 := ft5Ok.add (by kernel_rfl) Try.func7 (by kernel_rfl) (by kernel_rfl)
noncomputable def ft7 : Tr FI := ft6.put 8 (some (ofFunc Try.f8))
theorem ft7Ok : FTok Try.prog ft7 := ft6Ok.add (by kernel_rfl) Try.func8 (by kernel_rfl) (by kernel_rfl)
noncomputable def ft8 : Tr FI := ft7.put 9 (some (ofFunc Try.f9))
theorem ft8Ok : FTok Try.prog ft8 := ft7Ok.add (by kernel_rfl) Try.func9 (by kernel_rfl) (by kernel_rfl)
noncomputable def ft9 : Tr FI := ft8.put 10 (some (ofFunc Try.f10))
theorem ft9Ok : FTok Try.prog ft9 := ft8Ok.add (by kernel_rfl) Try.func10 (by kernel_rfl) (by kernel_rfl)
noncomputable def ft10 : Tr FI := ft9.put 11 (some (ofFunc Try.f11))
theorem ft10Ok : FTok Try.prog ft10 := ft9Ok.add (by kernel_rfl) Try.func11 (by kernel_rfl) (by kernel_rfl)
noncomputable def ft11 : Tr FI := ft10.put 12 (some (ofFunc Try.f12))
theorem ft11Ok : FTok Try.prog ft11 := ft10Ok.add (by kernel_rfl) Try.func12 (by kernel_rfl) (by kernel_rfl)
noncomputable def ft12 : Tr FI := ft11.put 13 (some (ofFunc Try.f13))
theorem ft12Ok : FTok Try.prog ft12 := ft11Ok.add (by kernel_rfl) Try.func13 (by kernel_rfl) (by kernel_rfl)
noncomputable def ft13 : Tr FI := ft12.put 14 (some (ofFunc Try.f14))
theorem ft13Ok : FTok Try.prog ft13 := ft12Ok.add (by kernel_rfl) Try.func14 (by kernel_rfl) (by kernel_rfl)
noncomputable def ft14 : Tr FI := ft13.put 15 (some (ofFunc Try.f15))
theorem ft14Ok : FTok Try.prog ft14 := ft13Ok.add (by kernel_rfl) Try.func15 (by kernel_rfl) (by kernel_rfl)
noncomputable def ft15 : Tr FI := ft14.put 16 (some (ofFunc Try.f16))
theorem ft15Ok : FTok Try.prog ft15 := ft14Ok.add (by kernel_rfl) Try.func16 (by kernel_rfl) (by kernel_rfl)
noncomputable def ft16 : Tr FI := ft15.put 17 (some (ofFunc Try.f17))
theorem ft16Ok : FTok Try.prog ft16 := ft15Ok.add (by kernel_rfl) Try.func17 (by kernel_rfl) (by kernel_rfl)
noncomputable def ft17 : Tr FI := ft16.put 18 (some (ofFunc Try.f18))
theorem ft17Ok : FTok Try.prog ft17 := ft16Ok.add (by kernel_rfl) Try.func18 (by kernel_rfl) (by kernel_rfl)
noncomputable def ft18 : Tr FI := ft17.put 19 (some (ofFunc Try.f19))
theorem ft18Ok : FTok Try.prog ft18 := ft17Ok.add (by kernel_rfl) Try.func19 (by kernel_rfl) (by kernel_rfl)
noncomputable def ft19 : Tr FI := ft18.put 20 (some (ofFunc Try.f20))
theorem ft19Ok : FTok Try.prog ft19 := ft18Ok.add (by kernel_rfl) Try.func20 (by kernel_rfl) (by kernel_rfl)
noncomputable def ft20 : Tr FI := ft19.put 21 (some (ofFunc Try.f21))
theorem ft20Ok : FTok Try.prog ft20 := ft19Ok.add (by kernel_rfl) Try.func21 (by kernel_rfl) (by kernel_rfl)
noncomputable def ft21 : Tr FI := ft20.put 22 (some (ofFunc Try.f22))
theorem ft21Ok : FTok Try.prog ft21 := ft20Ok.add (by kernel_rfl) Try.func22 (by kernel_rfl) (by kernel_rfl)
noncomputable def ft22 : Tr FI := ft21.put 23 (some (ofFunc Try.f23))
theorem ft22Ok : FTok Try.prog ft22 := ft21Ok.add (by kernel_rfl) Try.func23 (by kernel_rfl) (by kernel_rfl)
noncomputable def ft23 : Tr FI := ft22.put 24 (some (ofFunc Try.f24))
theorem ft23Ok : FTok Try.prog ft23 := ft22Ok.add (by kernel_rfl) Try.func24 (by kernel_rfl) (by kernel_rfl)
noncomputable def ft24 : Tr FI := ft23.put 25 (some (ofFunc Try.f25))
theorem ft24Ok : FTok Try.prog ft24 := ft23Ok.add (by kernel_rfl) Try.func25 (by kernel_rfl) (by kernel_rfl)
noncomputable def ft25 : Tr FI := ft24.put 26 (some (ofFunc Try.f26))
theorem ft25Ok : FTok Try.prog ft25 := ft24Ok.add (by kernel_rfl) Try.func26 (by kernel_rfl) (by kernel_rfl)
noncomputable def ft26 : Tr FI := ft25.put 27 (some (ofFunc Try.f27))
theorem ft26Ok : FTok Try.prog ft26 := ft25Ok.add (by kernel_rfl) Try.func27 (by kernel_rfl) (by kernel_rfl)
noncomputable def ft27 : Tr FI := ft26.put 28 (some (ofFunc Try.f28))
theorem ft27Ok : FTok Try.prog ft27 := ft26Ok.add (by kernel_rfl) Try.func28 (by kernel_rfl) (by kernel_rfl)
noncomputable def ft28 : Tr FI := ft27.put 29 (some (ofFunc Try.f29))
theorem ft28Ok : FTok Try.prog ft28 := ft27Ok.add (by kernel_rfl) Try.func29 (by kernel_rfl) (by kernel_rfl)
noncomputable def ft29 : Tr FI := ft28.put 30 (some (ofFunc Try.f30))
theorem ft29Ok : FTok Try.prog ft29 := ft28Ok.add (by kernel_rfl) Try.func30 (by kernel_rfl) (by kernel_rfl)
noncomputable def ft30 : Tr FI := ft29.put 31 (some (ofFunc Try.f31))
theorem ft30Ok : FTok Try.prog ft30 := ft29Ok.add (by kernel_rfl) Try.func31 (by kernel_rfl) (by kernel_rfl)
noncomputable def ft31 : Tr FI := ft30.put 32 (some (ofFunc Try.f32))
theorem ft31Ok : FTok Try.prog ft31 := ft30Ok.add (by kernel_rfl) Try.func32 (by kernel_rfl) (by kernel_rfl)
noncomputable def ft32 : Tr FI := ft31.put 33 (some (ofFunc Try.f33))
theorem ft32Ok : FTok Try.prog ft32 := ft31Ok.add (by kernel_rfl) Try.func33 (by kernel_rfl) (by kernel_rfl)
noncomputable def ft33 : Tr FI := ft32.put 34 (some (ofFunc Try.f34))
theorem ft33Ok : FTok Try.prog ft33 := ft32Ok.add (by kernel_rfl) Try.func34 (by kernel_rfl) (by kernel_rfl)
noncomputable def ft34 : Tr FI := ft33.put 35 (some (ofFunc Try.f35))
theorem ft34Ok : FTok Try.prog ft34 := ft33Ok.add (by kernel_rfl) Try.func35 (by kernel_rfl) (by kernel_rfl)
noncomputable def ft35 : Tr FI := ft34.put 36 (some (ofFunc Try.f36))
theorem ft35Ok : FTok Try.prog ft35 := ft34Ok.add (by kernel_rfl) Try.func36 (by kernel_rfl) (by kernel_rfl)
noncomputable def ft36 : Tr FI := ft35.put 37 (some (ofFunc Try.f37))
theorem ft36Ok : FTok Try.prog ft36 := ft35Ok.add (by kernel_rfl) Try.func37 (by kernel_rfl) (by kernel_rfl)
noncomputable def ft37 : Tr FI := ft36.put 38 (some (ofFunc Try.f38))
theorem ft37Ok : FTok Try.prog ft37 := ft36Ok.add (by kernel_rfl) Try.func38 (by kernel_rfl) (by kernel_rfl)
noncomputable def ft38 : Tr FI := ft37.put 39 (some (ofFunc Try.f39))
theorem ft38Ok : FTok Try.prog ft38 := ft37Ok.add (by kernel_rfl) Try.func39 (by kernel_rfl) (by kernel_rfl)
noncomputable def ft39 : Tr FI := ft38.put 40 (some (ofFunc Try.f40))
theorem ft39Ok : FTok Try.prog ft39 := ft38Ok.add (by kernel_rfl) Try.func40 (by kernel_rfl) (by kernel_rfl)
noncomputable def ft40 : Tr FI := ft39.put 41 (some (ofFunc Try.f41))
theorem ft40Ok : FTok Try.prog ft40 := ft39Ok.add (by kernel_rfl) Try.func41 (by kernel_rfl) (by kernel_rfl)
noncomputable def ft41 : Tr FI := ft40.put 42 (some (ofFunc Try.f42))
theorem ft41Ok : FTok Try.prog ft41 := ft40Ok.add (by kernel_rfl) Try.func42 (by kernel_rfl) (by kernel_rfl)
noncomputable def ft42 : Tr FI := ft41.put 43 (some (ofFunc Try.f43))
theorem ft42Ok : FTok Try.prog ft42 := ft41Ok.add (by kernel_rfl) Try.func43 (by kernel_rfl) (by kernel_rfl)
noncomputable def ft43 : Tr FI := ft42.put 44 (some (ofFunc Try.f44))
theorem ft43Ok : FTok Try.prog ft43 := ft42Ok.add (by kernel_rfl) Try.func44 (by kernel_rfl) (by kernel_rfl)
noncomputable def ft44 : Tr FI := ft43.put 45 (some (ofFunc Try.f45))
theorem ft44Ok : FTok Try.prog ft44 := ft43Ok.add (by kernel_rfl) Try.func45 (by kernel_rfl) (by kernel_rfl)
noncomputable def ft45 : Tr FI := ft44.put 46 (some (ofFunc Try.f46))
theorem ft45Ok : FTok Try.prog ft45 := ft44Ok.add (by kernel_rfl) Try.func46 (by kernel_rfl) (by kernel_rfl)
noncomputable def ft46 : Tr FI := ft45.put 47 (some (ofFunc Try.f47))
theorem ft46Ok : FTok Try.prog ft46 := ft45Ok.add (by kernel_rfl) Try.func47 (by kernel_rfl) (by kernel_rfl)
noncomputable def ft47 : Tr FI := ft46.put 48 (some (ofFunc Try.f48))
theorem ft47Ok : FTok Try.prog ft47 := ft46Ok.add (by kernel_rfl) Try.func48 (by kernel_rfl) (by kernel_rfl)
noncomputable def ft48 : Tr FI := ft47.put 49 (some (ofFunc Try.f49))
theorem ft48Ok : FTok Try.prog ft48 := ft47Ok.add (by kernel_rfl) Try.func49 (by kernel_rfl) (by kernel_rfl)
noncomputable def ft49 : Tr FI := ft48.put 50 (some (ofFunc Try.f50))
theorem ft49Ok : FTok Try.prog ft49 := ft48Ok.add (by kernel_rfl) Try.func50 (by kernel_rfl) (by kernel_rfl)
noncomputable def ft50 : Tr FI := ft49.put 51 (some (ofFunc Try.f51))
theorem ft50Ok : FTok Try.prog ft50 := ft49Ok.add (by kernel_rfl) Try.func51 (by kernel_rfl) (by kernel_rfl)
noncomputable def ft51 : Tr FI := ft50.put 52 (some (ofFunc Try.f52))
theorem ft51Ok : FTok Try.prog ft51 := ft50Ok.add (by kernel_rfl) Try.func52 (by kernel_rfl) (by kernel_rfl)
noncomputable def ft52 : Tr FI := ft51.put 53 (some (ofFunc Try.f53))
theorem ft52Ok : FTok Try.prog ft52 := ft51Ok.add (by kernel_rfl) Try.func53 (by kernel_rfl) (by kernel_rfl)
noncomputable def ft53 : Tr FI := ft52.put 54 (some (ofFunc Try.f54))
theorem ft53Ok : FTok Try.prog ft53 := ft52Ok.add (by kernel_rfl) Try.func54 (by kernel_rfl) (by kernel_rfl)
noncomputable def ft54 : Tr FI := ft53.put 55 (some (ofFunc Try.f55))
theorem ft54Ok : FTok Try.prog ft54 := ft53Ok.add (by kernel_rfl) Try.func55 (by kernel_rfl) (by kernel_rfl)
noncomputable def ft55 : Tr FI := ft54.put 56 (some (ofFunc Try.f56))
theorem ft55Ok : FTok Try.prog ft55 := ft54Ok.add (by kernel_rfl) Try.func56 (by kernel_rfl) (by kernel_rfl)
noncomputable def ft56 : Tr FI := ft55.put 57 (some (ofFunc Try.f57))
theorem ft56Ok : FTok Try.prog ft56 := ft55Ok.add (by kernel_rfl) Try.func57 (by kernel_rfl) (by kernel_rfl)
noncomputable def ft57 : Tr FI := ft56.put 58 (some (ofFunc Try.f58))
theorem ft57Ok : FTok Try.prog ft57 := ft56Ok.add (by kernel_rfl) Try.func58 (by kernel_rfl) (by kernel_rfl)
noncomputable def ft58 : Tr FI := ft57.put 59 (some (ofFunc Try.f59))
theorem ft58Ok : FTok Try.prog ft58 := ft57Ok.add (by kernel_rfl) Try.func59 (by kernel_rfl) (by kernel_rfl)
noncomputable def ft59 : Tr FI := ft58.put 60 (some (ofFunc Try.f60))
theorem ft59Ok : FTok Try.prog ft59 := ft58Ok.add (by kernel_rfl) Try.func60 (by kernel_rfl) (by kernel_rfl)
noncomputable def ft60 : Tr FI := ft59.put 61 (some (ofFunc Try.f61))
theorem ft60Ok : FTok Try.prog ft60 := ft59Ok.add (by kernel_rfl) Try.func61 (by kernel_rfl) (by kernel_rfl)
noncomputable def ft61 : Tr FI := ft60.put 62 (some (ofFunc Try.f62))
theorem ft61Ok : FTok Try.prog ft61 := ft60Ok.add (by kernel_rfl) Try.func62 (by kernel_rfl) (by kernel_rfl)
noncomputable def ft62 : Tr FI := ft61.put 63 (some (ofFunc Try.f63))
theorem ft62Ok : FTok Try.prog ft62 := ft61Ok.add (by kernel_rfl) Try.func63 (by kernel_rfl) (by kernel_rfl)
noncomputable def ft63 : Tr FI := ft62.put 64 (some (ofFunc Try.f64))
theorem ft63Ok : FTok Try.prog ft63 := ft62Ok.add (by kernel_rfl) Try.func64 (by kernel_rfl) (by kernel_rfl)
noncomputable def ft64 : Tr FI := ft63.put 65 (some (ofFunc Try.f65))
theorem ft64Ok : FTok Try.prog ft64 := ft63Ok.add (by kernel_rfl) Try.func65 (by kernel_rfl) (by kernel_rfl)
noncomputable def ft65 : Tr FI := ft64.put 66 (some (ofFunc Try.f66))
theorem ft65Ok : FTok Try.prog ft65 := ft64Ok.add (by kernel_rfl) Try.func66 (by kernel_rfl) (by kernel_rfl)
noncomputable def ft66 : Tr FI := ft65.put 67 (some (ofFunc Try.f67))
theorem ft66Ok : FTok Try.prog ft66 := ft65Ok.add (by kernel_rfl) Try.func67 (by kernel_rfl) (by kernel_rfl)
noncomputable def ft67 : Tr FI := ft66.put 68 (some (ofFunc Try.f68))
theorem ft67Ok : FTok Try.prog ft67 := ft66Ok.add (by kernel_rfl) Try.func68 (by kernel_rfl) (by kernel_rfl)
noncomputable def ft68 : Tr FI := ft67.put 69 (some (ofFunc Try.f69))
theorem ft68Ok : FTok Try.prog ft68 := ft67Ok.add (by kernel_rfl) Try.func69 (by kernel_rfl) (by kernel_rfl)
noncomputable def ft69 : Tr FI := ft68.put 70 (some (ofFunc Try.f70))
theorem ft69Ok : FTok Try.prog ft69 := ft68Ok.add (by kernel_rfl) Try.func70 (by kernel_rfl) (by kernel_rfl)
noncomputable def ft70 : Tr FI := ft69.put 71 (some (ofFunc Try.f71))
theorem ft70Ok : FTok Try.prog ft70 := ft69Ok.add (by kernel_rfl) Try.func71 (by kernel_rfl) (by kernel_rfl)
noncomputable def ft71 : Tr FI := ft70.put 72 (some (ofFunc Try.f72))
theorem ft71Ok : FTok Try.prog ft71 := ft70Ok.add (by kernel_rfl) Try.func72 (by kernel_rfl) (by kernel_rfl)
noncomputable def ft72 : Tr FI := ft71.put 73 (some (ofFunc Try.f73))
theorem ft72Ok : FTok Try.prog ft72 := ft71Ok.add (by kernel_rfl) Try.func73 (by kernel_rfl) (by kernel_rfl)
noncomputable def ft73 : Tr FI := ft72.put 74 (some (ofFunc Try.f74))
theorem ft73Ok : FTok Try.prog ft73 := ft72Ok.add (by kernel_rfl) Try.func74 (by kernel_rfl) (by kernel_rfl)
noncomputable def ft74 : Tr FI := ft73.put 75 (some (ofFunc Try.f75))
theorem ft74Ok : FTok Try.prog ft74 := ft73Ok.add (by kernel_rfl) Try.func75 (by kernel_rfl) (by kernel_rfl)
noncomputable def ft75 : Tr FI := ft74.put 76 (some (ofFunc Try.f76))
theorem ft75Ok : FTok Try.prog ft75 := ft74Ok.add (by kernel_rfl) Try.func76 (by kernel_rfl) (by kernel_rfl)
noncomputable def ft76 : Tr FI := ft75.put 77 (some (ofFunc Try.f77))
theorem ft76Ok : FTok Try.prog ft76 := ft75Ok.add (by kernel_rfl) Try.func77 (by kernel_rfl) (by kernel_rfl)
noncomputable def ft77 : Tr FI := ft76.put 78 (some (ofFunc Try.f78))
theorem ft77Ok : FTok Try.prog ft77 := ft76Ok.add (by kernel_rfl) Try.func78 (by kernel_rfl) (by kernel_rfl)
noncomputable def ft78 : Tr FI := ft77.put 79 (some (ofFunc Try.f79))
theorem ft78Ok : FTok Try.prog ft78 := ft77Ok.add (by kernel_rfl) Try.func79 (by kernel_rfl) (by kernel_rfl)
noncomputable def ft79 : Tr FI := ft78.put 80 (some (ofFunc Try.f80))
theorem ft79Ok : FTok Try.prog ft79 := ft78Ok.add (by kernel_rfl) Try.func80 (by kernel_rfl) (by kernel_rfl)
noncomputable def ft80 : Tr FI := ft79.put 81 (some (ofFunc Try.f81))
theorem ft80Ok : FTok Try.prog ft80 := ft79Ok.add (by kernel_rfl) Try.func81 (by kernel_rfl) (by kernel_rfl)
noncomputable def ft81 : Tr FI := ft80.put 82 (some (ofFunc Try.f82))
theorem ft81Ok : FTok Try.prog ft81 := ft80Ok.add (by kernel_rfl) Try.func82 (by kernel_rfl) (by kernel_rfl)
noncomputable def ft82 : Tr FI := ft81.put 83 (some (ofFunc Try.f83))
theorem ft82Ok : FTok Try.prog ft82 := ft81Ok.add (by kernel_rfl) Try.func83 (by kernel_rfl) (by kernel_rfl)
noncomputable def ft83 : Tr FI := ft82.put 84 (some (ofFunc Try.f84))
theorem ft83Ok : FTok Try.prog ft83 := ft82Ok.add (by kernel_rfl) Try.func84 (by kernel_rfl) (by kernel_rfl)
noncomputable def ft84 : Tr FI := ft83.put 85 (some (ofFunc Try.f85))
theorem ft84Ok : FTok Try.prog ft84 := ft83Ok.add (by kernel_rfl) Try.func85 (by kernel_rfl) (by kernel_rfl)
noncomputable def ft85 : Tr FI := ft84.put 86 (some (ofFunc Try.f86))
theorem ft85Ok : FTok Try.prog ft85 := ft84Ok.add (by kernel_rfl) Try.func86 (by kernel_rfl) (by kernel_rfl)
noncomputable def ft86 : Tr FI := ft85.put 87 (some (ofFunc Try.f87))
theorem ft86Ok : FTok Try.prog ft86 := ft85Ok.add (by kernel_rfl) Try.func87 (by kernel_rfl) (by kernel_rfl)
noncomputable def ft87 : Tr FI := ft86.put 88 (some (ofFunc Try.f88))
theorem ft87Ok : FTok Try.prog ft87 := ft86Ok.add (by kernel_rfl) Try.func88 (by kernel_rfl) (by kernel_rfl)
noncomputable def ft88 : Tr FI := ft87.put 89 (some (ofFunc Try.f89))
theorem ft88Ok : FTok Try.prog ft88 := ft87Ok.add (by kernel_rfl) Try.func89 (by kernel_rfl) (by kernel_rfl)
noncomputable def ft89 : Tr FI := ft88.put 90 (some (ofFunc Try.f90))
theorem ft89Ok : FTok Try.prog ft89 := ft88Ok.add (by kernel_rfl) Try.func90 (by kernel_rfl) (by kernel_rfl)
noncomputable def ft90 : Tr FI := ft89.put 91 (some (ofFunc Try.f91))
theorem ft90Ok : FTok Try.prog ft90 := ft89Ok.add (by kernel_rfl) Try.func91 (by kernel_rfl) (by kernel_rfl)
noncomputable def ft91 : Tr FI := ft90.put 92 (some (ofFunc Try.f92))
theorem ft91Ok : FTok Try.prog ft91 := ft90Ok.add (by kernel_rfl) Try.func92 (by kernel_rfl) (by kernel_rfl)
noncomputable def ft92 : Tr FI := ft91.put 93 (some (ofFunc Try.f93))
theorem ft92Ok : FTok Try.prog ft92 := ft91Ok.add (by kernel_rfl) Try.func93 (by kernel_rfl) (by kernel_rfl)
noncomputable def ft93 : Tr FI := ft92.put 94 (some (ofFunc Try.f94))
theorem ft93Ok : FTok Try.prog ft93 := ft92Ok.add (by kernel_rfl) Try.func94 (by kernel_rfl) (by kernel_rfl)
noncomputable def ft94 : Tr FI := ft93.put 95 (some (ofFunc Try.f95))
theorem ft94Ok : FTok Try.prog ft94 := ft93Ok.add (by kernel_rfl) Try.func95 (by kernel_rfl) (by kernel_rfl)
noncomputable def ft95 : Tr FI := ft94.put 96 (some (ofFunc Try.f96))
theorem ft95Ok : FTok Try.prog ft95 := ft94Ok.add (by kernel_rfl) Try.func96 (by kernel_rfl) (by kernel_rfl)
noncomputable def ft96 : Tr FI := ft95.put 97 (some (ofFunc Try.f97))
theorem ft96Ok : FTok Try.prog ft96 := ft95Ok.add (by kernel_rfl) Try.func97 (by kernel_rfl) (by kernel_rfl)
noncomputable def ft97 : Tr FI := ft96.put 98 (some (ofFunc Try.f98))
theorem ft97Ok : FTok Try.prog ft97 := ft96Ok.add (by kernel_rfl) Try.func98 (by kernel_rfl) (by kernel_rfl)
noncomputable def ft98 : Tr FI := ft97.put 99 (some (ofFunc Try.f99))
theorem ft98Ok : FTok Try.prog ft98 := ft97Ok.add (by kernel_rfl) Try.func99 (by kernel_rfl) (by kernel_rfl)
noncomputable def ft99 : Tr FI := ft98.put 100 (some (ofFunc Try.f100))
theorem ft99Ok : FTok Try.prog ft99 := ft98Ok.add (by kernel_rfl) Try.func100 (by kernel_rfl) (by kernel_rfl)
noncomputable def ft100 : Tr FI := ft99.put 101 (some (ofFunc Try.f101))
theorem ft100Ok : FTok Try.prog ft100 := ft99Ok.add (by kernel_rfl) Try.func101 (by kernel_rfl) (by kernel_rfl)
noncomputable def ft101 : Tr FI := ft100.put 102 (some (ofFunc Try.f102))
theorem ft101Ok : FTok Try.prog ft101 := ft100Ok.add (by kernel_rfl) Try.func102 (by kernel_rfl) (by kernel_rfl)
noncomputable def ft102 : Tr FI := ft101.put 103 (some (ofFunc Try.f103))
theorem ft102Ok : FTok Try.prog ft102 := ft101Ok.add (by kernel_rfl) Try.func103 (by kernel_rfl) (by kernel_rfl)
noncomputable def ft103 : Tr FI := ft102.put 104 (some (ofFunc Try.f104))
theorem ft103Ok : FTok Try.prog ft103 := ft102Ok.add (by kernel_rfl) Try.func104 (by kernel_rfl) (by kernel_rfl)
noncomputable def ft104 : Tr FI := ft103.put 105 (some (ofFunc Try.f105))
theorem ft104Ok : FTok Try.prog ft104 := ft103Ok.add (by kernel_rfl) Try.func105 (by kernel_rfl) (by kernel_rfl)
noncomputable def ft105 : Tr FI := ft104.put 106 (some (ofFunc Try.f106))
theorem ft105Ok : FTok Try.prog ft105 := ft104Ok.add (by kernel_rfl) Try.func106 (by kernel_rfl) (by kernel_rfl)
noncomputable def ft106 : Tr FI := ft105.put 107 (some (ofFunc Try.f107))
theorem ft106Ok : FTok Try.prog ft106 := ft105Ok.add (by kernel_rfl) Try.func107 (by kernel_rfl) (by kernel_rfl)
noncomputable def ft107 : Tr FI := ft106.put 108 (some (ofFunc Try.f108))
theorem ft107Ok : FTok Try.prog ft107 := ft106Ok.add (by kernel_rfl) Try.func108 (by kernel_rfl) (by kernel_rfl)
noncomputable def ft108 : Tr FI := ft107.put 109 (some (ofFunc Try.f109))
theorem ft108Ok : FTok Try.prog ft108 := ft107Ok.add (by kernel_rfl) Try.func109 (by kernel_rfl) (by kernel_rfl)
noncomputable def ft109 : Tr FI := ft108.put 110 (some (ofFunc Try.f110))
theorem ft109Ok : FTok Try.prog ft109 := ft108Ok.add (by kernel_rfl) Try.func110 (by kernel_rfl) (by kernel_rfl)
noncomputable def ft110 : Tr FI := ft109.put 111 (some (ofFunc Try.f111))
theorem ft110Ok : FTok Try.prog ft110 := ft109Ok.add (by kernel_rfl) Try.func111 (by kernel_rfl) (by kernel_rfl)
noncomputable def ft111 : Tr FI := ft110.put 112 (some (ofFunc Try.f112))
theorem ft111Ok : FTok Try.prog ft111 := ft110Ok.add (by kernel_rfl) Try.func112 (by kernel_rfl) (by kernel_rfl)
noncomputable def ft112 : Tr FI := ft111.put 113 (some (ofFunc Try.f113))
theorem ft112Ok : FTok Try.prog ft112 := ft111Ok.add (by kernel_rfl) Try.func113 (by kernel_rfl) (by kernel_rfl)
noncomputable def ft113 : Tr FI := ft112.put 114 (some (ofFunc Try.f114))
theorem ft113Ok : FTok Try.prog ft113 := ft112Ok.add (by kernel_rfl) Try.func114 (by kernel_rfl) (by kernel_rfl)
noncomputable def ft114 : Tr FI := ft113.put 115 (some (ofFunc Try.f115))
theorem ft114Ok : FTok Try.prog ft114 := ft113Ok.add (by kernel_rfl) Try.func115 (by kernel_rfl) (by kernel_rfl)
noncomputable def ft115 : Tr FI := ft114.put 116 (some (ofFunc Try.f116))
theorem ft115Ok : FTok Try.prog ft115 := ft114Ok.add (by kernel_rfl) Try.func116 (by kernel_rfl) (by kernel_rfl)
noncomputable def ft116 : Tr FI := ft115.put 117 (some (ofFunc Try.f117))
theorem ft116Ok : FTok Try.prog ft116 := ft115Ok.add (by kernel_rfl) Try.func117 (by kernel_rfl) (by kernel_rfl)
noncomputable def ft117 : Tr FI := ft116.put 118 (some (ofFunc Try.f118))
theorem ft117Ok : FTok Try.prog ft117 := ft116Ok.add (by kernel_rfl) Try.func118 (by kernel_rfl) (by kernel_rfl)
noncomputable def ft118 : Tr FI := ft117.put 119 (some (ofFunc Try.f119))
theorem ft118Ok : FTok Try.prog ft118 := ft117Ok.add (by kernel_rfl) Try.func119 (by kernel_rfl) (by kernel_rfl)
noncomputable def ft119 : Tr FI := ft118.put 120 (some (ofFunc Try.f120))
theorem ft119Ok : FTok Try.prog ft119 := ft118Ok.add (by kernel_rfl) Try.func120 (by kernel_rfl) (by kernel_rfl)
noncomputable def ft : Tr FI := (.node none (.node none (.node none (.node none (.node none (.node none (.node none .nil (.node (some (ofFunc Try.f64)) .nil .nil)) (.node (some (ofFunc Try.f32)) .nil (.node (some (ofFunc Try.f96)) .nil .nil))) (.node (some (ofFunc Try.f16)) (.node none .nil (.node (some (ofFunc Try.f80)) .nil .nil)) (.node (some (ofFunc Try.f48)) .nil (.node (some (ofFunc Try.f112)) .nil .nil)))) (.node (some (ofFunc Try.f8)) (.node none (.node none .nil (.node (some (ofFunc Try.f72)) .nil .nil)) (.node (some (ofFunc Try.f40)) .nil (.node (some (ofFunc Try.f104)) .nil .nil))) (.node (some (ofFunc Try.f24)) (.node none .nil (.node (some (ofFunc Try.f88)) .nil .nil)) (.node (some (ofFunc Try.f56)) .nil (.node (some (ofFunc Try.f120)) .nil .nil))))) (.node (some (ofFunc Try.f4)) (.node none (.node none (.node none .nil (.node (some (ofFunc Try.f68)) .nil .nil)) (.node (some (ofFunc Try.f36)) .nil (.node (some (ofFunc Try.f100)) .nil .nil))) (.node (some (ofFunc Try.f20)) (.node none .nil (.node (some (ofFunc Try.f84)) .nil .nil)) (.node (some (ofFunc Try.f52)) .nil (.node (some (ofFunc Try.f116)) .nil .nil)))) (.node (some (ofFunc Try.f12)) (.node none (.node none .nil (.node (some (ofFunc Try.f76)) .nil .nil)) (.node (some (ofFunc Try.f44)) .nil (.node (some (ofFunc Try.f108)) .nil .nil))) (.node (some (ofFunc Try.f28)) (.node none .nil (.node (some (ofFunc Try.f92)) .nil .nil)) (.node (some (ofFunc Try.f60)) .nil .nil))))) (.node (some (ofFunc Try.f2)) (.node none (.node none (.node none (.node none .nil (.node (some (ofFunc Try.f66)) .nil .nil)) (.node (some (ofFunc Try.f34)) .nil (.node (some (ofFunc Try.f98)) .nil .nil))) (.node (some (ofFunc Try.f18)) (.node none .nil (.node (some (ofFunc Try.f82)) .nil .nil)) (.node (some (ofFunc Try.f50)) .nil (.node (some (ofFunc Try.f114)) .nil .nil)))) (.node (some (ofFunc Try.f10)) (.node none (.node none .nil (.node (some (ofFunc Try.f74)) .nil .nil)) (.node (some (ofFunc Try.f42)) .nil (.node (some (ofFunc Try.f106)) .nil .nil))) (.node (some (ofFunc Try.f26)) (.node none .nil (.node (some (ofFunc Try.f90)) .nil .nil)) (.node (some (ofFunc Try.f58)) .nil .nil)))) (.node (some (ofFunc Try.f6)) (.node none (.node none (.node none .nil (.node (some (ofFunc Try.f70)) .nil .nil)) (.node (some (ofFunc Try.f38)) .nil (.node (some (ofFunc Try.f102)) .nil .nil))) (.node (some (ofFunc Try.f22)) (.node none .nil (.node (some (ofFunc Try.f86)) .nil .nil)) (.node (some (ofFunc Try.f54)) .nil (.node (some (ofFunc Try.f118)) .nil .nil)))) (.node (some (ofFunc Try.f14)) (.node none (.node none .nil (.node (some (ofFunc Try.f78)) .nil .nil)) (.node (some (ofFunc Try.f46)) .nil (.node (some (ofFunc Try.f110)) .nil .nil))) (.node (some (ofFunc Try.f30)) (.node none .nil (.node (some (ofFunc Try.f94)) .nil .nil)) (.node (some (ofFunc Try.f62)) .nil .nil)))))) (.node none (.node none (.node none (.node none (.node none (.node none .nil (.node (some (ofFunc Try.f65)) .nil .nil)) (.node (some (ofFunc Try.f33)) .nil (.node (some (ofFunc Try.f97)) .nil .nil))) (.node (some (ofFunc Try.f17)) (.node none .nil (.node (some (ofFunc Try.f81)) .nil .nil)) (.node (some (ofFunc Try.f49)) .nil (.node (some (ofFunc Try.f113)) .nil .nil)))) (.node (some (ofFunc Try.f9)) (.node none (.node none .nil (.node (some (ofFunc Try.f73)) .nil .nil)) (.node (some (ofFunc Try.f41)) .nil (.node (some (ofFunc Try.f105)) .nil .nil))) (.node (some (ofFunc Try.f25)) (.node none .nil (.node (some (ofFunc Try.f89)) .nil .nil)) (.node (some (ofFunc Try.f57)) .nil .nil)))) (.node (some (ofFunc Try.f5)) (.node none (.node none (.node none .nil (.node (some (ofFunc Try.f69)) .nil .nil)) (.node (some (ofFunc Try.f37)) .nil (.node (some (ofFunc Try.f101)) .nil .nil))) (.node (some (ofFunc Try.f21)) (.node none .nil (.node (some (ofFunc Try.f85)) .nil .nil)) (.node (some (ofFunc Try.f53)) .nil (.node (some (ofFunc Try.f117)) .nil .nil)))) (.node (some (ofFunc Try.f13)) (.node none (.node none .nil (.node (some (ofFunc Try.f77)) .nil .nil)) (.node (some (ofFunc Try.f45)) .nil (.node (some (ofFunc Try.f109)) .nil .nil))) (.node (some (ofFunc Try.f29)) (.node none .nil (.node (some (ofFunc Try.f93)) .nil .nil)) (.node (some (ofFunc Try.f61)) .nil .nil))))) (.node (some (ofFunc Try.f3)) (.node none (.node none (.node none (.node none .nil (.node (some (ofFunc Try.f67)) .nil .nil)) (.node (some (ofFunc Try.f35)) .nil (.node (some (ofFunc Try.f99)) .nil .nil))) (.node (some (ofFunc Try.f19)) (.node none .nil (.node (some (ofFunc Try.f83)) .nil .nil)) (.node (some (ofFunc Try.f51)) .nil (.node (some (ofFunc Try.f115)) .nil .nil)))) (.node (some (ofFunc Try.f11)) (.node none (.node none .nil (.node (some (ofFunc Try.f75)) .nil .nil)) (.node (some (ofFunc Try.f43)) .nil (.node (some (ofFunc Try.f107)) .nil .nil))) (.node (some (ofFunc Try.f27)) (.node none .nil (.node (some (ofFunc Try.f91)) .nil .nil)) (.node (some (ofFunc Try.f59)) .nil .nil)))) (.node (some (ofFunc Try.f7)) (.node none (.node none (.node none .nil (.node (some (ofFunc Try.f71)) .nil .nil)) (.node (some (ofFunc Try.f39)) .nil (.node (some (ofFunc Try.f103)) .nil .nil))) (.node (some (ofFunc Try.f23)) (.node none .nil (.node (some (ofFunc Try.f87)) .nil .nil)) (.node (some (ofFunc Try.f55)) .nil (.node (some (ofFunc Try.f119)) .nil .nil)))) (.node (some (ofFunc Try.f15)) (.node none (.node none .nil (.node (some (ofFunc Try.f79)) .nil .nil)) (.node (some (ofFunc Try.f47)) .nil (.node (some (ofFunc Try.f111)) .nil .nil))) (.node (some (ofFunc Try.f31)) (.node none .nil (.node (some (ofFunc Try.f95)) .nil .nil)) (.node (some (ofFunc Try.f63)) .nil .nil)))))))
theorem ftOk : FTok Try.prog ft := (show ft119 = ft by kernel_rfl) ▸ ft119Ok
end Go.Proofs.Ytfmofpdbhkoopaa.Ev
namespace Go.Proofs.Ytfmofpdbhkoopaa.Ev
open Go.Proofs
noncomputable def dr4 := drD Try.prog ft 16 4
noncomputable def sub4 : Sub := exSub (fun f => exStep Try.prog ft f (drD Try.prog ft 16 3)) ft 16
theorem mix : Try.prog.follows .mixedOrders = true := by kernel_rfl
theorem dr4Ok : DrOk Try.prog dr4 := drD_ok mix ftOk 16 4
theorem sub4Ok : LoudOk Try.prog sub4 := loudOk ftOk (fun fid cs w0 γ s m hM => exStep_ok ftOk (drD_ok mix ftOk 16 3) hM) 16
theorem if_bc {α : Type} (b : Bool) (x y : α) (h : b = true) : bc b x y = x := by subst h; rfl
theorem if_bcf {α : Type} (b : Bool) (x y : α) (h : b = false) : bc b x y = y := by subst h; rfl
theorem bc_t {α : Type} (x y : α) : bc true x y = x := rfl
theorem bc_f {α : Type} (x y : α) : bc false x y = y := rfl
theorem eqB_t : eqB true true = true := rfl
theorem eqB_f : eqB false false = true := rfl
theorem nn_ok (b : Bool) : bc b true (bc b false true) = true := by cases b <;> rfl
/-- the place of an element -/
theorem at_nat (i : Nat) : Nat.add 0 (Nat.mul i 1) = i := by show 0 + i * 1 = i; omega
theorem to_nat (i : Nat) : Int.toNat (i : Int) = i := Int.toNat_natCast i
theorem dt {p : Prop} [Decidable p] (h : p) : decide p = true := decide_eq_true h
theorem df {p : Prop} [Decidable p] (h : ¬ p) : decide p = false := decide_eq_false h
theorem getD_at {l : List Int} {i : Nat} (h : i < l.length) : l.getD i 0 = l[i] := by rw [List.getD_eq_getElem?_getD, List.getElem?_eq_getElem h]; rfl
theorem blt_of {a b : Nat} (h : a < b) : Nat.blt a b = true := by unfold Nat.blt; exact Nat.ble_eq_true_of_le h
theorem blt_of_not {a b : Nat} (h : ¬ a < b) : Nat.blt a b = false := by
  cases e : Nat.blt a b with
  | false => rfl
  | true => exact absurd (blt_lt e) h
theorem ble_of {a b : Nat} (h : a ≤ b) : Nat.ble a b = true := Nat.ble_eq_true_of_le h
theorem wrap_in (x : Int) (h1 : -4611686018427387904 ≤ x) (h2 : x < 4611686018427387904) : IntKind.i64.wrap x = x := IntWalk.i64_in _ (by omega)
theorem ro_look {ty : TypeId} {ls : List (List Int)} {ρ : List (Nat × Nat)} (h : ∀ i, i < ls.length → lookN ρ i = some i) : ∀ i c, (roL ty ls).get i = some c → lookN ρ i = some i := fun i c hi => by
  obtain ⟨l, h1, _⟩ := roL_get hi
  exact h i (List.getElem?_eq_some_iff.1 h1).1
theorem look1 {ρ : List (Nat × Nat)} (h : lookN ρ 0 = some 0) : ∀ i, i < 1 → lookN ρ i = some i := fun i hi => by
  have : i = 0 := by omega
  subst this; exact h
theorem look2 {ρ : List (Nat × Nat)} (h : lookN ρ 0 = some 0) (h1 : lookN ρ 1 = some 1) : ∀ i, i < 2 → lookN ρ i = some i := fun i hi => by
  have : i = 0 ∨ i = 1 := by omega
  rcases this with rfl | rfl
  · exact h
  · exact h1
/-- the frame that a call enters -/
noncomputable def ent (f : FuncId) (args : List EV) : EF := Option.rec ⟨f, 0, .nil, [], [], none, false⟩ (fun e => e) (exEnter ft f args)
/-- an open int -/
noncomputable abbrev iv (n : Int) : EV := .v (.int .i64 n)
noncomputable def neg (x : Int) : Int := IntKind.i64.wrap (0 - x)
/-- a run from s, in function f, to the places p -/
noncomputable def runBL (lk : List Nat) (f : FuncId) (ct : Tr YCT) (ls : List (List Int)) (p : ES → Bool) (sl : List SL) (nils : List (Nat × TypeId × SyC)) (ρ keep : List (Nat × Nat)) (N : Nat) (out : List Nat) (s : ES) : YF := runC (stepC Try.prog ft f dr4 sub4 ct (roL 3 ls)) p (endF lk sl ρ keep nils N out) 400 s
noncomputable abbrev runB (f : FuncId) (ct : Tr YCT) (ls : List (List Int)) (p : ES → Bool) (sl : List SL) (nils : List (Nat × TypeId × SyC)) (ρ keep : List (Nat × Nat)) (N : Nat) (out : List Nat) (s : ES) : YF := runBL [] f ct ls p sl nils ρ keep N out s
theorem leadsB {lk : List Nat} {f : FuncId} {ct : Tr YCT} (hct : CtsOk Try.prog ct) {ls : List (List Int)} {p : ES → Bool} {sl : List SL} {nils : List (Nat × TypeId × SyC)} {ρ keep : List (Nat × Nat)} {N : Nat} {out : List Nat} {s : ES} {r : NS} (hl : ∀ i, i < ls.length → lookN ρ i = some i) (h : runBL lk f ct ls p sl nils ρ keep N out s = .at r) : LeadsY Try.prog (roL 3 ls) s (stOf r) :=
  leadsF (f := f) mix ftOk dr4Ok sub4Ok hct (ro_look hl) h
theorem leadsB1 {lk : List Nat} {f : FuncId} {ct : Tr YCT} (hct : CtsOk Try.prog ct) {l : List Int} {p : ES → Bool} {sl : List SL} {nils : List (Nat × TypeId × SyC)} {ρ keep : List (Nat × Nat)} {N : Nat} {out : List Nat} {s : ES} {r : NS} (h : runBL lk f ct [l] p sl nils ρ keep N out s = .at r) (h0 : lookN ρ 0 = some 0 := by rfl) : LeadsY Try.prog (roL 3 [l]) s (stOf r) :=
  leadsB hct (look1 h0) h
theorem leadsB2 {lk : List Nat} {f : FuncId} {ct : Tr YCT} (hct : CtsOk Try.prog ct) {l m : List Int} {p : ES → Bool} {sl : List SL} {nils : List (Nat × TypeId × SyC)} {ρ keep : List (Nat × Nat)} {N : Nat} {out : List Nat} {s : ES} {r : NS} (h : runBL lk f ct [l, m] p sl nils ρ keep N out s = .at r) (h0 : lookN ρ 0 = some 0 := by rfl) (h1 : lookN ρ 1 = some 1 := by rfl) : LeadsY Try.prog (roL 3 [l, m]) s (stOf r) :=
  leadsB hct (look2 h0 h1) h
theorem callsB {γ : G} {w : World} {lk : List Nat} {f : FuncId} {ct : Tr YCT} (hct : CtsOk Try.prog ct) {ls : List (List Int)} {p : ES → Bool} {sl : List SL} {nils : List (Nat × TypeId × SyC)} {ρ keep : List (Nat × Nat)} {N' : Nat} {out : List Nat} {s : ES} {args : List EV} {us : Array Value} {e : EF} {a : EV} {K : List (Nat × EK)} {n' N : Nat} (he : exEnter ft f args = some e) (hargs : ECL γ args us.toList) (hRO : ROk γ (Bs.of w) (roL 3 ls)) (hN : ∀ i, N ≤ i → γ i = none) (hlt : ∀ i p, γ i = some p → p.1.k < w.heap.size)
    (hl : LeadsY Try.prog (roL 3 ls) ⟨e, [], .nil, N⟩ s) (hd : runBL lk f ct ls p sl nils ρ keep N' out s = .done a K n') :
    Calls Try.prog f us w fun e w' => ∃ γ' x, e = .returned x ∧ EC γ' a x ∧ HR γ' (Bs.of w) (mkT K) n' w' :=
  callsF mix ftOk dr4Ok sub4Ok hct he hargs hRO hN hlt hl hd
end Go.Proofs.Ytfmofpdbhkoopaa.Ev
namespace Go.Proofs.Ytfmofpdbhkoopaa.Ev
open Go.Proofs
noncomputable def redStep (out : List Int) (x : Int) : List Int := bc (decide (0 < out.length)) (bc (out.getD (out.length - 1) 0 == neg x) (out.take (out.length - 1)) (out ++ [x])) (out ++ [x])
noncomputable def red (l : List Int) : List Int := l.foldl redStep []
theorem redStep_len (out : List Int) (x : Int) : (redStep out x).length ≤ out.length + 1 := by
  unfold redStep
  rw [bc_eq]
  split
  · rw [bc_eq]
    split
    · rw [List.length_take]; omega
    · simp
  · simp
namespace Red
noncomputable def RUN (l : List Int) (nils : List (Nat × TypeId × SyC)) (ρ keep : List (Nat × Nat)) (s : ES) : YF := runB 67 .nil [l] (atS 0 67 3) [[(0, none), (3, some (1, 1)), (4, none)]] nils ρ keep 2 [1] s
theorem en_ok (l : List Int) (nn : Bool) : exEnter ft 67 [.slO 0 1 l.length nn] = some (ent 67 [.slO 0 1 l.length nn]) := by kernel_rfl
noncomputable def sL (l : List Int) (nn : Bool) (out : List Int) (nno : Bool) (i : Int) : NS := ⟨[⟨67, 41, [(0, (.slO 0 1 (l.length) (nn))), (3, (.slO 1 1 out.length nno)), (4, (.v (.int IntKind.i64 i)))], [.it (.code (nav [1, 1, 0, 1, 0, 0, 0] (bodyOf Try.f67))), .it (.code (nav [1, 1, 0, 1, 0, 0, 1] (bodyOf Try.f67))), .it (.inLoop (nav [1, 1, 0, 1, 0, 0] (bodyOf Try.f67))), .it (.inBlock 0), .it (.code (nav [1, 1, 1] (bodyOf Try.f67)))], [], none⟩], [(1, (.seq 3 (.ints IntKind.i64 out) nno))], 2⟩
theorem in_t (l : List Int) (nn : Bool) : RUN l [(1, 3, .ints .i64 [])] [(0, 0)] [] ⟨ent 67 [.slO 0 1 l.length nn], [], .nil, 2⟩ = (.at ⟨[⟨67, 41, [(0, (.slO 0 1 (List.length l) (nn))), (3, (.slO 1 1 0 false)), (4, (.v (.int IntKind.i64 (Int.ofNat 0))))], [.it (.code (nav [1, 1, 0, 1, 0, 0, 0] (bodyOf Try.f67))), .it (.code (nav [1, 1, 0, 1, 0, 0, 1] (bodyOf Try.f67))), .it (.inLoop (nav [1, 1, 0, 1, 0, 0] (bodyOf Try.f67))), .it (.inBlock 0), .it (.code (nav [1, 1, 1] (bodyOf Try.f67)))], [], none⟩], [(1, (.seq 3 (.ints IntKind.i64 []) false))], 2⟩) := by kernel_rfl
theorem cut_t (l : List Int) (nn : Bool) (out : List Int) (nno : Bool) (i : Int) : RUN l [] [(0, 0), (1, 1)] [(1, 1)] (stOf (sL l nn out nno i)) = (bc (decide (i < Int.ofNat (List.length l)))
  (bc (decide (0 < Int.ofNat (List.length out)))
    (bc (bc (eqB (decide (0 < Int.ofNat (List.length out))) true) (bc (bc (decide (0 ≤ IntKind.wrap IntKind.i64 (Int.ofNat (List.length out) - 1))) (Nat.blt (Int.toNat (IntKind.wrap IntKind.i64 (Int.ofNat (List.length out) - 1))) (List.length out)) false) (bc (Nat.blt (Nat.add 0 (Nat.mul (Int.toNat (IntKind.wrap IntKind.i64 (Int.ofNat (List.length out) - 1))) 1)) (List.length out)) (bc (bc (decide (0 ≤ i)) (Nat.blt (Int.toNat i) (List.length l)) false) (bc (Nat.blt (Nat.add 0 (Nat.mul (Int.toNat i) 1)) (List.length l)) true false) false) false) false) false)
      (bc (List.getD out (Nat.add 0 (Nat.mul (Int.toNat (IntKind.wrap IntKind.i64 (Int.ofNat (List.length out) - 1))) 1)) 0 == IntKind.wrap IntKind.i64 (0 - List.getD l (Nat.add 0 (Nat.mul (Int.toNat i) 1)) 0))
        (bc (bc (decide (0 ≤ IntKind.wrap IntKind.i64 (Int.ofNat (List.length out) - 1))) (bc (Nat.ble (Int.toNat (IntKind.wrap IntKind.i64 (Int.ofNat (List.length out) - 1))) (List.length out)) (Nat.beq (List.length out) (List.length out)) false) false)
          (.at ⟨[⟨67, 41, [(0, (.slO 0 1 (List.length l) (nn))), (3, (.slO 1 1 (Int.toNat (IntKind.wrap IntKind.i64 (Int.ofNat (List.length out) - 1))) (nno))), (4, (.v (.int IntKind.i64 (IntKind.wrap IntKind.i64 (i + 1)))))], [.it (.code (nav [1, 1, 0, 1, 0, 0, 0] (bodyOf Try.f67))), .it (.code (nav [1, 1, 0, 1, 0, 0, 1] (bodyOf Try.f67))), .it (.inLoop (nav [1, 1, 0, 1, 0, 0] (bodyOf Try.f67))), .it (.inBlock 0), .it (.code (nav [1, 1, 1] (bodyOf Try.f67)))], [], none⟩], [(1, (.seq 3 (.ints IntKind.i64 (List.take (Int.toNat (IntKind.wrap IntKind.i64 (Int.ofNat (List.length out) - 1))) out)) (nno)))], 2⟩)
          .bad)
        (bc (bc (decide (0 ≤ i)) (Nat.blt (Int.toNat i) (List.length l)) false)
          (bc (Nat.blt (Nat.add 0 (Nat.mul (Int.toNat i) 1)) (List.length l))
            (bc (bc (Nat.beq (List.length out) (List.length out)) (bc (Nat.ble (List.length out + 1) 65536) (bc (nno) true (bc (nno) false true)) false) false)
              .bad
              .bad)
            .bad)
          .bad))
      .bad)
    (bc (bc (eqB (decide (0 < Int.ofNat (List.length out))) false) true false)
      (bc (bc (decide (0 ≤ i)) (Nat.blt (Int.toNat i) (List.length l)) false)
        (bc (Nat.blt (Nat.add 0 (Nat.mul (Int.toNat i) 1)) (List.length l))
          (bc (bc (Nat.beq (List.length out) (List.length out)) (bc (Nat.ble (List.length out + 1) 65536) (bc (nno) true (bc (nno) false true)) false) false)
            .bad
            .bad)
          .bad)
        .bad)
      .bad))
  (.done (.slO 1 1 (List.length out) (nno)) [(1, (.seq 3 (.ints IntKind.i64 (out)) (nno)))] 2)) := by kernel_rfl
theorem app_t (l : List Int) (nn : Bool) (out : List Int) (nno : Bool) (i : Int) : RUN l [] [(0, 0), (20, 1)] [(20, 1)] (stOf (sL l nn out nno i)) = (bc (decide (i < Int.ofNat (List.length l)))
  (bc (decide (0 < Int.ofNat (List.length out)))
    (bc (bc (eqB (decide (0 < Int.ofNat (List.length out))) true) (bc (bc (decide (0 ≤ IntKind.wrap IntKind.i64 (Int.ofNat (List.length out) - 1))) (Nat.blt (Int.toNat (IntKind.wrap IntKind.i64 (Int.ofNat (List.length out) - 1))) (List.length out)) false) (bc (Nat.blt (Nat.add 0 (Nat.mul (Int.toNat (IntKind.wrap IntKind.i64 (Int.ofNat (List.length out) - 1))) 1)) (List.length out)) (bc (bc (decide (0 ≤ i)) (Nat.blt (Int.toNat i) (List.length l)) false) (bc (Nat.blt (Nat.add 0 (Nat.mul (Int.toNat i) 1)) (List.length l)) true false) false) false) false) false)
      (bc (List.getD out (Nat.add 0 (Nat.mul (Int.toNat (IntKind.wrap IntKind.i64 (Int.ofNat (List.length out) - 1))) 1)) 0 == IntKind.wrap IntKind.i64 (0 - List.getD l (Nat.add 0 (Nat.mul (Int.toNat i) 1)) 0))
        (bc (bc (decide (0 ≤ IntKind.wrap IntKind.i64 (Int.ofNat (List.length out) - 1))) (bc (Nat.ble (Int.toNat (IntKind.wrap IntKind.i64 (Int.ofNat (List.length out) - 1))) (List.length out)) (Nat.beq (List.length out) (List.length out)) false) false)
          .bad
          .bad)
        (bc (bc (decide (0 ≤ i)) (Nat.blt (Int.toNat i) (List.length l)) false)
          (bc (Nat.blt (Nat.add 0 (Nat.mul (Int.toNat i) 1)) (List.length l))
            (bc (bc (Nat.beq (List.length out) (List.length out)) (bc (Nat.ble (List.length out + 1) 65536) (bc (nno) true (bc (nno) false true)) false) false)
              (.at ⟨[⟨67, 41, [(0, (.slO 0 1 (List.length l) (nn))), (3, (.slO 1 1 (List.length out + 1) true)), (4, (.v (.int IntKind.i64 (IntKind.wrap IntKind.i64 (i + 1)))))], [.it (.code (nav [1, 1, 0, 1, 0, 0, 0] (bodyOf Try.f67))), .it (.code (nav [1, 1, 0, 1, 0, 0, 1] (bodyOf Try.f67))), .it (.inLoop (nav [1, 1, 0, 1, 0, 0] (bodyOf Try.f67))), .it (.inBlock 0), .it (.code (nav [1, 1, 1] (bodyOf Try.f67)))], [], none⟩], [(1, (.seq 3 (.ints IntKind.i64 (out ++ [List.getD l (Nat.add 0 (Nat.mul (Int.toNat i) 1)) 0])) true))], 2⟩)
              .bad)
            .bad)
          .bad))
      .bad)
    (bc (bc (eqB (decide (0 < Int.ofNat (List.length out))) false) true false)
      (bc (bc (decide (0 ≤ i)) (Nat.blt (Int.toNat i) (List.length l)) false)
        (bc (Nat.blt (Nat.add 0 (Nat.mul (Int.toNat i) 1)) (List.length l))
          (bc (bc (Nat.beq (List.length out) (List.length out)) (bc (Nat.ble (List.length out + 1) 65536) (bc (nno) true (bc (nno) false true)) false) false)
            (.at ⟨[⟨67, 41, [(0, (.slO 0 1 (List.length l) (nn))), (3, (.slO 1 1 (List.length out + 1) true)), (4, (.v (.int IntKind.i64 (IntKind.wrap IntKind.i64 (i + 1)))))], [.it (.code (nav [1, 1, 0, 1, 0, 0, 0] (bodyOf Try.f67))), .it (.code (nav [1, 1, 0, 1, 0, 0, 1] (bodyOf Try.f67))), .it (.inLoop (nav [1, 1, 0, 1, 0, 0] (bodyOf Try.f67))), .it (.inBlock 0), .it (.code (nav [1, 1, 1] (bodyOf Try.f67)))], [], none⟩], [(1, (.seq 3 (.ints IntKind.i64 (out ++ [List.getD l (Nat.add 0 (Nat.mul (Int.toNat i) 1)) 0])) true))], 2⟩)
            .bad)
          .bad)
        .bad)
      .bad))
  (.done (.slO 1 1 (List.length out) (nno)) [(1, (.seq 3 (.ints IntKind.i64 (out)) (nno)))] 2)) := by kernel_rfl
theorem step (l : List Int) (nn : Bool) (out : List Int) (nno : Bool) (i : Nat) (hi : i < l.length) (hl : l.length ≤ 60000) (ho : out.length ≤ 60000) : ∃ b, (nno = true ∨ out = [] → b = true) ∧ LeadsY Try.prog (roL 3 [l]) (stOf (sL l nn out nno i)) (stOf (sL l nn (redStep out l[i]) b ((i + 1 : Nat) : Int))) := by
  have h1 : decide ((i : Int) < Int.ofNat l.length) = true := dt (by show (i : Int) < (l.length : Int); omega)
  have h2 : decide ((0 : Int) ≤ (i : Int)) = true := dt (by omega)
  have h3 : Nat.blt i l.length = true := blt_of hi
  have h4 : IntKind.i64.wrap ((i : Int) + 1) = ((i + 1 : Nat) : Int) := by rw [wrap_in _ (by omega) (by omega)]; rfl
  have h11 : Nat.ble (out.length + 1) 65536 = true := ble_of (by omega)
  have h12 : (out ++ [l[i]]).length = out.length + 1 := by simp
  by_cases hz : 0 < out.length
  · have h5 : decide ((0 : Int) < Int.ofNat out.length) = true := dt (by show (0 : Int) < (out.length : Int); omega)
    have h6 : IntKind.i64.wrap (Int.ofNat out.length - 1) = ((out.length - 1 : Nat) : Int) := by
      rw [wrap_in _ (by show (-4611686018427387904 : Int) ≤ (out.length : Int) - 1; omega) (by show (out.length : Int) - 1 < 4611686018427387904; omega)]
      show (out.length : Int) - 1 = _
      omega
    have h7 : decide ((0 : Int) ≤ ((out.length - 1 : Nat) : Int)) = true := dt (by omega)
    have h8 : Nat.blt (out.length - 1) out.length = true := blt_of (by omega)
    have h9 : Nat.ble (out.length - 1) out.length = true := ble_of (by omega)
    have hd : decide (0 < out.length) = true := dt hz
    cases hb : (out.getD (out.length - 1) 0 == neg l[i]) with
    | true =>
      have h := cut_t l nn out nno i
      unfold neg at hb
      simp only [h1, h2, h3, h4, h5, h6, h7, h8, h9, at_nat, to_nat, bc_t, bc_f, eqB_t, Nat.beq_refl, getD_at hi, hb] at h
      refine ⟨nno, fun q => q.elim id fun q => by rw [q] at hz; simp at hz, ?_⟩
      have e : redStep out l[i] = out.take (out.length - 1) := by unfold redStep; rw [hd, bc_t]; unfold neg; rw [hb, bc_t]
      rw [e]
      have h13 : (out.take (out.length - 1)).length = out.length - 1 := by rw [List.length_take]; omega
      have h14 := leadsB1 (CtsOk.nil _) h
      unfold sL
      rw [h13]
      exact h14
    | false =>
      have h := app_t l nn out nno i
      unfold neg at hb
      simp only [h1, h2, h3, h4, h5, h6, h7, h8, h9, h11, at_nat, to_nat, bc_t, bc_f, eqB_t, Nat.beq_refl, nn_ok, getD_at hi, hb] at h
      refine ⟨true, fun _ => rfl, ?_⟩
      have e : redStep out l[i] = out ++ [l[i]] := by unfold redStep; rw [hd, bc_t]; unfold neg; rw [hb, bc_f]
      rw [e]
      have h14 := leadsB1 (CtsOk.nil _) h
      unfold sL
      rw [h12]
      exact h14
  · have h5 : decide ((0 : Int) < Int.ofNat out.length) = false := df (by show ¬ (0 : Int) < (out.length : Int); omega)
    have hd : decide (0 < out.length) = false := df hz
    have h := app_t l nn out nno i
    simp only [h1, h2, h3, h4, h5, h11, at_nat, to_nat, bc_t, bc_f, eqB_f, Nat.beq_refl, nn_ok, getD_at hi] at h
    refine ⟨true, fun _ => rfl, ?_⟩
    have e : redStep out l[i] = out ++ [l[i]] := by unfold redStep; rw [hd, bc_f]
    rw [e]
    have h14 := leadsB1 (CtsOk.nil _) h
    unfold sL
    rw [h12]
    exact h14
theorem loop (l : List Int) (nn : Bool) (hl : l.length ≤ 60000) : ∀ (k i : Nat) (out : List Int) (nno : Bool), i + k = l.length → out.length ≤ i → (nno = true ∨ out = []) → ∃ b, (0 < k ∧ b = true ∨ k = 0 ∧ b = nno) ∧ LeadsY Try.prog (roL 3 [l]) (stOf (sL l nn out nno i)) (stOf (sL l nn ((l.drop i).foldl redStep out) b (l.length : Int)))
  | 0, i, out, nno, h, _, _ => by
    have : i = l.length := by omega
    subst this
    rw [List.drop_length]
    exact ⟨nno, .inr ⟨rfl, rfl⟩, LeadsY.refl _⟩
  | k + 1, i, out, nno, h, ho, hn => by
    obtain ⟨b, h0, h1⟩ := step l nn out nno i (by omega) hl (by omega)
    have hb := h0 hn
    subst hb
    have h2 := redStep_len out l[i]
    obtain ⟨b2, h4, h3⟩ := loop l nn hl k (i + 1) (redStep out l[i]) true (by omega) (by omega) (.inl rfl)
    have hd : l.drop i = l[i] :: l.drop (i + 1) := List.drop_eq_getElem_cons (by omega)
    rw [hd, List.foldl_cons]
    exact ⟨b2, .inl ⟨by omega, h4.elim (fun q => q.2) fun q => q.2⟩, h1.trans h3⟩
theorem last (l : List Int) (nn : Bool) (out : List Int) (nno : Bool) : RUN l [] [(0, 0), (1, 1)] [(1, 1)] (stOf (sL l nn out nno (l.length : Int))) = .done (.slO 1 1 out.length nno) [(1, .seq 3 (.ints .i64 out) nno)] 2 := by
  have h := cut_t l nn out nno (l.length : Int)
  have h1 : decide ((l.length : Int) < Int.ofNat l.length) = false := df (by show ¬ (l.length : Int) < (l.length : Int); omega)
  simp only [h1, bc_f] at h
  exact h
end Red
noncomputable def redS : Spec := fun ps => match ps with
  | [.s l _] => some ⟨Nat.ble l.length 60000, .slO 1 1 (red l).length (Nat.blt 0 l.length), [(1, 3, .ints .i64 (red l), Nat.blt 0 l.length)], 2⟩
  | _ => none
theorem redS_inv {ps : List PV} {r : SR} (h : redS ps = some r) : ∃ l nn, ps = [.s l nn] ∧ r = ⟨Nat.ble l.length 60000, .slO 1 1 (red l).length (Nat.blt 0 l.length), [(1, 3, .ints .i64 (red l), Nat.blt 0 l.length)], 2⟩ := by
  unfold redS at h
  split at h
  · injection h with h; exact ⟨_, _, rfl, h.symm⟩
  · cases h
theorem red_calls : CallsS Try.prog 67 3 redS := fun γ w us ps r h hc ha hR hN hlt => by
  obtain ⟨l, nn, rfl, rfl⟩ := redS_inv h
  have hl : l.length ≤ 60000 := Nat.le_of_ble_eq_true hc
  obtain ⟨b, h1, h2⟩ := Red.loop l nn hl l.length 0 [] false (by omega) (by simp) (.inr rfl)
  have hb : b = Nat.blt 0 l.length := by
    rcases h1 with ⟨q1, q2⟩ | ⟨q1, q2⟩
    · rw [q2, blt_of q1]
    · rw [q2, blt_of_not (by omega)]
  subst hb
  exact callsB (CtsOk.nil _) (Red.en_ok l nn) ha hR (fun i hi => hN i (Nat.le_of_succ_le hi)) hlt ((leadsB1 (CtsOk.nil _) (Red.in_t l nn)).trans h2) (Red.last l nn _ _)
end Go.Proofs.Ytfmofpdbhkoopaa.Ev
namespace Go.Proofs.Ytfmofpdbhkoopaa.Ev
open Go.Proofs
noncomputable def inv (l : List Int) : List Int := (l.map neg).reverse
theorem inv_len (l : List Int) : (inv l).length = l.length := by unfold inv; simp
namespace Inv
noncomputable def RUN (l : List Int) (nils : List (Nat × TypeId × SyC)) (ρ keep : List (Nat × Nat)) (s : ES) : YF := runB 50 .nil [l] (atS 0 50 3) [[(0, none), (3, some (1, 1)), (4, none)]] nils ρ keep 2 [1] s
theorem en_ok (l : List Int) (nn : Bool) : exEnter ft 50 [.slO 0 1 l.length nn] = some (ent 50 [.slO 0 1 l.length nn]) := by kernel_rfl
noncomputable def sL (l : List Int) (nn : Bool) (out : List Int) (nno : Bool) (i : Int) : NS := ⟨[⟨50, 21, [(0, .slO 0 1 l.length nn), (3, .slO 1 1 out.length nno), (4, .v (.int .i64 i))], [.it (.code (nav [1, 1, 0, 1, 0, 0, 0] (bodyOf Try.f50))), .it (.code (nav [1, 1, 0, 1, 0, 0, 1] (bodyOf Try.f50))), .it (.inLoop (nav [1, 1, 0, 1, 0, 0] (bodyOf Try.f50))), .it (.inBlock 0), .it (.code (nav [1, 1, 1] (bodyOf Try.f50)))], [], none⟩], [(1, .seq 3 (.ints .i64 out) nno)], 2⟩
theorem in_t (l : List Int) (nn : Bool) : RUN l [(1, 3, .ints .i64 [])] [(0, 0)] [] ⟨ent 50 [.slO 0 1 l.length nn], [], .nil, 2⟩ = (.at ⟨[⟨50, 21, [(0, (.slO 0 1 (List.length l) (nn))), (3, (.slO 1 1 0 false)), (4, (.v (.int IntKind.i64 (IntKind.wrap IntKind.i64 (Int.ofNat (List.length l) - 1)))))], [.it (.code (nav [1, 1, 0, 1, 0, 0, 0] (bodyOf Try.f50))), .it (.code (nav [1, 1, 0, 1, 0, 0, 1] (bodyOf Try.f50))), .it (.inLoop (nav [1, 1, 0, 1, 0, 0] (bodyOf Try.f50))), .it (.inBlock 0), .it (.code (nav [1, 1, 1] (bodyOf Try.f50)))], [], none⟩], [(1, (.seq 3 (.ints IntKind.i64 []) false))], 2⟩) := by kernel_rfl
theorem step_t (l : List Int) (nn : Bool) (out : List Int) (nno : Bool) (i : Int) : RUN l [] [(0, 0), (3, 1)] [(3, 1)] (stOf (sL l nn out nno i)) = (bc (decide (0 ≤ i))
  (bc (bc (decide (0 ≤ i)) (Nat.blt (Int.toNat i) (List.length l)) false)
    (bc (Nat.blt (Nat.add 0 (Nat.mul (Int.toNat i) 1)) (List.length l))
      (bc (bc (Nat.beq (List.length out) (List.length out)) (bc (Nat.ble (List.length out + 1) 65536) (bc (nno) true (bc (nno) false true)) false) false)
        (.at ⟨[⟨50, 21, [(0, (.slO 0 1 (List.length l) (nn))), (3, (.slO 1 1 (List.length out + 1) true)), (4, (.v (.int IntKind.i64 (IntKind.wrap IntKind.i64 (i - 1)))))], [.it (.code (nav [1, 1, 0, 1, 0, 0, 0] (bodyOf Try.f50))), .it (.code (nav [1, 1, 0, 1, 0, 0, 1] (bodyOf Try.f50))), .it (.inLoop (nav [1, 1, 0, 1, 0, 0] (bodyOf Try.f50))), .it (.inBlock 0), .it (.code (nav [1, 1, 1] (bodyOf Try.f50)))], [], none⟩], [(1, (.seq 3 (.ints IntKind.i64 (out ++ [IntKind.wrap IntKind.i64 (0 - List.getD l (Nat.add 0 (Nat.mul (Int.toNat i) 1)) 0)])) true))], 2⟩)
        .bad)
      .bad)
    .bad)
  (.done (.slO 1 1 (List.length out) (nno)) [(1, (.seq 3 (.ints IntKind.i64 (out)) (nno)))] 2)) := by kernel_rfl
theorem step (l : List Int) (nn : Bool) (out : List Int) (nno : Bool) (i : Nat) (hi : i < l.length) (hl : l.length ≤ 60000) (ho : out.length ≤ 60000) : LeadsY Try.prog (roL 3 [l]) (stOf (sL l nn out nno i)) (stOf (sL l nn (out ++ [neg l[i]]) true ((i : Int) - 1))) := by
  have h2 : decide ((0 : Int) ≤ (i : Int)) = true := dt (by omega)
  have h3 : Nat.blt i l.length = true := blt_of hi
  have h4 : IntKind.i64.wrap ((i : Int) - 1) = (i : Int) - 1 := wrap_in _ (by omega) (by omega)
  have h11 : Nat.ble (out.length + 1) 65536 = true := ble_of (by omega)
  have h12 : (out ++ [neg l[i]]).length = out.length + 1 := by simp
  have h := step_t l nn out nno i
  simp only [h2, h3, h4, h11, at_nat, to_nat, bc_t, bc_f, Nat.beq_refl, nn_ok, getD_at hi] at h
  have h14 := leadsB1 (CtsOk.nil _) h
  unfold sL
  rw [h12]
  exact h14
theorem loop (l : List Int) (nn : Bool) (hl : l.length ≤ 60000) : ∀ (i : Nat) (out : List Int) (nno : Bool), i ≤ l.length → out.length + i ≤ l.length → ∃ b, (0 < i ∧ b = true ∨ i = 0 ∧ b = nno) ∧ LeadsY Try.prog (roL 3 [l]) (stOf (sL l nn out nno ((i : Int) - 1))) (stOf (sL l nn (out ++ ((l.take i).map neg).reverse) b (-1)))
  | 0, out, nno, _, _ => ⟨nno, .inr ⟨rfl, rfl⟩, by simpa using LeadsY.refl _⟩
  | i + 1, out, nno, hi, ho => by
    obtain ⟨b, h0, h⟩ := loop l nn hl i (out ++ [neg l[i]]) true (by omega) (by simp; omega)
    refine ⟨b, .inl ⟨by omega, h0.elim (fun q => q.2) fun q => q.2⟩, ?_⟩
    have h1 := step l nn out nno i (by omega) (by omega) (by omega)
    have e : (((i + 1 : Nat) : Int) - 1) = (i : Int) := by omega
    rw [e]
    refine h1.trans ?_
    have e2 : (out ++ [neg l[i]]) ++ ((l.take i).map neg).reverse = out ++ ((l.take (i + 1)).map neg).reverse := by
      have hlt : i < l.length := by omega
      rw [List.take_succ_eq_append_getElem hlt, List.map_append, List.reverse_append, List.append_assoc]; rfl
    rw [e2] at h
    exact h
theorem last (l : List Int) (nn : Bool) (out : List Int) (nno : Bool) : RUN l [] [(0, 0), (3, 1)] [(3, 1)] (stOf (sL l nn out nno (-1))) = .done (.slO 1 1 out.length nno) [(1, .seq 3 (.ints .i64 out) nno)] 2 := by
  have h := step_t l nn out nno (-1)
  have h1 : decide ((0 : Int) ≤ -1) = false := by decide
  simp only [h1, bc_f] at h
  exact h
end Inv
noncomputable def invS : Spec := fun ps => match ps with
  | [.s l _] => some ⟨Nat.ble l.length 60000, .slO 1 1 (inv l).length (Nat.blt 0 l.length), [(1, 3, .ints .i64 (inv l), Nat.blt 0 l.length)], 2⟩
  | _ => none
theorem invS_inv {ps : List PV} {r : SR} (h : invS ps = some r) : ∃ l nn, ps = [.s l nn] ∧ r = ⟨Nat.ble l.length 60000, .slO 1 1 (inv l).length (Nat.blt 0 l.length), [(1, 3, .ints .i64 (inv l), Nat.blt 0 l.length)], 2⟩ := by
  unfold invS at h
  split at h
  · injection h with h; exact ⟨_, _, rfl, h.symm⟩
  · cases h
theorem inv_calls : CallsS Try.prog 50 3 invS := fun γ w us ps r h hc ha hR hN hlt => by
  obtain ⟨l, nn, rfl, rfl⟩ := invS_inv h
  have hl : l.length ≤ 60000 := Nat.le_of_ble_eq_true hc
  have h0 := Inv.in_t l nn
  rw [show Int.ofNat l.length = (l.length : Int) from rfl, wrap_in _ (by omega) (by omega)] at h0
  obtain ⟨b, h1, h2⟩ := Inv.loop l nn hl l.length [] false (Nat.le_refl _) (by simp)
  rw [List.take_length, List.nil_append] at h2
  have hb : b = Nat.blt 0 l.length := by
    rcases h1 with ⟨q1, q2⟩ | ⟨q1, q2⟩
    · rw [q2, blt_of q1]
    · rw [q2, blt_of_not (by omega)]
  subst hb
  exact callsB (CtsOk.nil _) (Inv.en_ok l nn) ha hR (fun i hi => hN i (Nat.le_of_succ_le hi)) hlt ((leadsB1 (CtsOk.nil _) h0).trans h2) (Inv.last l nn _ _)
end Go.Proofs.Ytfmofpdbhkoopaa.Ev
namespace Go.Proofs.Ytfmofpdbhkoopaa.Ev
open Go.Proofs
namespace Und
noncomputable def RUN (l : List Int) (ρ keep : List (Nat × Nat)) (s : ES) : YF := runBL [3] 63 .nil [l] (atS 1 94 1) [[(0,none),(1,none),(3,none)],[(3,none)]] [] ρ keep 7 [1] s
theorem en_ok (l : List Int) (nn : Bool) : exEnter ft 63 [.slO 0 1 l.length nn] = some (ent 63 [.slO 0 1 l.length nn]) := by kernel_rfl
theorem in_t (l : List Int) (nn : Bool) : RUN l [(0,0),(1,1),(2,2),(3,3),(4,4),(5,5)] [(1,1),(2,2),(3,3),(4,4),(5,5)] ⟨ent 63 [.slO 0 1 l.length nn], [], .nil, 1⟩ = (bc (decide (Int.ofNat (List.length l) ≤ 65536))
  (.at ⟨[⟨94, 19, [(0, (.yl 5)), (1, (.ptr 3 0)), (3, (.v (.int IntKind.i64 (IntKind.wrap IntKind.i64 (Int.ofNat (List.length l) - 1)))))], [.it (.code (nav [1, 0, 0, 0] (bodyOf Try.f94))), .it (.code (nav [1, 0, 0, 1] (bodyOf Try.f94))), .it (.inLoop (nav [1, 0, 0] (bodyOf Try.f94))), .it (.inBlock 0)], [], none⟩, ⟨63, 19, [(3, (.ptr 2 0))], [(.inRF 5), .it (.inBlock 0), .it (.code (nav [1, 1, 1] (bodyOf Try.f63)))], [(DE.mk 4)], none⟩], [(1, (.seq 3 (.ints IntKind.i64 []) true)), (2, (.cells 22 [(.slO 1 1 0 true)] true)), (3, (.cells 22 [(.slO 0 1 (List.length l) (nn))] true)), (4, (.dfr true)), (5, (.loop LoopState.ready none 63 19 (Tr.node none Tr.nil (Tr.node none Tr.nil (Tr.node (some (.ptr 2 0)) Tr.nil Tr.nil))) (Array.mk [11, 12]) (nav [1, 1, 0, 1, 0, 0] (bodyOf Try.f63)) (nav [1, 1, 0, 1, 0, 1] (bodyOf Try.f63)) 4))], 7⟩)
  .bad) := by kernel_rfl
noncomputable def sL (l : List Int) (nn : Bool) (out : List Int) (i : Int) : NS := ⟨[⟨94, 19, [(0, (.yl 5)), (1, (.ptr 3 0)), (3, (.v (.int IntKind.i64 i)))], [.it (.code (nav [1, 0, 0, 0] (bodyOf Try.f94))), .it (.code (nav [1, 0, 0, 1] (bodyOf Try.f94))), .it (.inLoop (nav [1, 0, 0] (bodyOf Try.f94))), .it (.inBlock 0)], [], none⟩, ⟨63, 19, [(3, (.ptr 2 0))], [(.inRF 5), .it (.inBlock 0), .it (.code (nav [1, 1, 1] (bodyOf Try.f63)))], [(DE.mk 4)], none⟩], [(1, (.seq 3 (.ints IntKind.i64 out) true)), (2, (.cells 22 [(.slO 1 1 out.length true)] true)), (3, (.cells 22 [(.slO 0 1 (l.length) (nn))] true)), (4, (.dfr true)), (5, (.loop LoopState.ready none 63 19 (Tr.node none Tr.nil (Tr.node none Tr.nil (Tr.node (some (.ptr 2 0)) Tr.nil Tr.nil))) (Array.mk [11, 12]) (nav [1, 1, 0, 1, 0, 0] (bodyOf Try.f63)) (nav [1, 1, 0, 1, 0, 1] (bodyOf Try.f63)) 4))], 7⟩
theorem step_t (l : List Int) (nn : Bool) (out : List Int) (i : Int) : RUN l [(0,0),(8,1),(2,2),(3,3),(4,4),(5,5)] [(8,1),(2,2),(3,3),(4,4),(5,5)] (stOf (sL l nn out i)) = (bc (decide (0 ≤ i))
  (bc (bc (decide (0 ≤ i)) (Nat.blt (Int.toNat i) (List.length l)) false)
    (bc (Nat.blt (Nat.add 0 (Nat.mul (Int.toNat i) 1)) (List.length l))
      (bc (bc (Nat.beq (List.length out) (List.length out)) (bc (Nat.ble (List.length out + 1) 65536) true false) false)
        (.at ⟨[⟨94, 19, [(0, (.yl 5)), (1, (.ptr 3 0)), (3, (.v (.int IntKind.i64 (IntKind.wrap IntKind.i64 (i - 1)))))], [.it (.code (nav [1, 0, 0, 0] (bodyOf Try.f94))), .it (.code (nav [1, 0, 0, 1] (bodyOf Try.f94))), .it (.inLoop (nav [1, 0, 0] (bodyOf Try.f94))), .it (.inBlock 0)], [], none⟩, ⟨63, 19, [(3, (.ptr 2 0))], [(.inRF 5), .it (.inBlock 0), .it (.code (nav [1, 1, 1] (bodyOf Try.f63)))], [(DE.mk 4)], none⟩], [(1, (.seq 3 (.ints IntKind.i64 (out ++ [IntKind.wrap IntKind.i64 (0 - List.getD l (Nat.add 0 (Nat.mul (Int.toNat i) 1)) 0)])) true)), (2, (.cells 22 [(.slO 1 1 (List.length out + 1) true)] true)), (3, (.cells 22 [(.slO 0 1 (List.length l) (nn))] true)), (4, (.dfr true)), (5, (.loop LoopState.ready none 63 19 (Tr.node none Tr.nil (Tr.node none Tr.nil (Tr.node (some (.ptr 2 0)) Tr.nil Tr.nil))) (Array.mk [11, 12]) (nav [1, 1, 0, 1, 0, 0] (bodyOf Try.f63)) (nav [1, 1, 0, 1, 0, 1] (bodyOf Try.f63)) 4))], 7⟩)
        .bad)
      .bad)
    .bad)
  (.done (.slO 1 1 (List.length out) true) [(1, (.seq 3 (.ints IntKind.i64 (out)) true))] 7)) := by kernel_rfl
theorem step (l : List Int) (nn : Bool) (out : List Int) (i : Nat) (hi : i < l.length) (hl : l.length ≤ 60000) (ho : out.length ≤ 60000) : LeadsY Try.prog (roL 3 [l]) (stOf (sL l nn out i)) (stOf (sL l nn (out ++ [neg l[i]]) ((i : Int) - 1))) := by
  have h2 : decide ((0 : Int) ≤ (i : Int)) = true := dt (by omega)
  have h3 : Nat.blt i l.length = true := blt_of hi
  have h4 : IntKind.i64.wrap ((i : Int) - 1) = (i : Int) - 1 := wrap_in _ (by omega) (by omega)
  have h11 : Nat.ble (out.length + 1) 65536 = true := ble_of (by omega)
  have h12 : (out ++ [neg l[i]]).length = out.length + 1 := by simp
  have h := step_t l nn out i
  simp only [h2, h3, h4, h11, at_nat, to_nat, bc_t, bc_f, Nat.beq_refl, nn_ok, getD_at hi] at h
  have h14 := leadsB1 (CtsOk.nil _) h
  unfold sL
  rw [h12]
  exact h14
theorem loop (l : List Int) (nn : Bool) (hl : l.length ≤ 60000) : ∀ (i : Nat) (out : List Int), i ≤ l.length → out.length + i ≤ l.length → LeadsY Try.prog (roL 3 [l]) (stOf (sL l nn out ((i : Int) - 1))) (stOf (sL l nn (out ++ ((l.take i).map neg).reverse) (-1)))
  | 0, out, _, _ => by simpa using LeadsY.refl _
  | i + 1, out, hi, ho => by
    have h := loop l nn hl i (out ++ [neg l[i]]) (by omega) (by simp; omega)
    have h1 := step l nn out i (by omega) (by omega) (by omega)
    have e : (((i + 1 : Nat) : Int) - 1) = (i : Int) := by omega
    rw [e]
    refine h1.trans ?_
    have e2 : (out ++ [neg l[i]]) ++ ((l.take i).map neg).reverse = out ++ ((l.take (i + 1)).map neg).reverse := by
      have hlt : i < l.length := by omega
      rw [List.take_succ_eq_append_getElem hlt, List.map_append, List.reverse_append, List.append_assoc]; rfl
    rw [e2] at h
    exact h
theorem last (l : List Int) (nn : Bool) (out : List Int) : RUN l [(0,0),(8,1),(2,2),(3,3),(4,4),(5,5)] [(8,1),(2,2),(3,3),(4,4),(5,5)] (stOf (sL l nn out (-1))) = .done (.slO 1 1 out.length true) [(1, .seq 3 (.ints .i64 out) true)] 7 := by
  have h := step_t l nn out (-1)
  have h1 : decide ((0 : Int) ≤ -1) = false := by decide
  simp only [h1, bc_f] at h
  exact h
end Und
noncomputable def undS : Spec := fun ps => match ps with
  | [.s l _] => some ⟨Nat.ble l.length 60000, .slO 1 1 (inv l).length true, [(1, 3, .ints .i64 (inv l), true)], 7⟩
  | _ => none
theorem undS_inv {ps : List PV} {r : SR} (h : undS ps = some r) : ∃ l nn, ps = [.s l nn] ∧ r = ⟨Nat.ble l.length 60000, .slO 1 1 (inv l).length true, [(1, 3, .ints .i64 (inv l), true)], 7⟩ := by
  unfold undS at h
  split at h
  · injection h with h; exact ⟨_, _, rfl, h.symm⟩
  · cases h
theorem und_calls : CallsS Try.prog 63 3 undS := fun γ w us ps r h hc ha hR hN hlt => by
  obtain ⟨l, nn, rfl, rfl⟩ := undS_inv h
  have hl : l.length ≤ 60000 := Nat.le_of_ble_eq_true hc
  have h0 := Und.in_t l nn
  have h3 : decide (Int.ofNat l.length ≤ 65536) = true := dt (by show (l.length : Int) ≤ 65536; omega)
  rw [show Int.ofNat l.length = (l.length : Int) from rfl, wrap_in _ (by omega) (by omega)] at h0
  rw [show Int.ofNat l.length = (l.length : Int) from rfl] at h3
  rw [h3, bc_t] at h0
  have h2 := Und.loop l nn hl l.length [] (Nat.le_refl _) (by simp)
  rw [List.take_length, List.nil_append] at h2
  exact callsB (CtsOk.nil _) (Und.en_ok l nn) ha hR hN hlt ((leadsB1 (CtsOk.nil _) h0).trans h2) (Und.last l nn _)
end Go.Proofs.Ytfmofpdbhkoopaa.Ev
namespace Go.Proofs.Ytfmofpdbhkoopaa.Ev
open Go.Proofs
/-- a letter that is none -/
noncomputable def badL (n x : Int) : Bool := bc (x == 0) true (bc (decide (x ≤ IntKind.i64.wrap (0 - n))) true (decide (n ≤ x)))
noncomputable def chk (n : Int) (l : List Int) : Int := bc (decide (n < 1)) 2 (bc (decide (12 < n)) 2 (bc (decide (400 < Int.ofNat l.length)) 3 (bc (l.any (badL n)) 7 0)))
theorem chk_len {n : Int} {l : List Int} (h : chk n l = 0) : l.length ≤ 400 := by
  unfold chk at h
  rw [bc_eq] at h
  split at h
  · cases h
  rw [bc_eq] at h
  split at h
  · cases h
  rw [bc_eq] at h
  split at h
  · cases h
  rename_i h1
  have : ¬ (400 : Int) < (l.length : Int) := fun e => h1 (dt e)
  omega
namespace Chk
noncomputable def sL (n : Int) (l : List Int) (nn : Bool) (i : Int) : NS := ⟨[⟨24, 43, [(0, (.v (.int .i64 (n)))), (1, (.slO 0 1 (l.length) (nn))), (5, (.v (.int .i64 i)))], [.it (.code (nav [1, 1, 1, 0, 1, 0, 0, 0] (bodyOf Try.f24))), .it (.code (nav [1, 1, 1, 0, 1, 0, 0, 1] (bodyOf Try.f24))), .it (.inLoop (nav [1, 1, 1, 0, 1, 0, 0] (bodyOf Try.f24))), .it (.inBlock 0), .it (.code (nav [1, 1, 1, 1] (bodyOf Try.f24)))], [], none⟩], [], 1⟩
noncomputable def RUN (l : List Int) (s : ES) : YF := runB 24 .nil [l] (atS 0 24 6) [[(0,none),(1,none),(5,none)]] [] [(0,0)] [] 1 [] s
theorem en_ok (n : Int) (l : List Int) (nn : Bool) : exEnter ft 24 [iv n, .slO 0 1 l.length nn] = some (ent 24 [iv n, .slO 0 1 l.length nn]) := by kernel_rfl
theorem in_t (n : Int) (l : List Int) (nn : Bool) : RUN l ⟨ent 24 [iv n, .slO 0 1 l.length nn], [], .nil, 1⟩ = (bc (decide (n < 1))
  (.done (.v (.int IntKind.i64 (Int.ofNat 2))) [] 1)
  (bc (decide (12 < n))
    (.done (.v (.int IntKind.i64 (Int.ofNat 2))) [] 1)
    (bc (decide (400 < Int.ofNat (List.length l)))
      (.done (.v (.int IntKind.i64 (Int.ofNat 3))) [] 1)
      (.at ⟨[⟨24, 43, [(0, (.v (.int IntKind.i64 (n)))), (1, (.slO 0 1 (List.length l) (nn))), (5, (.v (.int IntKind.i64 (Int.ofNat 0))))], [.it (.code (nav [1, 1, 1, 0, 1, 0, 0, 0] (bodyOf Try.f24))), .it (.code (nav [1, 1, 1, 0, 1, 0, 0, 1] (bodyOf Try.f24))), .it (.inLoop (nav [1, 1, 1, 0, 1, 0, 0] (bodyOf Try.f24))), .it (.inBlock 0), .it (.code (nav [1, 1, 1, 1] (bodyOf Try.f24)))], [], none⟩], [], 1⟩)))) := by kernel_rfl
theorem step_t (n : Int) (l : List Int) (nn : Bool) (i : Int) : RUN l (stOf (sL n l nn i)) = (bc (decide (i < Int.ofNat (List.length l)))
  (bc (bc (decide (0 ≤ i)) (Nat.blt (Int.toNat i) (List.length l)) false)
    (bc (Nat.blt (Nat.add 0 (Nat.mul (Int.toNat i) 1)) (List.length l))
      (bc (List.getD l (Nat.add 0 (Nat.mul (Int.toNat i) 1)) 0 == 0)
        (.done (.v (.int IntKind.i64 (Int.ofNat 7))) [] 1)
        (bc (bc (decide (0 ≤ i)) (Nat.blt (Int.toNat i) (List.length l)) false)
          (bc (Nat.blt (Nat.add 0 (Nat.mul (Int.toNat i) 1)) (List.length l))
            (bc (decide (List.getD l (Nat.add 0 (Nat.mul (Int.toNat i) 1)) 0 ≤ IntKind.wrap IntKind.i64 (0 - n)))
              (.done (.v (.int IntKind.i64 (Int.ofNat 7))) [] 1)
              (bc (bc (decide (0 ≤ i)) (Nat.blt (Int.toNat i) (List.length l)) false)
                (bc (Nat.blt (Nat.add 0 (Nat.mul (Int.toNat i) 1)) (List.length l))
                  (bc (decide (n ≤ List.getD l (Nat.add 0 (Nat.mul (Int.toNat i) 1)) 0))
                    (.done (.v (.int IntKind.i64 (Int.ofNat 7))) [] 1)
                    (.at ⟨[⟨24, 43, [(0, (.v (.int IntKind.i64 (n)))), (1, (.slO 0 1 (List.length l) (nn))), (5, (.v (.int IntKind.i64 (IntKind.wrap IntKind.i64 (i + 1)))))], [.it (.code (nav [1, 1, 1, 0, 1, 0, 0, 0] (bodyOf Try.f24))), .it (.code (nav [1, 1, 1, 0, 1, 0, 0, 1] (bodyOf Try.f24))), .it (.inLoop (nav [1, 1, 1, 0, 1, 0, 0] (bodyOf Try.f24))), .it (.inBlock 0), .it (.code (nav [1, 1, 1, 1] (bodyOf Try.f24)))], [], none⟩], [], 1⟩))
                  .bad)
                .bad))
            .bad)
          .bad))
      .bad)
    .bad)
  (.done (.v (.int IntKind.i64 (Int.ofNat 0))) [] 1)) := by kernel_rfl
theorem step (n : Int) (l : List Int) (nn : Bool) (i : Nat) (hi : i < l.length) (hl : l.length ≤ 400) : RUN l (stOf (sL n l nn i)) = bc (badL n (l.getD i 0)) (.done (iv 7) [] 1) (.at (sL n l nn ((i + 1 : Nat) : Int))) := by
  have h := step_t n l nn i
  have h1 : decide ((i : Int) < Int.ofNat l.length) = true := dt (by show (i : Int) < (l.length : Int); omega)
  have h2 : decide ((0 : Int) ≤ (i : Int)) = true := dt (by omega)
  have h3 : Nat.blt i l.length = true := blt_of hi
  have h4 : IntKind.i64.wrap ((i : Int) + 1) = ((i + 1 : Nat) : Int) := by rw [wrap_in _ (by omega) (by omega)]; rfl
  simp only [at_nat, to_nat, h1, h2, h3, h4, bc_t] at h
  rw [h]
  unfold badL
  cases (l.getD i 0 == 0)
  · simp only [bc_f]
    cases decide (l.getD i 0 ≤ IntKind.i64.wrap (0 - n))
    · simp only [bc_f]
      cases decide (n ≤ l.getD i 0)
      · rfl
      · rfl
    · rfl
  · rfl
theorem last (n : Int) (l : List Int) (nn : Bool) : RUN l (stOf (sL n l nn (l.length : Int))) = .done (iv 0) [] 1 := by
  have h := step_t n l nn (l.length : Int)
  have h1 : decide ((l.length : Int) < Int.ofNat l.length) = false := df (by show ¬ (l.length : Int) < (l.length : Int); omega)
  simp only [h1, bc_f] at h
  exact h
theorem loop (n : Int) (l : List Int) (nn : Bool) (hl : l.length ≤ 400) : ∀ (k i : Nat), i + k = l.length → ∃ j : Int, LeadsY Try.prog (roL 3 [l]) (stOf (sL n l nn i)) (stOf (sL n l nn j)) ∧ RUN l (stOf (sL n l nn j)) = .done (iv (bc ((l.drop i).any (badL n)) 7 0)) [] 1
  | 0, i, h => by
    have : i = l.length := by omega
    subst this
    refine ⟨_, LeadsY.refl _, ?_⟩
    rw [last, List.drop_length]; rfl
  | k + 1, i, h => by
    have hs := step n l nn i (by omega) hl
    have hd : l.drop i = l[i] :: l.drop (i + 1) := List.drop_eq_getElem_cons (by omega)
    rw [getD_at (show i < l.length by omega)] at hs
    cases hb : badL n l[i] with
    | true =>
      rw [hb, bc_t] at hs
      refine ⟨_, LeadsY.refl _, ?_⟩
      rw [hs, hd, List.any_cons, hb]; rfl
    | false =>
      rw [hb, bc_f] at hs
      obtain ⟨j, h1, h2⟩ := loop n l nn hl k (i + 1) (by omega)
      refine ⟨j, (leadsB1 (CtsOk.nil _) hs).trans h1, ?_⟩
      rw [h2, hd, List.any_cons, hb]; rfl
end Chk
noncomputable def chkS : Spec := fun ps => match ps with
  | [.v (.int .i64 n), .s l _] => some ⟨true, iv (chk n l), [], 1⟩
  | _ => none
theorem chkS_inv {ps : List PV} {r : SR} (h : chkS ps = some r) : ∃ n l nn, ps = [.v (.int .i64 n), .s l nn] ∧ r = ⟨true, iv (chk n l), [], 1⟩ := by
  unfold chkS at h
  split at h
  · injection h with h; exact ⟨_, _, _, rfl, h.symm⟩
  · cases h
theorem chk_calls : CallsS Try.prog 24 3 chkS := fun γ w us ps r h hc ha hR hN hlt => by
  obtain ⟨n, l, nn, rfl, rfl⟩ := chkS_inv h
  show Calls Try.prog 24 us w fun e w' => ∃ γ' x, e = .returned x ∧ EC γ' (iv (chk n l)) x ∧ HR γ' (Bs.of w) (mkT []) 1 w'
  have key : ∃ s', LeadsY Try.prog (roL 3 [l]) ⟨ent 24 [iv n, .slO 0 1 l.length nn], [], .nil, 1⟩ s' ∧ Chk.RUN l s' = .done (iv (chk n l)) [] 1 := by
    have h := Chk.in_t n l nn
    unfold chk
    cases h1 : decide (n < 1)
    · cases h2 : decide (12 < n)
      · cases h3 : decide (400 < Int.ofNat l.length)
        · simp only [h1, h2, h3, bc_f] at h
          have hl : l.length ≤ 400 := by
            have : ¬ (400 : Int) < (l.length : Int) := of_decide_eq_false h3
            omega
          obtain ⟨j, q1, q2⟩ := Chk.loop n l nn hl l.length 0 (by omega)
          exact ⟨_, (leadsB1 (CtsOk.nil _) h).trans q1, by rw [q2]; rfl⟩
        · simp only [h1, h2, h3, bc_f, bc_t] at h
          exact ⟨_, LeadsY.refl _, h⟩
      · simp only [h1, h2, bc_f, bc_t] at h
        exact ⟨_, LeadsY.refl _, h⟩
    · simp only [h1, bc_t] at h
      exact ⟨_, LeadsY.refl _, h⟩
  obtain ⟨s', h1, h2⟩ := key
  exact callsB (CtsOk.nil _) (Chk.en_ok n l nn) ha hR hN hlt h1 h2
end Go.Proofs.Ytfmofpdbhkoopaa.Ev
namespace Go.Proofs.Ytfmofpdbhkoopaa.Ev
open Go.Proofs
noncomputable def chk2S : Spec := fun ps => match ps with
  | [.v (.int .i64 n), .s l _] => some ⟨true, iv (chk n l), [], 2⟩
  | _ => none
theorem chk2S_inv {ps : List PV} {r : SR} (h : chk2S ps = some r) : ∃ n l nn, ps = [.v (.int .i64 n), .s l nn] ∧ r = ⟨true, iv (chk n l), [], 2⟩ := by
  unfold chk2S at h
  split at h
  · injection h with h; exact ⟨_, _, _, rfl, h.symm⟩
  · cases h
namespace BChk
noncomputable def RUN (l : List Int) (s : ES) : YF := runB 34 .nil [l] (atS 2 86 2) [[(0,none),(1,none),(6,none),(7,none),(8,none)],[],[]] [] [(0,0),(1,1)] [(1,1)] 2 [] s
theorem en_ok (n : Int) (l : List Int) (nn : Bool) : exEnter ft 34 [iv n, .slO 0 1 l.length nn] = some (ent 34 [iv n, .slO 0 1 l.length nn]) := by kernel_rfl
theorem in_t (n : Int) (l : List Int) (nn : Bool) : RUN l ⟨ent 34 [iv n, .slO 0 1 l.length nn], [], .nil, 1⟩ = (bc (decide (n < 1))
  (.done (.v (.int IntKind.i64 (Int.ofNat 2))) [] 2)
  (bc (decide (12 < n))
    (.done (.v (.int IntKind.i64 (Int.ofNat 2))) [] 2)
    (bc (decide (400 < Int.ofNat (List.length l)))
      (.done (.v (.int IntKind.i64 (Int.ofNat 3))) [] 2)
      (.at ⟨[⟨86, 19, [(0, (.slO 0 1 (List.length l) (nn))), (1, (.fn 65 [(.ptr 1 0)])), (6, (.slO 0 1 (List.length l) (nn))), (7, (.v (.int IntKind.i64 (Int.ofNat (List.length l))))), (8, (.v (.int IntKind.i64 (Int.ofNat 0))))], [.it (.code (nav [1, 0, 1, 0, 0] (bodyOf Try.f86))), .it (.inLoop (nav [1, 0, 1, 0, 0] (bodyOf Try.f86))), .it (.inBlock 0), .it (.code (nav [1, 1] (bodyOf Try.f86)))], [], none⟩, ⟨64, 9, [], [.ops (opsOf (nav [1, 0] (bodyOf Try.f64))) ((opsOf (nav [1, 0] (bodyOf Try.f64))).toList.drop 2), .it (.code (nav [1, 1] (bodyOf Try.f64)))], [], none⟩, ⟨34, 20, [], [.ops (opsOf (nav [1, 0, 0, 1, 1, 1, 1, 0] (bodyOf Try.f34))) ((opsOf (nav [1, 0, 0, 1, 1, 1, 1, 0] (bodyOf Try.f34))).toList.drop 2), .it (.code (nav [1, 0, 0, 1, 1, 1, 1, 1] (bodyOf Try.f34))), .it (.inBlock 0), .it (.code (nav [1, 1] (bodyOf Try.f34)))], [], none⟩], [(1, (.cells 3 [(.v (.int IntKind.i64 (n)))] true))], 2⟩)))) := by kernel_rfl
noncomputable def sL (n : Int) (l : List Int) (nn : Bool) (i : Int) : NS := ⟨[⟨86, 19, [(0, (.slO 0 1 (l.length) (nn))), (1, (.fn 65 [(.ptr 1 0)])), (6, (.slO 0 1 (l.length) (nn))), (7, (.v (.int IntKind.i64 (Int.ofNat l.length)))), (8, (.v (.int IntKind.i64 i)))], [.it (.code (nav [1, 0, 1, 0, 0] (bodyOf Try.f86))), .it (.inLoop (nav [1, 0, 1, 0, 0] (bodyOf Try.f86))), .it (.inBlock 0), .it (.code (nav [1, 1] (bodyOf Try.f86)))], [], none⟩, ⟨64, 9, [], [.ops (opsOf (nav [1, 0] (bodyOf Try.f64))) ((opsOf (nav [1, 0] (bodyOf Try.f64))).toList.drop 2), .it (.code (nav [1, 1] (bodyOf Try.f64)))], [], none⟩, ⟨34, 20, [], [.ops (opsOf (nav [1, 0, 0, 1, 1, 1, 1, 0] (bodyOf Try.f34))) ((opsOf (nav [1, 0, 0, 1, 1, 1, 1, 0] (bodyOf Try.f34))).toList.drop 2), .it (.code (nav [1, 0, 0, 1, 1, 1, 1, 1] (bodyOf Try.f34))), .it (.inBlock 0), .it (.code (nav [1, 1] (bodyOf Try.f34)))], [], none⟩], [(1, (.cells 3 [(.v (.int IntKind.i64 (n)))] true))], 2⟩
theorem step_t (n : Int) (l : List Int) (nn : Bool) (i : Int) : RUN l (stOf (sL n l nn i)) = (bc (decide (i < Int.ofNat (List.length l)))
  (bc (bc (decide (0 ≤ i)) (Nat.blt (Int.toNat i) (List.length l)) false)
    (bc (Nat.blt (Nat.add 0 (Nat.mul (Int.toNat i) 1)) (List.length l))
      (bc (List.getD l (Nat.add 0 (Nat.mul (Int.toNat i) 1)) 0 == 0)
        (bc (decide (0 ≤ i))
          (.done (.v (.int IntKind.i64 (Int.ofNat 7))) [] 2)
          (.done (.v (.int IntKind.i64 (Int.ofNat 0))) [] 2))
        (bc (decide (List.getD l (Nat.add 0 (Nat.mul (Int.toNat i) 1)) 0 ≤ IntKind.wrap IntKind.i64 (0 - n)))
          (bc (decide (0 ≤ i))
            (.done (.v (.int IntKind.i64 (Int.ofNat 7))) [] 2)
            (.done (.v (.int IntKind.i64 (Int.ofNat 0))) [] 2))
          (bc (decide (n ≤ List.getD l (Nat.add 0 (Nat.mul (Int.toNat i) 1)) 0))
            (bc (decide (0 ≤ i))
              (.done (.v (.int IntKind.i64 (Int.ofNat 7))) [] 2)
              (.done (.v (.int IntKind.i64 (Int.ofNat 0))) [] 2))
            (.at ⟨[⟨86, 19, [(0, (.slO 0 1 (List.length l) (nn))), (1, (.fn 65 [(.ptr 1 0)])), (6, (.slO 0 1 (List.length l) (nn))), (7, (.v (.int IntKind.i64 (Int.ofNat (List.length l))))), (8, (.v (.int IntKind.i64 (IntKind.wrap IntKind.i64 (i + 1)))))], [.it (.code (nav [1, 0, 1, 0, 0] (bodyOf Try.f86))), .it (.inLoop (nav [1, 0, 1, 0, 0] (bodyOf Try.f86))), .it (.inBlock 0), .it (.code (nav [1, 1] (bodyOf Try.f86)))], [], none⟩, ⟨64, 9, [], [.ops (opsOf (nav [1, 0] (bodyOf Try.f64))) ((opsOf (nav [1, 0] (bodyOf Try.f64))).toList.drop 2), .it (.code (nav [1, 1] (bodyOf Try.f64)))], [], none⟩, ⟨34, 20, [], [.ops (opsOf (nav [1, 0, 0, 1, 1, 1, 1, 0] (bodyOf Try.f34))) ((opsOf (nav [1, 0, 0, 1, 1, 1, 1, 0] (bodyOf Try.f34))).toList.drop 2), .it (.code (nav [1, 0, 0, 1, 1, 1, 1, 1] (bodyOf Try.f34))), .it (.inBlock 0), .it (.code (nav [1, 1] (bodyOf Try.f34)))], [], none⟩], [(1, (.cells 3 [(.v (.int IntKind.i64 (n)))] true))], 2⟩))))
      .bad)
    .bad)
  (.done (.v (.int IntKind.i64 (Int.ofNat 0))) [] 2)) := by kernel_rfl
theorem step (n : Int) (l : List Int) (nn : Bool) (i : Nat) (hi : i < l.length) (hl : l.length ≤ 400) : RUN l (stOf (sL n l nn i)) = bc (badL n l[i]) (.done (iv 7) [] 2) (.at (sL n l nn ((i + 1 : Nat) : Int))) := by
  have h := step_t n l nn i
  have h1 : decide ((i : Int) < Int.ofNat l.length) = true := dt (by show (i : Int) < (l.length : Int); omega)
  have h2 : decide ((0 : Int) ≤ (i : Int)) = true := dt (by omega)
  have h3 : Nat.blt i l.length = true := blt_of hi
  have h4 : IntKind.i64.wrap ((i : Int) + 1) = ((i + 1 : Nat) : Int) := by rw [wrap_in _ (by omega) (by omega)]; rfl
  simp only [at_nat, to_nat, h1, h2, h3, h4, bc_t, getD_at hi] at h
  rw [h]
  unfold badL
  cases (l[i] == 0)
  · simp only [bc_f]
    cases decide (l[i] ≤ IntKind.i64.wrap (0 - n))
    · simp only [bc_f]
      cases decide (n ≤ l[i])
      · rfl
      · rfl
    · rfl
  · rfl
theorem last (n : Int) (l : List Int) (nn : Bool) : RUN l (stOf (sL n l nn (l.length : Int))) = .done (iv 0) [] 2 := by
  have h := step_t n l nn (l.length : Int)
  have h1 : decide ((l.length : Int) < Int.ofNat l.length) = false := df (by show ¬ (l.length : Int) < (l.length : Int); omega)
  simp only [h1, bc_f] at h
  exact h
theorem loop (n : Int) (l : List Int) (nn : Bool) (hl : l.length ≤ 400) : ∀ (k i : Nat), i + k = l.length → ∃ j : Int, LeadsY Try.prog (roL 3 [l]) (stOf (sL n l nn i)) (stOf (sL n l nn j)) ∧ RUN l (stOf (sL n l nn j)) = .done (iv (bc ((l.drop i).any (badL n)) 7 0)) [] 2
  | 0, i, h => by
    have : i = l.length := by omega
    subst this
    refine ⟨_, LeadsY.refl _, ?_⟩
    rw [last, List.drop_length]; rfl
  | k + 1, i, h => by
    have hs := step n l nn i (by omega) hl
    have hd : l.drop i = l[i] :: l.drop (i + 1) := List.drop_eq_getElem_cons (by omega)
    cases hb : badL n l[i] with
    | true =>
      rw [hb, bc_t] at hs
      refine ⟨_, LeadsY.refl _, ?_⟩
      rw [hs, hd, List.any_cons, hb]; rfl
    | false =>
      rw [hb, bc_f] at hs
      obtain ⟨j, h1, h2⟩ := loop n l nn hl k (i + 1) (by omega)
      refine ⟨j, (leadsB1 (CtsOk.nil _) hs).trans h1, ?_⟩
      rw [h2, hd, List.any_cons, hb]; rfl
end BChk
theorem bchk_calls : CallsS Try.prog 34 3 chk2S := fun γ w us ps r h hc ha hR hN hlt => by
  obtain ⟨n, l, nn, rfl, rfl⟩ := chk2S_inv h
  show Calls Try.prog 34 us w fun e w' => ∃ γ' x, e = .returned x ∧ EC γ' (iv (chk n l)) x ∧ HR γ' (Bs.of w) (mkT []) 2 w'
  have key : ∃ s', LeadsY Try.prog (roL 3 [l]) ⟨ent 34 [iv n, .slO 0 1 l.length nn], [], .nil, 1⟩ s' ∧ BChk.RUN l s' = .done (iv (chk n l)) [] 2 := by
    have h := BChk.in_t n l nn
    unfold chk
    cases h1 : decide (n < 1)
    · cases h2 : decide (12 < n)
      · cases h3 : decide (400 < Int.ofNat l.length)
        · simp only [h1, h2, h3, bc_f] at h
          have hl : l.length ≤ 400 := by
            have : ¬ (400 : Int) < (l.length : Int) := of_decide_eq_false h3
            omega
          obtain ⟨j, q1, q2⟩ := BChk.loop n l nn hl l.length 0 (by omega)
          exact ⟨_, (leadsB1 (CtsOk.nil _) h).trans q1, by rw [q2]; rfl⟩
        · simp only [h1, h2, h3, bc_f, bc_t] at h
          exact ⟨_, LeadsY.refl _, h⟩
      · simp only [h1, h2, bc_f, bc_t] at h
        exact ⟨_, LeadsY.refl _, h⟩
    · simp only [h1, bc_t] at h
      exact ⟨_, LeadsY.refl _, h⟩
  obtain ⟨s', h1, h2⟩ := key
  exact callsB (CtsOk.nil _) (BChk.en_ok n l nn) ha hR hN hlt h1 h2
end Go.Proofs.Ytfmofpdbhkoopaa.Ev
namespace Go.Proofs.Ytfmofpdbhkoopaa.Ev
open Go.Proofs
noncomputable def ctB : Tr YCT := (Tr.put .nil 34 (some (ctOfS 3 chk2S))).put 63 (some (ctOfS 3 undS))
noncomputable def ctR : Tr YCT := (Tr.put .nil 24 (some (ctOfS 3 chkS))).put 50 (some (ctOfS 3 invS))
theorem ctBOk : CtsOk Try.prog ctB := ((CtsOk.nil _).add rfl (yct_of bchk_calls)).add rfl (yct_of und_calls)
theorem ctROk : CtsOk Try.prog ctR := ((CtsOk.nil _).add rfl (yct_of chk_calls)).add rfl (yct_of inv_calls)
namespace BInv
noncomputable def RUN (f : FuncId) (ct : Tr YCT) (l : List Int) (o : Nat) (s : ES) : YF := runB f ct [l] (fun _ => false) [] [] [] [] 1 [o] s
theorem en_ok (n : Int) (l : List Int) (nn : Bool) : exEnter ft 32 [iv n, .slO 0 1 l.length nn] = some (ent 32 [iv n, .slO 0 1 l.length nn]) := by kernel_rfl
theorem en2_ok (n : Int) (l : List Int) (nn : Bool) : exEnter ft 33 [iv n, .slO 0 1 l.length nn] = some (ent 33 [iv n, .slO 0 1 l.length nn]) := by kernel_rfl
theorem b_t (n : Int) (l : List Int) (nn : Bool) : RUN 32 ctB l 4 ⟨ent 32 [iv n, .slO 0 1 l.length nn], [], .nil, 1⟩ = (bc (bc (bc (Nat.beq (List.length l) (List.length l)) true false) true false)
  (bc (chk n l != 0)
    (.done (.tup [(.v (.slice none 0 0)), (.v (.int IntKind.i64 (chk n l)))]) [] 3)
    (bc (bc (bc (Nat.beq (List.length l) (List.length l)) true false) (Nat.ble (List.length l) 60000) false)
      (.done (.tup [(.slO 4 1 (List.length (inv l)) true), (.v (.int IntKind.i64 (Int.ofNat 0)))]) [(4, (.seq 3 (.ints IntKind.i64 (inv l)) true))] 10)
      .bad))
  .bad) := by kernel_rfl
theorem r_t (n : Int) (l : List Int) (nn : Bool) : RUN 33 ctR l 3 ⟨ent 33 [iv n, .slO 0 1 l.length nn], [], .nil, 1⟩ = (bc (bc (bc (Nat.beq (List.length l) (List.length l)) true false) true false)
  (bc (chk n l != 0)
    (.done (.tup [(.v (.slice none 0 0)), (.v (.int IntKind.i64 (chk n l)))]) [] 2)
    (bc (bc (bc (Nat.beq (List.length l) (List.length l)) true false) (Nat.ble (List.length l) 60000) false)
      (.done (.tup [(.slO 3 1 (List.length (inv l)) (Nat.blt 0 (List.length l))), (.v (.int IntKind.i64 (Int.ofNat 0)))]) [(3, (.seq 3 (.ints IntKind.i64 (inv l)) (Nat.blt 0 (List.length l))))] 4)
      .bad))
  .bad) := by kernel_rfl
end BInv
theorem ne_f {x : Int} (h : (x != 0) = false) : x = 0 := by simpa using h
noncomputable def invR (n : Int) (l : List Int) : List Int := bc (chk n l != 0) [] (inv l)
noncomputable def bInvR (n : Int) (l : List Int) : SR := ⟨true, .tup [.slO 4 1 (invR n l).length (bc (chk n l != 0) false true), iv (chk n l)], [(4, 3, .ints .i64 (invR n l), bc (chk n l != 0) false true)], 10⟩
noncomputable def rInvR (n : Int) (l : List Int) : SR := ⟨true, .tup [.slO 3 1 (invR n l).length (bc (chk n l != 0) false (Nat.blt 0 l.length)), iv (chk n l)], [(3, 3, .ints .i64 (invR n l), bc (chk n l != 0) false (Nat.blt 0 l.length))], 4⟩
noncomputable def bInvS : Spec := fun ps => match ps with
  | [.v (.int .i64 n), .s l _] => some (bInvR n l)
  | _ => none
noncomputable def rInvS : Spec := fun ps => match ps with
  | [.v (.int .i64 n), .s l _] => some (rInvR n l)
  | _ => none
theorem bInvS_inv {ps : List PV} {r : SR} (h : bInvS ps = some r) : ∃ n l nn, ps = [.v (.int .i64 n), .s l nn] ∧ r = bInvR n l := by
  unfold bInvS at h
  split at h
  · injection h with h; exact ⟨_, _, _, rfl, h.symm⟩
  · cases h
theorem rInvS_inv {ps : List PV} {r : SR} (h : rInvS ps = some r) : ∃ n l nn, ps = [.v (.int .i64 n), .s l nn] ∧ r = rInvR n l := by
  unfold rInvS at h
  split at h
  · injection h with h; exact ⟨_, _, _, rfl, h.symm⟩
  · cases h
theorem bInv_calls : CallsS Try.prog 32 3 bInvS := fun γ w us ps r h hc ha hR hN hlt => by
  obtain ⟨n, l, nn, rfl, rfl⟩ := bInvS_inv h
  have h := BInv.b_t n l nn
  simp only [Nat.beq_refl, bc_t] at h
  unfold bInvR invR
  cases hb : (chk n l != 0) with
  | true =>
    rw [hb, bc_t] at h
    refine (callsB ctBOk (BInv.en_ok n l nn) ha hR hN hlt (LeadsY.refl _) h).mono ?_
    rintro e w' ⟨γ', x, p1, p2, p3⟩
    exact ⟨γ', x, p1, p2.tupNil, p3.seqNil rfl (Nat.le_of_ble_eq_true rfl)⟩
  | false =>
    have h0 := ne_f hb
    have h1 : Nat.ble l.length 60000 = true := ble_of (by have := chk_len h0; omega)
    rw [hb, bc_f, h1, bc_t] at h
    rw [h0]
    exact callsB ctBOk (BInv.en_ok n l nn) ha hR hN hlt (LeadsY.refl _) h
theorem rInv_calls : CallsS Try.prog 33 3 rInvS := fun γ w us ps r h hc ha hR hN hlt => by
  obtain ⟨n, l, nn, rfl, rfl⟩ := rInvS_inv h
  have h := BInv.r_t n l nn
  simp only [Nat.beq_refl, bc_t] at h
  unfold rInvR invR
  cases hb : (chk n l != 0) with
  | true =>
    rw [hb, bc_t] at h
    refine (callsB ctROk (BInv.en2_ok n l nn) ha hR hN hlt (LeadsY.refl _) h).mono ?_
    rintro e w' ⟨γ', x, p1, p2, p3⟩
    exact ⟨γ', x, p1, p2.tupNil, p3.seqNil rfl (Nat.le_of_ble_eq_true rfl)⟩
  | false =>
    have h0 := ne_f hb
    have h1 : Nat.ble l.length 60000 = true := ble_of (by have := chk_len h0; omega)
    rw [hb, bc_f, h1, bc_t] at h
    rw [h0]
    exact callsB ctROk (BInv.en2_ok n l nn) ha hR hN hlt (LeadsY.refl _) h
end Go.Proofs.Ytfmofpdbhkoopaa.Ev
namespace Go.Proofs.Ytfmofpdbhkoopaa.Ev
open Go.Proofs
noncomputable def ctB2 : Tr YCT := Tr.put .nil 34 (some (ctOfS 3 chk2S))
noncomputable def ctR2 : Tr YCT := (Tr.put .nil 24 (some (ctOfS 3 chkS))).put 67 (some (ctOfS 3 redS))
theorem ctB2Ok : CtsOk Try.prog ctB2 := (CtsOk.nil _).add rfl (yct_of bchk_calls)
theorem ctR2Ok : CtsOk Try.prog ctR2 := ((CtsOk.nil _).add rfl (yct_of chk_calls)).add rfl (yct_of red_calls)
namespace BRed
noncomputable def RUN2 (l : List Int) (o : Nat) (s : ES) : YF := runB 38 ctR2 [l] (fun _ => false) [] [] [] [] 1 [o] s
noncomputable def RUN (l : List Int) (nils : List (Nat × TypeId × SyC)) (ρ keep : List (Nat × Nat)) (s : ES) : YF := runB 37 ctB2 [l] (atS 0 37 6) [[(7, some (1, 1)), (17, none), (18, none), (19, none)]] nils ρ keep 2 [1] s
theorem en_ok (n : Int) (l : List Int) (nn : Bool) : exEnter ft 37 [iv n, .slO 0 1 l.length nn] = some (ent 37 [iv n, .slO 0 1 l.length nn]) := by kernel_rfl
theorem en2_ok (n : Int) (l : List Int) (nn : Bool) : exEnter ft 38 [iv n, .slO 0 1 l.length nn] = some (ent 38 [iv n, .slO 0 1 l.length nn]) := by kernel_rfl
theorem r_t (n : Int) (l : List Int) (nn : Bool) : RUN2 l 3 ⟨ent 38 [iv n, .slO 0 1 l.length nn], [], .nil, 1⟩ = (bc (bc (bc (Nat.beq (List.length l) (List.length l)) true false) true false)
  (bc (chk n l != 0)
    (.done (.tup [(.v (.slice none 0 0)), (.v (.int IntKind.i64 (chk n l)))]) [] 2)
    (bc (bc (bc (Nat.beq (List.length l) (List.length l)) true false) (Nat.ble (List.length l) 60000) false)
      (.done (.tup [(.slO 3 1 (List.length (red l)) (Nat.blt 0 (List.length l))), (.v (.int IntKind.i64 (Int.ofNat 0)))]) [(3, (.seq 3 (.ints IntKind.i64 (red l)) (Nat.blt 0 (List.length l))))] 4)
      .bad))
  .bad) := by kernel_rfl
theorem in_t (n : Int) (l : List Int) (nn : Bool) : RUN l [(1, 3, .ints .i64 [])] [(0, 0)] [] ⟨ent 37 [iv n, .slO 0 1 l.length nn], [], .nil, 1⟩ = (bc (bc (bc (Nat.beq (List.length l) (List.length l)) true false) true false)
  (bc (chk n l != 0)
    (.done (.tup [(.v (.slice none 0 0)), (.v (.int IntKind.i64 (chk n l)))]) [] 3)
    (.at ⟨[⟨37, 46, [(7, (.slO 1 1 0 false)), (17, (.slO 0 1 (List.length l) (nn))), (18, (.v (.int IntKind.i64 (Int.ofNat (List.length l))))), (19, (.v (.int IntKind.i64 (Int.ofNat 0))))], [.it (.code (nav [1, 1, 1, 0, 1, 0, 0] (bodyOf Try.f37))), .it (.inLoop (nav [1, 1, 1, 0, 1, 0, 0] (bodyOf Try.f37))), .it (.inBlock 0), .it (.code (nav [1, 1, 1, 1] (bodyOf Try.f37)))], [], none⟩], [(1, (.seq 3 (.ints IntKind.i64 []) false))], 2⟩))
  .bad) := by kernel_rfl
noncomputable def sL (l : List Int) (nn : Bool) (out : List Int) (nno : Bool) (i : Int) : NS := ⟨[⟨37, 46, [(7, (.slO 1 1 out.length nno)), (17, (.slO 0 1 (l.length) (nn))), (18, (.v (.int IntKind.i64 (Int.ofNat l.length)))), (19, (.v (.int IntKind.i64 i)))], [.it (.code (nav [1, 1, 1, 0, 1, 0, 0] (bodyOf Try.f37))), .it (.inLoop (nav [1, 1, 1, 0, 1, 0, 0] (bodyOf Try.f37))), .it (.inBlock 0), .it (.code (nav [1, 1, 1, 1] (bodyOf Try.f37)))], [], none⟩], [(1, (.seq 3 (.ints IntKind.i64 out) nno))], 2⟩
theorem cut_t (l : List Int) (nn : Bool) (out : List Int) (nno : Bool) (i : Int) : RUN l [] [(0, 0), (1, 1)] [(1, 1)] (stOf (sL l nn out nno i)) = (bc (decide (i < Int.ofNat (List.length l)))
  (bc (bc (decide (0 ≤ i)) (Nat.blt (Int.toNat i) (List.length l)) false)
    (bc (Nat.blt (Nat.add 0 (Nat.mul (Int.toNat i) 1)) (List.length l))
      (bc (decide (0 ≤ IntKind.wrap IntKind.i64 (Int.ofNat (List.length out) - 1)))
        (bc (bc (decide (0 ≤ IntKind.wrap IntKind.i64 (Int.ofNat (List.length out) - 1))) (Nat.blt (Int.toNat (IntKind.wrap IntKind.i64 (Int.ofNat (List.length out) - 1))) (List.length out)) false)
          (bc (Nat.blt (Nat.add 0 (Nat.mul (Int.toNat (IntKind.wrap IntKind.i64 (Int.ofNat (List.length out) - 1))) 1)) (List.length out))
            (bc (List.getD out (Nat.add 0 (Nat.mul (Int.toNat (IntKind.wrap IntKind.i64 (Int.ofNat (List.length out) - 1))) 1)) 0 == IntKind.wrap IntKind.i64 (0 - List.getD l (Nat.add 0 (Nat.mul (Int.toNat i) 1)) 0))
              (bc (bc (decide (0 ≤ IntKind.wrap IntKind.i64 (Int.ofNat (List.length out) - 1))) (bc (Nat.ble (Int.toNat (IntKind.wrap IntKind.i64 (Int.ofNat (List.length out) - 1))) (List.length out)) (Nat.beq (List.length out) (List.length out)) false) false)
                (.at ⟨[⟨37, 46, [(7, (.slO 1 1 (Int.toNat (IntKind.wrap IntKind.i64 (Int.ofNat (List.length out) - 1))) (nno))), (17, (.slO 0 1 (List.length l) (nn))), (18, (.v (.int IntKind.i64 (Int.ofNat (List.length l))))), (19, (.v (.int IntKind.i64 (IntKind.wrap IntKind.i64 (i + 1)))))], [.it (.code (nav [1, 1, 1, 0, 1, 0, 0] (bodyOf Try.f37))), .it (.inLoop (nav [1, 1, 1, 0, 1, 0, 0] (bodyOf Try.f37))), .it (.inBlock 0), .it (.code (nav [1, 1, 1, 1] (bodyOf Try.f37)))], [], none⟩], [(1, (.seq 3 (.ints IntKind.i64 (List.take (Int.toNat (IntKind.wrap IntKind.i64 (Int.ofNat (List.length out) - 1))) out)) (nno)))], 2⟩)
                .bad)
              (bc (bc (Nat.beq (List.length out) (List.length out)) (bc (Nat.ble (List.length out + 1) 65536) (bc (nno) true (bc (nno) false true)) false) false)
                .bad
                .bad))
            .bad)
          .bad)
        (bc (bc (Nat.beq (List.length out) (List.length out)) (bc (Nat.ble (List.length out + 1) 65536) (bc (nno) true (bc (nno) false true)) false) false)
          .bad
          .bad))
      .bad)
    .bad)
  (.done (.tup [(.slO 1 1 (List.length out) (nno)), (.v (.int IntKind.i64 (Int.ofNat 0)))]) [(1, (.seq 3 (.ints IntKind.i64 (out)) (nno)))] 2)) := by kernel_rfl
theorem app_t (l : List Int) (nn : Bool) (out : List Int) (nno : Bool) (i : Int) : RUN l [] [(0, 0), (3, 1)] [(3, 1)] (stOf (sL l nn out nno i)) = (bc (decide (i < Int.ofNat (List.length l)))
  (bc (bc (decide (0 ≤ i)) (Nat.blt (Int.toNat i) (List.length l)) false)
    (bc (Nat.blt (Nat.add 0 (Nat.mul (Int.toNat i) 1)) (List.length l))
      (bc (decide (0 ≤ IntKind.wrap IntKind.i64 (Int.ofNat (List.length out) - 1)))
        (bc (bc (decide (0 ≤ IntKind.wrap IntKind.i64 (Int.ofNat (List.length out) - 1))) (Nat.blt (Int.toNat (IntKind.wrap IntKind.i64 (Int.ofNat (List.length out) - 1))) (List.length out)) false)
          (bc (Nat.blt (Nat.add 0 (Nat.mul (Int.toNat (IntKind.wrap IntKind.i64 (Int.ofNat (List.length out) - 1))) 1)) (List.length out))
            (bc (List.getD out (Nat.add 0 (Nat.mul (Int.toNat (IntKind.wrap IntKind.i64 (Int.ofNat (List.length out) - 1))) 1)) 0 == IntKind.wrap IntKind.i64 (0 - List.getD l (Nat.add 0 (Nat.mul (Int.toNat i) 1)) 0))
              (bc (bc (decide (0 ≤ IntKind.wrap IntKind.i64 (Int.ofNat (List.length out) - 1))) (bc (Nat.ble (Int.toNat (IntKind.wrap IntKind.i64 (Int.ofNat (List.length out) - 1))) (List.length out)) (Nat.beq (List.length out) (List.length out)) false) false)
                .bad
                .bad)
              (bc (bc (Nat.beq (List.length out) (List.length out)) (bc (Nat.ble (List.length out + 1) 65536) (bc (nno) true (bc (nno) false true)) false) false)
                (.at ⟨[⟨37, 46, [(7, (.slO 1 1 (List.length out + 1) true)), (17, (.slO 0 1 (List.length l) (nn))), (18, (.v (.int IntKind.i64 (Int.ofNat (List.length l))))), (19, (.v (.int IntKind.i64 (IntKind.wrap IntKind.i64 (i + 1)))))], [.it (.code (nav [1, 1, 1, 0, 1, 0, 0] (bodyOf Try.f37))), .it (.inLoop (nav [1, 1, 1, 0, 1, 0, 0] (bodyOf Try.f37))), .it (.inBlock 0), .it (.code (nav [1, 1, 1, 1] (bodyOf Try.f37)))], [], none⟩], [(1, (.seq 3 (.ints IntKind.i64 (out ++ [List.getD l (Nat.add 0 (Nat.mul (Int.toNat i) 1)) 0])) true))], 2⟩)
                .bad))
            .bad)
          .bad)
        (bc (bc (Nat.beq (List.length out) (List.length out)) (bc (Nat.ble (List.length out + 1) 65536) (bc (nno) true (bc (nno) false true)) false) false)
          (.at ⟨[⟨37, 46, [(7, (.slO 1 1 (List.length out + 1) true)), (17, (.slO 0 1 (List.length l) (nn))), (18, (.v (.int IntKind.i64 (Int.ofNat (List.length l))))), (19, (.v (.int IntKind.i64 (IntKind.wrap IntKind.i64 (i + 1)))))], [.it (.code (nav [1, 1, 1, 0, 1, 0, 0] (bodyOf Try.f37))), .it (.inLoop (nav [1, 1, 1, 0, 1, 0, 0] (bodyOf Try.f37))), .it (.inBlock 0), .it (.code (nav [1, 1, 1, 1] (bodyOf Try.f37)))], [], none⟩], [(1, (.seq 3 (.ints IntKind.i64 (out ++ [List.getD l (Nat.add 0 (Nat.mul (Int.toNat i) 1)) 0])) true))], 2⟩)
          .bad))
      .bad)
    .bad)
  (.done (.tup [(.slO 1 1 (List.length out) (nno)), (.v (.int IntKind.i64 (Int.ofNat 0)))]) [(1, (.seq 3 (.ints IntKind.i64 (out)) (nno)))] 2)) := by kernel_rfl
theorem step (l : List Int) (nn : Bool) (out : List Int) (nno : Bool) (i : Nat) (hi : i < l.length) (hl : l.length ≤ 60000) (ho : out.length ≤ 60000) : ∃ b, (nno = true ∨ out = [] → b = true) ∧ LeadsY Try.prog (roL 3 [l]) (stOf (sL l nn out nno i)) (stOf (sL l nn (redStep out l[i]) b ((i + 1 : Nat) : Int))) := by
  have h1 : decide ((i : Int) < Int.ofNat l.length) = true := dt (by show (i : Int) < (l.length : Int); omega)
  have h2 : decide ((0 : Int) ≤ (i : Int)) = true := dt (by omega)
  have h3 : Nat.blt i l.length = true := blt_of hi
  have h4 : IntKind.i64.wrap ((i : Int) + 1) = ((i + 1 : Nat) : Int) := by rw [wrap_in _ (by omega) (by omega)]; rfl
  have h11 : Nat.ble (out.length + 1) 65536 = true := ble_of (by omega)
  have h12 : (out ++ [l[i]]).length = out.length + 1 := by simp
  by_cases hz : 0 < out.length
  · have h6 : IntKind.i64.wrap (Int.ofNat out.length - 1) = ((out.length - 1 : Nat) : Int) := by
      rw [wrap_in _ (by show (-4611686018427387904 : Int) ≤ (out.length : Int) - 1; omega) (by show (out.length : Int) - 1 < 4611686018427387904; omega)]
      show (out.length : Int) - 1 = _
      omega
    have h7 : decide ((0 : Int) ≤ ((out.length - 1 : Nat) : Int)) = true := dt (by omega)
    have h8 : Nat.blt (out.length - 1) out.length = true := blt_of (by omega)
    have h9 : Nat.ble (out.length - 1) out.length = true := ble_of (by omega)
    have hd : decide (0 < out.length) = true := dt hz
    cases hb : (out.getD (out.length - 1) 0 == neg l[i]) with
    | true =>
      have h := cut_t l nn out nno i
      unfold neg at hb
      simp only [h1, h2, h3, h4, h6, h7, h8, h9, at_nat, to_nat, bc_t, bc_f, Nat.beq_refl, getD_at hi, hb] at h
      refine ⟨nno, fun q => q.elim id fun q => by rw [q] at hz; simp at hz, ?_⟩
      have e : redStep out l[i] = out.take (out.length - 1) := by unfold redStep; rw [hd, bc_t]; unfold neg; rw [hb, bc_t]
      rw [e]
      have h13 : (out.take (out.length - 1)).length = out.length - 1 := by rw [List.length_take]; omega
      have h14 := leadsB1 ctB2Ok h
      unfold sL
      rw [h13]
      exact h14
    | false =>
      have h := app_t l nn out nno i
      unfold neg at hb
      simp only [h1, h2, h3, h4, h6, h7, h8, h9, h11, at_nat, to_nat, bc_t, bc_f, Nat.beq_refl, nn_ok, getD_at hi, hb] at h
      refine ⟨true, fun _ => rfl, ?_⟩
      have e : redStep out l[i] = out ++ [l[i]] := by unfold redStep; rw [hd, bc_t]; unfold neg; rw [hb, bc_f]
      rw [e]
      have h14 := leadsB1 ctB2Ok h
      unfold sL
      rw [h12]
      exact h14
  · have h6 : IntKind.i64.wrap (Int.ofNat out.length - 1) = (out.length : Int) - 1 := wrap_in _ (by show (-4611686018427387904 : Int) ≤ (out.length : Int) - 1; omega) (by show (out.length : Int) - 1 < 4611686018427387904; omega)
    have h5 : decide ((0 : Int) ≤ (out.length : Int) - 1) = false := df (by omega)
    have hd : decide (0 < out.length) = false := df hz
    have h := app_t l nn out nno i
    simp only [h1, h2, h3, h4, h6, h5, h11, at_nat, to_nat, bc_t, bc_f, Nat.beq_refl, nn_ok, getD_at hi] at h
    refine ⟨true, fun _ => rfl, ?_⟩
    have e : redStep out l[i] = out ++ [l[i]] := by unfold redStep; rw [hd, bc_f]
    rw [e]
    have h14 := leadsB1 ctB2Ok h
    unfold sL
    rw [h12]
    exact h14
theorem loop (l : List Int) (nn : Bool) (hl : l.length ≤ 60000) : ∀ (k i : Nat) (out : List Int) (nno : Bool), i + k = l.length → out.length ≤ i → (nno = true ∨ out = []) → ∃ b, (0 < k ∧ b = true ∨ k = 0 ∧ b = nno) ∧ LeadsY Try.prog (roL 3 [l]) (stOf (sL l nn out nno i)) (stOf (sL l nn ((l.drop i).foldl redStep out) b (l.length : Int)))
  | 0, i, out, nno, h, _, _ => by
    have : i = l.length := by omega
    subst this
    rw [List.drop_length]
    exact ⟨nno, .inr ⟨rfl, rfl⟩, LeadsY.refl _⟩
  | k + 1, i, out, nno, h, ho, hn => by
    obtain ⟨b, h0, h1⟩ := step l nn out nno i (by omega) hl (by omega)
    have hb := h0 hn
    subst hb
    have h2 := redStep_len out l[i]
    obtain ⟨b2, h4, h3⟩ := loop l nn hl k (i + 1) (redStep out l[i]) true (by omega) (by omega) (.inl rfl)
    have hd : l.drop i = l[i] :: l.drop (i + 1) := List.drop_eq_getElem_cons (by omega)
    rw [hd, List.foldl_cons]
    exact ⟨b2, .inl ⟨by omega, h4.elim (fun q => q.2) fun q => q.2⟩, h1.trans h3⟩
theorem last (l : List Int) (nn : Bool) (out : List Int) (nno : Bool) : RUN l [] [(0, 0), (1, 1)] [(1, 1)] (stOf (sL l nn out nno (l.length : Int))) = .done (.tup [.slO 1 1 out.length nno, iv 0]) [(1, .seq 3 (.ints .i64 out) nno)] 2 := by
  have h := cut_t l nn out nno (l.length : Int)
  have h1 : decide ((l.length : Int) < Int.ofNat l.length) = false := df (by show ¬ (l.length : Int) < (l.length : Int); omega)
  simp only [h1, bc_f] at h
  exact h
end BRed
noncomputable def redR (n : Int) (l : List Int) : List Int := bc (chk n l != 0) [] (red l)
noncomputable def redB (n : Int) (l : List Int) : Bool := bc (chk n l != 0) false (Nat.blt 0 l.length)
noncomputable def bRedR (n : Int) (l : List Int) : SR := ⟨true, .tup [.slO 1 1 (redR n l).length (redB n l), iv (chk n l)], [(1, 3, .ints .i64 (redR n l), redB n l)], 3⟩
noncomputable def rRedR (n : Int) (l : List Int) : SR := ⟨true, .tup [.slO 3 1 (redR n l).length (redB n l), iv (chk n l)], [(3, 3, .ints .i64 (redR n l), redB n l)], 4⟩
noncomputable def bRedS : Spec := fun ps => match ps with
  | [.v (.int .i64 n), .s l _] => some (bRedR n l)
  | _ => none
noncomputable def rRedS : Spec := fun ps => match ps with
  | [.v (.int .i64 n), .s l _] => some (rRedR n l)
  | _ => none
theorem bRedS_inv {ps : List PV} {r : SR} (h : bRedS ps = some r) : ∃ n l nn, ps = [.v (.int .i64 n), .s l nn] ∧ r = bRedR n l := by
  unfold bRedS at h
  split at h
  · injection h with h; exact ⟨_, _, _, rfl, h.symm⟩
  · cases h
theorem rRedS_inv {ps : List PV} {r : SR} (h : rRedS ps = some r) : ∃ n l nn, ps = [.v (.int .i64 n), .s l nn] ∧ r = rRedR n l := by
  unfold rRedS at h
  split at h
  · injection h with h; exact ⟨_, _, _, rfl, h.symm⟩
  · cases h
theorem bRed_calls : CallsS Try.prog 37 3 bRedS := fun γ w us ps r h hc ha hR hN hlt => by
  obtain ⟨n, l, nn, rfl, rfl⟩ := bRedS_inv h
  have h := BRed.in_t n l nn
  simp only [Nat.beq_refl, bc_t] at h
  unfold bRedR redR redB
  cases hb : (chk n l != 0) with
  | true =>
    rw [hb, bc_t] at h
    refine (callsB ctB2Ok (BRed.en_ok n l nn) ha hR hN hlt (LeadsY.refl _) h).mono ?_
    rintro e w' ⟨γ', x, p1, p2, p3⟩
    exact ⟨γ', x, p1, p2.tupNil, p3.seqNil rfl (Nat.le_of_ble_eq_true rfl)⟩
  | false =>
    have h0 := ne_f hb
    have hl : l.length ≤ 60000 := by have := chk_len h0; omega
    rw [hb, bc_f] at h
    obtain ⟨b, h1, h2⟩ := BRed.loop l nn hl l.length 0 [] false (by omega) (by simp) (.inr rfl)
    have hbb : b = Nat.blt 0 l.length := by
      rcases h1 with ⟨q1, q2⟩ | ⟨q1, q2⟩
      · rw [q2, blt_of q1]
      · rw [q2, blt_of_not (by omega)]
    subst hbb
    rw [h0]
    refine (callsB ctB2Ok (BRed.en_ok n l nn) ha hR hN hlt ((leadsB1 ctB2Ok h).trans h2) (BRed.last l nn _ _)).mono ?_
    rintro e w' ⟨γ', x, p1, p2, p3⟩
    exact ⟨γ', x, p1, p2, p3.upto (Nat.le_of_ble_eq_true rfl)⟩
theorem rRed_calls : CallsS Try.prog 38 3 rRedS := fun γ w us ps r h hc ha hR hN hlt => by
  obtain ⟨n, l, nn, rfl, rfl⟩ := rRedS_inv h
  have h := BRed.r_t n l nn
  simp only [Nat.beq_refl, bc_t] at h
  unfold rRedR redR redB
  cases hb : (chk n l != 0) with
  | true =>
    rw [hb, bc_t] at h
    refine (callsB ctR2Ok (BRed.en2_ok n l nn) ha hR hN hlt (LeadsY.refl _) h).mono ?_
    rintro e w' ⟨γ', x, p1, p2, p3⟩
    exact ⟨γ', x, p1, p2.tupNil, p3.seqNil rfl (Nat.le_of_ble_eq_true rfl)⟩
  | false =>
    have h0 := ne_f hb
    have h1 : Nat.ble l.length 60000 = true := ble_of (by have := chk_len h0; omega)
    rw [hb, bc_f, h1, bc_t] at h
    rw [h0]
    exact callsB ctR2Ok (BRed.en2_ok n l nn) ha hR hN hlt (LeadsY.refl _) h
end Go.Proofs.Ytfmofpdbhkoopaa.Ev
namespace Go.Proofs.Ytfmofpdbhkoopaa.Ev
open Go.Proofs
noncomputable def both (n : Int) (a b : List Int) : Int := bc (chk n a != 0) (chk n a) (chk n b)
theorem both_chk {n : Int} {a b : List Int} (h : both n a b = 0) : chk n a = 0 ∧ chk n b = 0 := by
  unfold both at h
  cases e : (chk n a != 0) with
  | true => rw [e, bc_t] at h; rw [h] at e; cases e
  | false => rw [e, bc_f] at h; exact ⟨ne_f e, h⟩
noncomputable def ctR3 : Tr YCT := Tr.put .nil 24 (some (ctOfS 3 chkS))
theorem ctR3Ok : CtsOk Try.prog ctR3 := (CtsOk.nil _).add rfl (yct_of chk_calls)
noncomputable def bothR (n : Int) (a b : List Int) : SR := ⟨true, iv (both n a b), [], 4⟩
noncomputable def bothS : Spec := fun ps => match ps with
  | [.v (.int .i64 n), .s a _, .s b _] => some (bothR n a b)
  | _ => none
theorem ofn (n : Nat) : Int.ofNat n = (n : Int) := rfl
theorem zerosL_len (n : Nat) : (zerosL n).length = n := by unfold zerosL; simp
theorem bltD {a b : Nat} (h : a < b) : Nat.blt a b = true := blt_of h
theorem bltN {a b : Nat} (h : ¬ a < b) : Nat.blt a b = false := blt_of_not h
theorem bleN {a b : Nat} (h : ¬ a ≤ b) : Nat.ble a b = false := by
  cases e : Nat.ble a b with
  | false => rfl
  | true => exact absurd (Nat.le_of_ble_eq_true e) h
theorem beqD {a b : Nat} (h : a = b) : Nat.beq a b = true := by subst h; exact Nat.beq_refl a
namespace Tim
noncomputable def RUN (f : FuncId) (ct : Tr YCT) (a b : List Int) (o : List Nat) (s : ES) : YF := runB f ct [a, b] (fun _ => false) [] [] [] [] 2 o s
theorem en13 (n : Int) (a b : List Int) (nn mm : Bool) : exEnter ft 13 [iv n, .slO 0 1 a.length nn, .slO 1 1 b.length mm] = some (ent 13 [iv n, .slO 0 1 a.length nn, .slO 1 1 b.length mm]) := by kernel_rfl
theorem both_t (n : Int) (a b : List Int) (nn mm : Bool) : RUN 13 ctR3 a b [] ⟨ent 13 [iv n, .slO 0 1 a.length nn, .slO 1 1 b.length mm], [], .nil, 2⟩ = (bc (bc (bc (Nat.beq (List.length a) (List.length a)) true false) true false)
  (bc (chk n a != 0)
    (.done (.v (.int IntKind.i64 (chk n a))) [] 3)
    (bc (bc (bc (Nat.beq (List.length b) (List.length b)) true false) true false)
      (.done (.v (.int IntKind.i64 (chk n b))) [] 4)
      .bad))
  .bad) := by kernel_rfl
theorem en35 (n : Int) (a b : List Int) (nn mm : Bool) : exEnter ft 35 [iv n, .slO 0 1 a.length nn, .slO 1 1 b.length mm] = some (ent 35 [iv n, .slO 0 1 a.length nn, .slO 1 1 b.length mm]) := by kernel_rfl
theorem b_t (n : Int) (a b : List Int) (nn mm : Bool) : RUN 35 ctB2 a b [10] ⟨ent 35 [iv n, .slO 0 1 a.length nn, .slO 1 1 b.length mm], [], .nil, 2⟩ = (bc (bc (bc (Nat.beq (List.length a) (List.length a)) true false) true false)
  (bc (bc (bc (Nat.beq (List.length b) (List.length b)) true false) true false)
    (bc (chk n a != 0)
      (bc (chk n a != 0)
        (.done (.tup [(.v (.slice none 0 0)), (.v (.int IntKind.i64 (chk n a)))]) [] 7)
        (bc (decide (400 < IntKind.wrap IntKind.i64 (Int.ofNat (List.length a) + Int.ofNat (List.length b))))
          (.done (.tup [(.v (.slice none 0 0)), (.v (.int IntKind.i64 (Int.ofNat 3)))]) [] 7)
          (bc (decide (IntKind.wrap IntKind.i64 (0 + Int.ofNat (List.length a)) < 0))
            .bad
            (bc (decide (IntKind.wrap IntKind.i64 (IntKind.wrap IntKind.i64 (0 + Int.ofNat (List.length a)) + Int.ofNat (List.length b)) < 0))
              .bad
              (bc (decide (IntKind.wrap IntKind.i64 (IntKind.wrap IntKind.i64 (0 + Int.ofNat (List.length a)) + Int.ofNat (List.length b)) < 0))
                .bad
                (bc (decide (0 < IntKind.wrap IntKind.i64 (IntKind.wrap IntKind.i64 (IntKind.wrap IntKind.i64 (0 + Int.ofNat (List.length a)) + Int.ofNat (List.length b)) - IntKind.wrap IntKind.i64 ((Nat.cast 0 : Int) - (Nat.cast 0 : Int)))))
                  (bc (bc (decide (0 < IntKind.wrap IntKind.i64 (IntKind.wrap IntKind.i64 (IntKind.wrap IntKind.i64 (0 + Int.ofNat (List.length a)) + Int.ofNat (List.length b)) - IntKind.wrap IntKind.i64 ((Nat.cast 0 : Int) - (Nat.cast 0 : Int))))) (decide (IntKind.wrap IntKind.i64 (IntKind.wrap IntKind.i64 (IntKind.wrap IntKind.i64 (0 + Int.ofNat (List.length a)) + Int.ofNat (List.length b)) - IntKind.wrap IntKind.i64 ((Nat.cast 0 : Int) - (Nat.cast 0 : Int))) ≤ 4096)) false)
                    (bc (Nat.beq (Int.toNat (IntKind.wrap IntKind.i64 (IntKind.wrap IntKind.i64 (IntKind.wrap IntKind.i64 (0 + Int.ofNat (List.length a)) + Int.ofNat (List.length b)) - IntKind.wrap IntKind.i64 ((Nat.cast 0 : Int) - (Nat.cast 0 : Int))))) (List.length (zerosL (Int.toNat (IntKind.wrap IntKind.i64 (IntKind.wrap IntKind.i64 (IntKind.wrap IntKind.i64 (0 + Int.ofNat (List.length a)) + Int.ofNat (List.length b)) - IntKind.wrap IntKind.i64 ((Nat.cast 0 : Int) - (Nat.cast 0 : Int))))))))
                      (bc (bc (Nat.beq (List.length a) (List.length a)) (bc (Nat.ble (Int.toNat (Nat.cast 0 : Int) + List.length a) 65536) true false) false)
                        (bc (bc (Nat.beq (Int.toNat (Nat.cast 0 : Int) + List.length a) (List.length (List.take (Int.toNat (Nat.cast 0 : Int)) (zerosL (Int.toNat (IntKind.wrap IntKind.i64 (IntKind.wrap IntKind.i64 (IntKind.wrap IntKind.i64 (0 + Int.ofNat (List.length a)) + Int.ofNat (List.length b)) - IntKind.wrap IntKind.i64 ((Nat.cast 0 : Int) - (Nat.cast 0 : Int)))))) ++ a))) (bc (Nat.beq (List.length b) (List.length b)) (bc (Nat.ble (Int.toNat (Nat.cast 0 : Int) + List.length a + List.length b) 65536) true false) false) false)
                          (.done (.tup [(.slO 10 1 (Int.toNat (Nat.cast 0 : Int) + List.length a + List.length b) true), (.v (.int IntKind.i64 (Int.ofNat 0)))]) [(10, (.seq 3 (.ints IntKind.i64 (List.take (Int.toNat (Nat.cast 0 : Int)) (zerosL (Int.toNat (IntKind.wrap IntKind.i64 (IntKind.wrap IntKind.i64 (IntKind.wrap IntKind.i64 (0 + Int.ofNat (List.length a)) + Int.ofNat (List.length b)) - IntKind.wrap IntKind.i64 ((Nat.cast 0 : Int) - (Nat.cast 0 : Int)))))) ++ a ++ b)) true))] 11)
                          .bad)
                        .bad)
                      .bad)
                    .bad)
                  (bc (bc (Nat.beq (List.length a) (List.length a)) (bc (Nat.ble (0 + List.length a) 65536) true false) false)
                    (bc (bc (Nat.beq (0 + List.length a) (List.length ([] ++ a))) (bc (Nat.beq (List.length b) (List.length b)) (bc (Nat.ble (0 + List.length a + List.length b) 65536) (bc (Nat.blt 0 (List.length a)) true (bc (Nat.blt 0 (List.length a)) false true)) false) false) false)
                      (.done (.tup [(.slO 10 1 (0 + List.length a + List.length b) (bc (bc false true (Nat.blt 0 (List.length a))) true (Nat.blt 0 (List.length b)))), (.v (.int IntKind.i64 (Int.ofNat 0)))]) [(10, (.seq 3 (.ints IntKind.i64 ([] ++ a ++ b)) (bc (bc false true (Nat.blt 0 (List.length a))) true (Nat.blt 0 (List.length b)))))] 11)
                      .bad)
                    .bad)))))))
      (bc (chk n b != 0)
        (bc (chk n b != 0)
          (.done (.tup [(.v (.slice none 0 0)), (.v (.int IntKind.i64 (chk n b)))]) [] 7)
          (bc (decide (400 < IntKind.wrap IntKind.i64 (Int.ofNat (List.length a) + Int.ofNat (List.length b))))
            (.done (.tup [(.v (.slice none 0 0)), (.v (.int IntKind.i64 (Int.ofNat 3)))]) [] 7)
            (bc (decide (IntKind.wrap IntKind.i64 (0 + Int.ofNat (List.length a)) < 0))
              .bad
              (bc (decide (IntKind.wrap IntKind.i64 (IntKind.wrap IntKind.i64 (0 + Int.ofNat (List.length a)) + Int.ofNat (List.length b)) < 0))
                .bad
                (bc (decide (IntKind.wrap IntKind.i64 (IntKind.wrap IntKind.i64 (0 + Int.ofNat (List.length a)) + Int.ofNat (List.length b)) < 0))
                  .bad
                  (bc (decide (0 < IntKind.wrap IntKind.i64 (IntKind.wrap IntKind.i64 (IntKind.wrap IntKind.i64 (0 + Int.ofNat (List.length a)) + Int.ofNat (List.length b)) - IntKind.wrap IntKind.i64 ((Nat.cast 0 : Int) - (Nat.cast 0 : Int)))))
                    (bc (bc (decide (0 < IntKind.wrap IntKind.i64 (IntKind.wrap IntKind.i64 (IntKind.wrap IntKind.i64 (0 + Int.ofNat (List.length a)) + Int.ofNat (List.length b)) - IntKind.wrap IntKind.i64 ((Nat.cast 0 : Int) - (Nat.cast 0 : Int))))) (decide (IntKind.wrap IntKind.i64 (IntKind.wrap IntKind.i64 (IntKind.wrap IntKind.i64 (0 + Int.ofNat (List.length a)) + Int.ofNat (List.length b)) - IntKind.wrap IntKind.i64 ((Nat.cast 0 : Int) - (Nat.cast 0 : Int))) ≤ 4096)) false)
                      (bc (Nat.beq (Int.toNat (IntKind.wrap IntKind.i64 (IntKind.wrap IntKind.i64 (IntKind.wrap IntKind.i64 (0 + Int.ofNat (List.length a)) + Int.ofNat (List.length b)) - IntKind.wrap IntKind.i64 ((Nat.cast 0 : Int) - (Nat.cast 0 : Int))))) (List.length (zerosL (Int.toNat (IntKind.wrap IntKind.i64 (IntKind.wrap IntKind.i64 (IntKind.wrap IntKind.i64 (0 + Int.ofNat (List.length a)) + Int.ofNat (List.length b)) - IntKind.wrap IntKind.i64 ((Nat.cast 0 : Int) - (Nat.cast 0 : Int))))))))
                        (bc (bc (Nat.beq (List.length a) (List.length a)) (bc (Nat.ble (Int.toNat (Nat.cast 0 : Int) + List.length a) 65536) true false) false)
                          (bc (bc (Nat.beq (Int.toNat (Nat.cast 0 : Int) + List.length a) (List.length (List.take (Int.toNat (Nat.cast 0 : Int)) (zerosL (Int.toNat (IntKind.wrap IntKind.i64 (IntKind.wrap IntKind.i64 (IntKind.wrap IntKind.i64 (0 + Int.ofNat (List.length a)) + Int.ofNat (List.length b)) - IntKind.wrap IntKind.i64 ((Nat.cast 0 : Int) - (Nat.cast 0 : Int)))))) ++ a))) (bc (Nat.beq (List.length b) (List.length b)) (bc (Nat.ble (Int.toNat (Nat.cast 0 : Int) + List.length a + List.length b) 65536) true false) false) false)
                            (.done (.tup [(.slO 10 1 (Int.toNat (Nat.cast 0 : Int) + List.length a + List.length b) true), (.v (.int IntKind.i64 (Int.ofNat 0)))]) [(10, (.seq 3 (.ints IntKind.i64 (List.take (Int.toNat (Nat.cast 0 : Int)) (zerosL (Int.toNat (IntKind.wrap IntKind.i64 (IntKind.wrap IntKind.i64 (IntKind.wrap IntKind.i64 (0 + Int.ofNat (List.length a)) + Int.ofNat (List.length b)) - IntKind.wrap IntKind.i64 ((Nat.cast 0 : Int) - (Nat.cast 0 : Int)))))) ++ a ++ b)) true))] 11)
                            .bad)
                          .bad)
                        .bad)
                      .bad)
                    (bc (bc (Nat.beq (List.length a) (List.length a)) (bc (Nat.ble (0 + List.length a) 65536) true false) false)
                      (bc (bc (Nat.beq (0 + List.length a) (List.length ([] ++ a))) (bc (Nat.beq (List.length b) (List.length b)) (bc (Nat.ble (0 + List.length a + List.length b) 65536) (bc (Nat.blt 0 (List.length a)) true (bc (Nat.blt 0 (List.length a)) false true)) false) false) false)
                        (.done (.tup [(.slO 10 1 (0 + List.length a + List.length b) (bc (bc false true (Nat.blt 0 (List.length a))) true (Nat.blt 0 (List.length b)))), (.v (.int IntKind.i64 (Int.ofNat 0)))]) [(10, (.seq 3 (.ints IntKind.i64 ([] ++ a ++ b)) (bc (bc false true (Nat.blt 0 (List.length a))) true (Nat.blt 0 (List.length b)))))] 11)
                        .bad)
                      .bad)))))))
        (bc (decide (400 < IntKind.wrap IntKind.i64 (Int.ofNat (List.length a) + Int.ofNat (List.length b))))
          (.done (.tup [(.v (.slice none 0 0)), (.v (.int IntKind.i64 (Int.ofNat 3)))]) [] 7)
          (bc (decide (IntKind.wrap IntKind.i64 (0 + Int.ofNat (List.length a)) < 0))
            .bad
            (bc (decide (IntKind.wrap IntKind.i64 (IntKind.wrap IntKind.i64 (0 + Int.ofNat (List.length a)) + Int.ofNat (List.length b)) < 0))
              .bad
              (bc (decide (IntKind.wrap IntKind.i64 (IntKind.wrap IntKind.i64 (0 + Int.ofNat (List.length a)) + Int.ofNat (List.length b)) < 0))
                .bad
                (bc (decide (0 < IntKind.wrap IntKind.i64 (IntKind.wrap IntKind.i64 (IntKind.wrap IntKind.i64 (0 + Int.ofNat (List.length a)) + Int.ofNat (List.length b)) - IntKind.wrap IntKind.i64 ((Nat.cast 0 : Int) - (Nat.cast 0 : Int)))))
                  (bc (bc (decide (0 < IntKind.wrap IntKind.i64 (IntKind.wrap IntKind.i64 (IntKind.wrap IntKind.i64 (0 + Int.ofNat (List.length a)) + Int.ofNat (List.length b)) - IntKind.wrap IntKind.i64 ((Nat.cast 0 : Int) - (Nat.cast 0 : Int))))) (decide (IntKind.wrap IntKind.i64 (IntKind.wrap IntKind.i64 (IntKind.wrap IntKind.i64 (0 + Int.ofNat (List.length a)) + Int.ofNat (List.length b)) - IntKind.wrap IntKind.i64 ((Nat.cast 0 : Int) - (Nat.cast 0 : Int))) ≤ 4096)) false)
                    (bc (Nat.beq (Int.toNat (IntKind.wrap IntKind.i64 (IntKind.wrap IntKind.i64 (IntKind.wrap IntKind.i64 (0 + Int.ofNat (List.length a)) + Int.ofNat (List.length b)) - IntKind.wrap IntKind.i64 ((Nat.cast 0 : Int) - (Nat.cast 0 : Int))))) (List.length (zerosL (Int.toNat (IntKind.wrap IntKind.i64 (IntKind.wrap IntKind.i64 (IntKind.wrap IntKind.i64 (0 + Int.ofNat (List.length a)) + Int.ofNat (List.length b)) - IntKind.wrap IntKind.i64 ((Nat.cast 0 : Int) - (Nat.cast 0 : Int))))))))
                      (bc (bc (Nat.beq (List.length a) (List.length a)) (bc (Nat.ble (Int.toNat (Nat.cast 0 : Int) + List.length a) 65536) true false) false)
                        (bc (bc (Nat.beq (Int.toNat (Nat.cast 0 : Int) + List.length a) (List.length (List.take (Int.toNat (Nat.cast 0 : Int)) (zerosL (Int.toNat (IntKind.wrap IntKind.i64 (IntKind.wrap IntKind.i64 (IntKind.wrap IntKind.i64 (0 + Int.ofNat (List.length a)) + Int.ofNat (List.length b)) - IntKind.wrap IntKind.i64 ((Nat.cast 0 : Int) - (Nat.cast 0 : Int)))))) ++ a))) (bc (Nat.beq (List.length b) (List.length b)) (bc (Nat.ble (Int.toNat (Nat.cast 0 : Int) + List.length a + List.length b) 65536) true false) false) false)
                          (.done (.tup [(.slO 10 1 (Int.toNat (Nat.cast 0 : Int) + List.length a + List.length b) true), (.v (.int IntKind.i64 (Int.ofNat 0)))]) [(10, (.seq 3 (.ints IntKind.i64 (List.take (Int.toNat (Nat.cast 0 : Int)) (zerosL (Int.toNat (IntKind.wrap IntKind.i64 (IntKind.wrap IntKind.i64 (IntKind.wrap IntKind.i64 (0 + Int.ofNat (List.length a)) + Int.ofNat (List.length b)) - IntKind.wrap IntKind.i64 ((Nat.cast 0 : Int) - (Nat.cast 0 : Int)))))) ++ a ++ b)) true))] 11)
                          .bad)
                        .bad)
                      .bad)
                    .bad)
                  (bc (bc (Nat.beq (List.length a) (List.length a)) (bc (Nat.ble (0 + List.length a) 65536) true false) false)
                    (bc (bc (Nat.beq (0 + List.length a) (List.length ([] ++ a))) (bc (Nat.beq (List.length b) (List.length b)) (bc (Nat.ble (0 + List.length a + List.length b) 65536) (bc (Nat.blt 0 (List.length a)) true (bc (Nat.blt 0 (List.length a)) false true)) false) false) false)
                      (.done (.tup [(.slO 10 1 (0 + List.length a + List.length b) (bc (bc false true (Nat.blt 0 (List.length a))) true (Nat.blt 0 (List.length b)))), (.v (.int IntKind.i64 (Int.ofNat 0)))]) [(10, (.seq 3 (.ints IntKind.i64 ([] ++ a ++ b)) (bc (bc false true (Nat.blt 0 (List.length a))) true (Nat.blt 0 (List.length b)))))] 11)
                      .bad)
                    .bad))))))))
    .bad)
  .bad) := by kernel_rfl
noncomputable def ctT : Tr YCT := Tr.put .nil 13 (some (ctOfS 3 bothS))
theorem en36 (n : Int) (a b : List Int) (nn mm : Bool) : exEnter ft 36 [iv n, .slO 0 1 a.length nn, .slO 1 1 b.length mm] = some (ent 36 [iv n, .slO 0 1 a.length nn, .slO 1 1 b.length mm]) := by kernel_rfl
theorem r_t (n : Int) (a b : List Int) (nn mm : Bool) : RUN 36 ctT a b [8] ⟨ent 36 [iv n, .slO 0 1 a.length nn, .slO 1 1 b.length mm], [], .nil, 2⟩ = (bc (bc (bc (Nat.beq (List.length a) (List.length a)) (bc (Nat.beq (List.length b) (List.length b)) true false) false) true false)
  (bc (both n a b != 0)
    (.done (.tup [(.v (.slice none 0 0)), (.v (.int IntKind.i64 (both n a b)))]) [] 6)
    (bc (decide (400 < IntKind.wrap IntKind.i64 (Int.ofNat (List.length a) + Int.ofNat (List.length b))))
      (.done (.tup [(.v (.slice none 0 0)), (.v (.int IntKind.i64 (Int.ofNat 3)))]) [] 6)
      (bc (bc (Nat.beq (List.length a) (List.length a)) (bc (Nat.ble (0 + List.length a) 65536) true false) false)
        (bc (bc (Nat.beq (0 + List.length a) (List.length ([] ++ a))) (bc (Nat.beq (List.length b) (List.length b)) (bc (Nat.ble (0 + List.length a + List.length b) 65536) true false) false) false)
          (.done (.tup [(.slO 8 1 (0 + List.length a + List.length b) true), (.v (.int IntKind.i64 (Int.ofNat 0)))]) [(8, (.seq 3 (.ints IntKind.i64 ([] ++ a ++ b)) true))] 9)
          .bad)
        .bad)))
  .bad) := by kernel_rfl
end Tim
theorem bothS_inv {ps : List PV} {r : SR} (h : bothS ps = some r) : ∃ n a b nn mm, ps = [.v (.int .i64 n), .s a nn, .s b mm] ∧ r = bothR n a b := by
  unfold bothS at h
  split at h
  · injection h with h; exact ⟨_, _, _, _, _, rfl, h.symm⟩
  · cases h
theorem both_calls : CallsS Try.prog 13 3 bothS := fun γ w us ps r h hc ha hR hN hlt => by
  obtain ⟨n, a, b, nn, mm, rfl, rfl⟩ := bothS_inv h
  have h := Tim.both_t n a b nn mm
  simp only [Nat.beq_refl, bc_t] at h
  unfold bothR both
  cases hb : (chk n a != 0) with
  | true =>
    rw [hb, bc_t] at h
    refine (callsB ctR3Ok (Tim.en13 n a b nn mm) ha hR hN hlt (LeadsY.refl _) h).mono ?_
    rintro e w' ⟨γ', x, p1, p2, p3⟩
    exact ⟨γ', x, p1, p2, p3.upto (by show 3 ≤ 4; omega)⟩
  | false =>
    rw [hb, bc_f] at h
    exact callsB ctR3Ok (Tim.en13 n a b nn mm) ha hR hN hlt (LeadsY.refl _) h
theorem ctTOk : CtsOk Try.prog Tim.ctT := (CtsOk.nil _).add rfl (yct_of both_calls)
/-- what Times says: the error and the word -/
noncomputable def timE (n : Int) (a b : List Int) : Int := bc (both n a b != 0) (both n a b) (bc (decide (400 < (a.length : Int) + b.length)) 3 0)
noncomputable def timL (n : Int) (a b : List Int) : List Int := bc (timE n a b != 0) [] (a ++ b)
noncomputable def bTimR (n : Int) (a b : List Int) : SR := ⟨true, .tup [.slO 10 1 (timL n a b).length (Nat.blt 0 (timL n a b).length), iv (timE n a b)], [(10, 3, .ints .i64 (timL n a b), Nat.blt 0 (timL n a b).length)], 11⟩
noncomputable def rTimR (n : Int) (a b : List Int) : SR := ⟨true, .tup [.slO 8 1 (timL n a b).length (timE n a b == 0), iv (timE n a b)], [(8, 3, .ints .i64 (timL n a b), timE n a b == 0)], 9⟩
noncomputable def bTimS : Spec := fun ps => match ps with
  | [.v (.int .i64 n), .s a _, .s b _] => some (bTimR n a b)
  | _ => none
noncomputable def rTimS : Spec := fun ps => match ps with
  | [.v (.int .i64 n), .s a _, .s b _] => some (rTimR n a b)
  | _ => none
theorem bTimS_inv {ps : List PV} {r : SR} (h : bTimS ps = some r) : ∃ n a b nn mm, ps = [.v (.int .i64 n), .s a nn, .s b mm] ∧ r = bTimR n a b := by
  unfold bTimS at h
  split at h
  · injection h with h; exact ⟨_, _, _, _, _, rfl, h.symm⟩
  · cases h
theorem rTimS_inv {ps : List PV} {r : SR} (h : rTimS ps = some r) : ∃ n a b nn mm, ps = [.v (.int .i64 n), .s a nn, .s b mm] ∧ r = rTimR n a b := by
  unfold rTimS at h
  split at h
  · injection h with h; exact ⟨_, _, _, _, _, rfl, h.symm⟩
  · cases h
theorem rTim_calls : CallsS Try.prog 36 3 rTimS := fun γ w us ps r h hc ha hR hN hlt => by
  obtain ⟨n, a, b, nn, mm, rfl, rfl⟩ := rTimS_inv h
  have h := Tim.r_t n a b nn mm
  simp only [Nat.beq_refl, bc_t] at h
  have e3 : (timE n a b != 0) = true → (timE n a b == 0) = false := fun e => by simpa using e
  have bad : ∀ e : Int, (e != 0) = true → timE n a b = e → Tim.RUN 36 Tim.ctT a b [8] ⟨ent 36 [iv n, .slO 0 1 a.length nn, .slO 1 1 b.length mm], [], .nil, 2⟩ = .done (.tup [(.v (.slice none 0 0)), iv e]) [] 6 → Calls Try.prog 36 us w fun e w' => ∃ γ' x, e = .returned x ∧ EC γ' (rTimR n a b).a x ∧ HR γ' (Bs.of w) (mkT (seqsK (rTimR n a b).K)) (rTimR n a b).n w' := fun e he ht h => by
    have hl : timL n a b = [] := by unfold timL; rw [ht, he, bc_t]
    have h0 : (e == 0) = false := by simpa using he
    unfold rTimR
    rw [hl, ht, h0]
    refine (callsB ctTOk (Tim.en36 n a b nn mm) ha hR hN hlt (LeadsY.refl _) h).mono ?_
    rintro e w' ⟨γ', x, p1, p2, p3⟩
    exact ⟨γ', x, p1, p2.tupNil, p3.seqNil rfl (Nat.le_of_ble_eq_true rfl)⟩
  cases hb : (both n a b != 0) with
  | true =>
    rw [hb, bc_t] at h
    exact bad _ hb (by unfold timE; rw [hb, bc_t]) h
  | false =>
    have h0 := ne_f hb
    obtain ⟨g1, g2⟩ := both_chk h0
    have hla := chk_len g1
    have hlb := chk_len g2
    rw [hb, bc_f, wrap_in _ (by rw [ofn, ofn]; omega) (by rw [ofn, ofn]; omega)] at h
    cases hd : decide (400 < (a.length : Int) + b.length) with
    | true =>
      rw [show Int.ofNat a.length + Int.ofNat b.length = (a.length : Int) + b.length from rfl, hd, bc_t] at h
      exact bad 3 rfl (by unfold timE; rw [hb, bc_f, hd, bc_t]) h
    | false =>
      rw [show Int.ofNat a.length + Int.ofNat b.length = (a.length : Int) + b.length from rfl, hd, bc_f] at h
      have he : timE n a b = 0 := by unfold timE; rw [hb, bc_f, hd, bc_f]
      have hl : timL n a b = a ++ b := by unfold timL; rw [he]; rfl
      simp (disch := omega) only [ofn, wrap_in, dt, df, bltD, bltN, ble_of, bleN, beqD, bc_t, bc_f, nn_ok, zerosL_len, Nat.zero_add, to_nat, at_nat, Int.zero_add, Int.sub_zero, Int.sub_self, Int.cast_ofNat_Int, Int.natCast_zero, Int.toNat_zero, List.take_zero, List.nil_append, List.length_append, List.length_nil] at h
      unfold rTimR
      rw [hl, he, List.length_append]
      exact callsB ctTOk (Tim.en36 n a b nn mm) ha hR hN hlt (LeadsY.refl _) h
theorem bTim_calls : CallsS Try.prog 35 3 bTimS := fun γ w us ps r h hc ha hR hN hlt => by
  obtain ⟨n, a, b, nn, mm, rfl, rfl⟩ := bTimS_inv h
  have h := Tim.b_t n a b nn mm
  simp only [Nat.beq_refl, bc_t] at h
  have bad : ∀ e : Int, (e != 0) = true → timE n a b = e → Tim.RUN 35 ctB2 a b [10] ⟨ent 35 [iv n, .slO 0 1 a.length nn, .slO 1 1 b.length mm], [], .nil, 2⟩ = .done (.tup [(.v (.slice none 0 0)), iv e]) [] 7 → Calls Try.prog 35 us w fun e w' => ∃ γ' x, e = .returned x ∧ EC γ' (bTimR n a b).a x ∧ HR γ' (Bs.of w) (mkT (seqsK (bTimR n a b).K)) (bTimR n a b).n w' := fun e he ht h => by
    have hl : timL n a b = [] := by unfold timL; rw [ht, he, bc_t]
    unfold bTimR
    rw [hl, ht]
    refine (callsB ctB2Ok (Tim.en35 n a b nn mm) ha hR hN hlt (LeadsY.refl _) h).mono ?_
    rintro e w' ⟨γ', x, p1, p2, p3⟩
    exact ⟨γ', x, p1, p2.tupNil, p3.seqNil rfl (Nat.le_of_ble_eq_true rfl)⟩
  have fin : both n a b = 0 → a.length ≤ 400 → b.length ≤ 400 → (decide (400 < (a.length : Int) + b.length) = true → Tim.RUN 35 ctB2 a b [10] ⟨ent 35 [iv n, .slO 0 1 a.length nn, .slO 1 1 b.length mm], [], .nil, 2⟩ = .done (.tup [(.v (.slice none 0 0)), iv 3]) [] 7) → (decide (400 < (a.length : Int) + b.length) = false → Tim.RUN 35 ctB2 a b [10] ⟨ent 35 [iv n, .slO 0 1 a.length nn, .slO 1 1 b.length mm], [], .nil, 2⟩ = .done (.tup [.slO 10 1 (a ++ b).length (Nat.blt 0 (a ++ b).length), iv 0]) [(10, .seq 3 (.ints .i64 (a ++ b)) (Nat.blt 0 (a ++ b).length))] 11) → Calls Try.prog 35 us w fun e w' => ∃ γ' x, e = .returned x ∧ EC γ' (bTimR n a b).a x ∧ HR γ' (Bs.of w) (mkT (seqsK (bTimR n a b).K)) (bTimR n a b).n w' := fun h0 hla hlb k1 k2 => by
    have hb : (both n a b != 0) = false := by rw [h0]; rfl
    cases hd : decide (400 < (a.length : Int) + b.length) with
    | true => exact bad 3 rfl (by unfold timE; rw [hb, bc_f, hd, bc_t]) (k1 hd)
    | false =>
      have he : timE n a b = 0 := by unfold timE; rw [hb, bc_f, hd, bc_f]
      have hl : timL n a b = a ++ b := by unfold timL; rw [he]; rfl
      unfold bTimR
      rw [hl, he]
      exact callsB ctB2Ok (Tim.en35 n a b nn mm) ha hR hN hlt (LeadsY.refl _) (k2 hd)
  have k1 : both n a b = 0 → chk n a = 0 ∧ chk n b = 0 → Calls Try.prog 35 us w fun e w' => ∃ γ' x, e = .returned x ∧ EC γ' (bTimR n a b).a x ∧ HR γ' (Bs.of w) (mkT (seqsK (bTimR n a b).K)) (bTimR n a b).n w' := fun h0 ⟨g1, g2⟩ => by
    have hla := chk_len g1
    have hlb := chk_len g2
    refine fin h0 hla hlb (fun hd => ?_) fun hd => ?_
    · have q := of_decide_eq_true hd
      simp (disch := omega) only [ofn, wrap_in, dt, df, bltD, bltN, ble_of, bleN, beqD, bc_t, bc_f, nn_ok, zerosL_len, Nat.zero_add, to_nat, at_nat, Int.zero_add, Int.sub_zero, Int.sub_self, Int.cast_ofNat_Int, Int.natCast_zero, Int.toNat_zero, List.take_zero, List.nil_append, List.length_append, List.length_nil, g1, g2, bne_self_eq_false] at h
      exact h
    · have q := of_decide_eq_false hd
      simp (disch := omega) only [ofn, wrap_in, dt, df, bltD, bltN, ble_of, bleN, beqD, bc_t, bc_f, nn_ok, zerosL_len, Nat.zero_add, to_nat, at_nat, Int.zero_add, Int.sub_zero, Int.sub_self, Int.cast_ofNat_Int, Int.natCast_zero, Int.toNat_zero, List.take_zero, List.nil_append, List.length_append, List.length_nil, g1, g2, bne_self_eq_false] at h
      by_cases hz : 0 < a.length + b.length
      · rw [bltD (by rw [List.length_append]; exact hz)]
        simp (disch := omega) only [ofn, wrap_in, dt, df, bltD, bltN, ble_of, bleN, beqD, bc_t, bc_f, nn_ok, zerosL_len, Nat.zero_add, to_nat, at_nat, Int.zero_add, Int.sub_zero, Int.sub_self, Int.cast_ofNat_Int, Int.natCast_zero, Int.toNat_zero, List.take_zero, List.nil_append, List.length_append, List.length_nil] at h ⊢
        exact h
      · rw [bltN (by rw [List.length_append]; exact hz)]
        simp (disch := omega) only [ofn, wrap_in, dt, df, bltD, bltN, ble_of, bleN, beqD, bc_t, bc_f, nn_ok, zerosL_len, Nat.zero_add, to_nat, at_nat, Int.zero_add, Int.sub_zero, Int.sub_self, Int.cast_ofNat_Int, Int.natCast_zero, Int.toNat_zero, List.take_zero, List.nil_append, List.length_append, List.length_nil] at h ⊢
        exact h
  cases hb : (chk n a != 0) with
  | true =>
    rw [hb] at h
    simp only [bc_t] at h
    exact bad _ hb (by unfold timE both; rw [hb, bc_t, hb, bc_t]) h
  | false =>
    have g1 := ne_f hb
    have hbo : both n a b = chk n b := by unfold both; rw [hb, bc_f]
    cases hb2 : (chk n b != 0) with
    | true =>
      rw [hb, hb2] at h
      simp only [bc_t, bc_f] at h
      exact bad _ hb2 (by unfold timE; rw [hbo, hb2, bc_t]) h
    | false =>
      have g2 := ne_f hb2
      exact k1 (hbo.trans g2) ⟨g1, g2⟩
end Go.Proofs.Ytfmofpdbhkoopaa.Ev
namespace Go.Proofs.Ytfmofpdbhkoopaa.Ev
open Go.Proofs
namespace Sam
noncomputable def sL (l m : List Int) (nn mm : Bool) (i : Int) : NS := ⟨[⟨29, 26, [(0, (.slO 0 1 (l.length) (nn))), (1, (.slO 1 1 (m.length) (mm))), (5, (.v (.int .i64 i)))], [.it (.code (nav [1, 1, 0, 1, 0, 0, 0] (bodyOf Try.f29))), .it (.code (nav [1, 1, 0, 1, 0, 0, 1] (bodyOf Try.f29))), .it (.inLoop (nav [1, 1, 0, 1, 0, 0] (bodyOf Try.f29))), .it (.inBlock 0), .it (.code (nav [1, 1, 1] (bodyOf Try.f29)))], [], none⟩], [], 2⟩
noncomputable def RUN (l m : List Int) (s : ES) : YF := runB 29 .nil [l, m] (atS 0 29 4) [[(0,none),(1,none),(5,none)]] [] [(0,0),(1,1)] [] 2 [] s
theorem en_ok (l m : List Int) (nn mm : Bool) : exEnter ft 29 [.slO 0 1 l.length nn, .slO 1 1 m.length mm] = some (ent 29 [.slO 0 1 l.length nn, .slO 1 1 m.length mm]) := by kernel_rfl
theorem in_t (l m : List Int) (nn mm : Bool) : RUN l m ⟨ent 29 [.slO 0 1 l.length nn, .slO 1 1 m.length mm], [], .nil, 2⟩ = (bc (Int.ofNat (List.length l) != Int.ofNat (List.length m))
  (.done (.v (.bool false)) [] 2)
  (.at ⟨[⟨29, 26, [(0, (.slO 0 1 (List.length l) (nn))), (1, (.slO 1 1 (List.length m) (mm))), (5, (.v (.int IntKind.i64 (Int.ofNat 0))))], [.it (.code (nav [1, 1, 0, 1, 0, 0, 0] (bodyOf Try.f29))), .it (.code (nav [1, 1, 0, 1, 0, 0, 1] (bodyOf Try.f29))), .it (.inLoop (nav [1, 1, 0, 1, 0, 0] (bodyOf Try.f29))), .it (.inBlock 0), .it (.code (nav [1, 1, 1] (bodyOf Try.f29)))], [], none⟩], [], 2⟩)) := by kernel_rfl
theorem step_t (l m : List Int) (nn mm : Bool) (i : Int) : RUN l m (stOf (sL l m nn mm i)) = (bc (decide (i < Int.ofNat (List.length l)))
  (bc (bc (bc (decide (0 ≤ i)) (Nat.blt (Int.toNat i) (List.length l)) false) (bc (Nat.blt (Nat.add 0 (Nat.mul (Int.toNat i) 1)) (List.length l)) (bc (bc (decide (0 ≤ i)) (Nat.blt (Int.toNat i) (List.length m)) false) (bc (Nat.blt (Nat.add 0 (Nat.mul (Int.toNat i) 1)) (List.length m)) true false) false) false) false)
    (bc (List.getD l (Nat.add 0 (Nat.mul (Int.toNat i) 1)) 0 != List.getD m (Nat.add 0 (Nat.mul (Int.toNat i) 1)) 0)
      (.done (.v (.bool false)) [] 11)
      (.at ⟨[⟨29, 26, [(0, (.slO 0 1 (List.length l) (nn))), (1, (.slO 1 1 (List.length m) (mm))), (5, (.v (.int IntKind.i64 (IntKind.wrap IntKind.i64 (i + 1)))))], [.it (.code (nav [1, 1, 0, 1, 0, 0, 0] (bodyOf Try.f29))), .it (.code (nav [1, 1, 0, 1, 0, 0, 1] (bodyOf Try.f29))), .it (.inLoop (nav [1, 1, 0, 1, 0, 0] (bodyOf Try.f29))), .it (.inBlock 0), .it (.code (nav [1, 1, 1] (bodyOf Try.f29)))], [], none⟩], [], 2⟩))
    .bad)
  (.done (.v (.bool true)) [] 2)) := by kernel_rfl
theorem step (l m : List Int) (nn mm : Bool) (i : Nat) (hi : i < l.length) (hm : i < m.length) (hl : l.length ≤ 100000) : RUN l m (stOf (sL l m nn mm i)) = bc (l[i] != m[i]) (.done (.v (.bool false)) [] 11) (.at (sL l m nn mm ((i + 1 : Nat) : Int))) := by
  have h := step_t l m nn mm i
  have h1 : decide ((i : Int) < Int.ofNat l.length) = true := dt (by show (i : Int) < (l.length : Int); omega)
  have h2 : decide ((0 : Int) ≤ (i : Int)) = true := dt (by omega)
  have h3 : Nat.blt i l.length = true := blt_of hi
  have h5 : Nat.blt i m.length = true := blt_of hm
  have h4 : IntKind.i64.wrap ((i : Int) + 1) = ((i + 1 : Nat) : Int) := by rw [wrap_in _ (by omega) (by omega)]; rfl
  simp only [at_nat, to_nat, h1, h2, h3, h4, h5, bc_t, getD_at hi, getD_at hm] at h
  exact h
theorem last (l m : List Int) (nn mm : Bool) : RUN l m (stOf (sL l m nn mm (l.length : Int))) = .done (.v (.bool true)) [] 2 := by
  have h := step_t l m nn mm (l.length : Int)
  have h1 : decide ((l.length : Int) < Int.ofNat l.length) = false := df (by show ¬ (l.length : Int) < (l.length : Int); omega)
  simp only [h1, bc_f] at h
  exact h
theorem loop (l m : List Int) (nn mm : Bool) (he : l.length = m.length) (hl : l.length ≤ 100000) : ∀ (k i : Nat), i + k = l.length → ∃ (j : Int) (q : Nat), q ≤ 11 ∧ LeadsY Try.prog (roL 3 [l, m]) (stOf (sL l m nn mm i)) (stOf (sL l m nn mm j)) ∧ RUN l m (stOf (sL l m nn mm j)) = .done (.v (.bool (decide (l.drop i = m.drop i)))) [] q
  | 0, i, h => by
    have : i = l.length := by omega
    subst this
    refine ⟨_, 2, by omega, LeadsY.refl _, ?_⟩
    rw [last, List.drop_length, he, List.drop_length]; rfl
  | k + 1, i, h => by
    have hs := step l m nn mm i (by omega) (by omega) hl
    have hd : l.drop i = l[i] :: l.drop (i + 1) := List.drop_eq_getElem_cons (by omega)
    have hd2 : m.drop i = m[i] :: m.drop (i + 1) := List.drop_eq_getElem_cons (by omega)
    by_cases hb : l[i] = m[i]
    · have hb2 : (l[i] != m[i]) = false := by simp [hb]
      rw [hb2, bc_f] at hs
      obtain ⟨j, q, h0, h1, h2⟩ := loop l m nn mm he hl k (i + 1) (by omega)
      refine ⟨j, q, h0, (leadsB2 (CtsOk.nil _) hs).trans h1, ?_⟩
      have e : decide (l.drop i = m.drop i) = decide (l.drop (i + 1) = m.drop (i + 1)) := by
        refine decide_eq_decide.2 ⟨fun e => ?_, fun e => ?_⟩
        · rw [hd, hd2] at e; injection e
        · rw [hd, hd2, hb, e]
      rw [h2, e]
    · have hb2 : (l[i] != m[i]) = true := by simp [hb]
      rw [hb2, bc_t] at hs
      refine ⟨_, 11, Nat.le_refl _, LeadsY.refl _, ?_⟩
      have e : decide (l.drop i = m.drop i) = false := df fun e => by rw [hd, hd2] at e; injection e with e _; exact hb e
      rw [hs, e]
end Sam
noncomputable def samS : Spec := fun ps => match ps with
  | [.s l _, .s m _] => some ⟨Nat.ble l.length 100000, .v (.bool (decide (l = m))), [], 11⟩
  | _ => none
theorem samS_inv {ps : List PV} {r : SR} (h : samS ps = some r) : ∃ l m nn mm, ps = [.s l nn, .s m mm] ∧ r = ⟨Nat.ble l.length 100000, .v (.bool (decide (l = m))), [], 11⟩ := by
  unfold samS at h
  split at h
  · injection h with h; exact ⟨_, _, _, _, rfl, h.symm⟩
  · cases h
theorem sam_calls : CallsS Try.prog 29 3 samS := fun γ w us ps r h hc ha hR hN hlt => by
  obtain ⟨l, m, nn, mm, rfl, rfl⟩ := samS_inv h
  have hl : l.length ≤ 100000 := Nat.le_of_ble_eq_true hc
  have key : ∃ s' q, q ≤ 11 ∧ LeadsY Try.prog (roL 3 [l, m]) ⟨ent 29 [.slO 0 1 l.length nn, .slO 1 1 m.length mm], [], .nil, 2⟩ s' ∧ Sam.RUN l m s' = .done (.v (.bool (decide (l = m)))) [] q := by
    have h := Sam.in_t l m nn mm
    by_cases he : l.length = m.length
    · have he2 : (Int.ofNat l.length != Int.ofNat m.length) = false := by simp [he]
      simp only [he2, bc_f] at h
      obtain ⟨j, q, q0, q1, q2⟩ := Sam.loop l m nn mm he hl l.length 0 (by omega)
      exact ⟨_, q, q0, (leadsB2 (CtsOk.nil _) h).trans q1, by rw [q2]; rfl⟩
    · have he2 : (Int.ofNat l.length != Int.ofNat m.length) = true := by simp; omega
      simp only [he2, bc_t] at h
      have hne : decide (l = m) = false := df fun e => he (by rw [e])
      exact ⟨_, 2, by omega, LeadsY.refl _, by rw [hne]; exact h⟩
  obtain ⟨s', q, h0, h1, h2⟩ := key
  refine (callsB (CtsOk.nil _) (Sam.en_ok l m nn mm) ha hR hN hlt h1 h2).mono ?_
  rintro e w' ⟨γ', x, p1, p2, p3⟩
  exact ⟨γ', x, p1, p2, p3.upto h0⟩
end Go.Proofs.Ytfmofpdbhkoopaa.Ev
namespace Go.Proofs.Ytfmofpdbhkoopaa.Ev
open Go.Proofs
theorem awake_run : endsB (exClosed Try.prog ft (drD Try.prog ft 16 4) 14 18) = true := by kernel_rfl
theorem callsAwake (w : World) : Calls Try.prog 14 #[] w fun e w' => e = .returned (.bool true) ∧ Stays w w' := closedTrue ftOk (drD_ok mix ftOk 16 4) awake_run w
noncomputable def awakeR : SR := ⟨true, .v (.bool true), [], 0⟩
noncomputable def awakeS : Spec := fun ps => match ps with
  | [] => some awakeR
  | _ => none
theorem awakeS_inv {ps : List PV} {r : SR} (h : awakeS ps = some r) : ps = [] ∧ r = awakeR := by
  unfold awakeS at h
  split at h
  · injection h with h; exact ⟨rfl, h.symm⟩
  · cases h
theorem awake_calls : CallsS Try.prog 14 3 awakeS := fun γ w us ps r h hc ha hR hN hlt => by
  obtain ⟨rfl, rfl⟩ := awakeS_inv h
  have hu : us = #[] := by
    have := ha.1
    apply Array.toList_inj.1
    exact List.eq_nil_of_length_eq_zero this.symm
  subst hu
  refine (callsAwake w).mono ?_
  rintro e w' ⟨rfl, hs⟩
  exact ⟨fun _ => none, _, rfl, .v _, ⟨(fun i k hk => by cases hk), (fun i j ki kj hi => by cases hi), (fun _ _ => rfl), (fun i hi => hi.elim), (fun i p hp => by cases hp), ⟨hs.os, hs.tape, hs.output, hs.size, hs.block⟩⟩⟩
end Go.Proofs.Ytfmofpdbhkoopaa.Ev
namespace Go.Proofs.Ytfmofpdbhkoopaa.Ev
open Go.Proofs
noncomputable def ctW : Tr YCT := ((((((((((Tr.put .nil 14 (some (ctOfS 3 awakeS))).put 24 (some (ctOfS 3 chkS))).put 34 (some (ctOfS 3 chk2S))).put 32 (some (ctOfS 3 bInvS))).put 33 (some (ctOfS 3 rInvS))).put 29 (some (ctOfS 3 samS))).put 35 (some (ctOfS 3 bTimS))).put 36 (some (ctOfS 3 rTimS))).put 37 (some (ctOfS 3 bRedS))).put 38 (some (ctOfS 3 rRedS)))
theorem ctWOk : CtsOk Try.prog ctW := ((((((((((CtsOk.nil _).add rfl (yct_of awake_calls)).add rfl (yct_of chk_calls)).add rfl (yct_of bchk_calls)).add rfl (yct_of bInv_calls)).add rfl (yct_of rInv_calls)).add rfl (yct_of sam_calls)).add rfl (yct_of bTim_calls)).add rfl (yct_of rTim_calls)).add rfl (yct_of bRed_calls)).add rfl (yct_of rRed_calls)
namespace Wor
noncomputable def RUN (a b : List Int) (s : ES) : YF := runB 7 ctW [a, b] (fun _ => false) [] [] [] [] 2 [] s
theorem en (n : Int) (a b : List Int) (nn mm : Bool) : exEnter ft 7 [iv n, .slO 0 1 a.length nn, .slO 1 1 b.length mm] = some (ent 7 [iv n, .slO 0 1 a.length nn, .slO 1 1 b.length mm]) := by kernel_rfl
theorem law_t (n : Int) (a b : List Int) (nn mm : Bool) : RUN a b ⟨ent 7 [iv n, .slO 0 1 a.length nn, .slO 1 1 b.length mm], [], .nil, 2⟩ = (bc (decide (1000 < Int.ofNat (List.length a)))
  (.done (.v (.bool true)) [] 2)
  (bc (decide (1000 < Int.ofNat (List.length b)))
    (.done (.v (.bool true)) [] 2)
    (bc (bc (bc (Nat.beq (List.length a) (List.length a)) true false) true false)
      (bc (bc (bc (Nat.beq (List.length a) (List.length a)) true false) true false)
        (bc (bc (bc (Nat.beq (List.length a) (List.length a)) true false) true false)
          (bc (bc (bc (Nat.beq (List.length a) (List.length a)) true false) true false)
            (bc (chk n a != chk n a)
              (.done (.v (.bool false)) [] 19)
              (bc (bc (bc (Nat.beq (List.length (invR n a)) (List.length (invR n a))) (bc (Nat.beq (List.length (invR n a)) (List.length (invR n a))) true false) false) (Nat.ble (List.length (invR n a)) 100000) false)
                (bc (!decide (invR n a = invR n a))
                  (.done (.v (.bool false)) [] 30)
                  (bc (chk n a != chk n a)
                    (.done (.v (.bool false)) [] 30)
                    (bc (bc (bc (Nat.beq (List.length a) (List.length a)) (bc (Nat.beq (List.length b) (List.length b)) true false) false) true false)
                      (bc (bc (bc (Nat.beq (List.length a) (List.length a)) (bc (Nat.beq (List.length b) (List.length b)) true false) false) true false)
                        (bc (bc (bc (Nat.beq (List.length a) (List.length a)) true false) true false)
                          (bc (bc (bc (Nat.beq (List.length a) (List.length a)) true false) true false)
                            (bc (bc (bc (Nat.beq (List.length (timL n a b)) (List.length (timL n a b))) (bc (Nat.beq (List.length (timL n a b)) (List.length (timL n a b))) true false) false) (Nat.ble (List.length (timL n a b)) 100000) false)
                              (bc (decide (timL n a b = timL n a b))
                                (bc (timE n a b == timE n a b)
                                  (bc (bc (bc (Nat.beq (List.length (redR n a)) (List.length (redR n a))) (bc (Nat.beq (List.length (redR n a)) (List.length (redR n a))) true false) false) (Nat.ble (List.length (redR n a)) 100000) false)
                                    (bc (decide (redR n a = redR n a))
                                      (bc (chk n a == chk n a)
                                        (.done (.v (.bool true)) [] 79)
                                        (.done (.v (.bool false)) [] 79))
                                      (.done (.v (.bool false)) [] 79))
                                    .bad)
                                  (.done (.v (.bool false)) [] 68))
                                (.done (.v (.bool false)) [] 68))
                              .bad)
                            .bad)
                          .bad)
                        .bad)
                      .bad)))
                .bad))
            .bad)
          .bad)
        .bad)
      .bad))) := by kernel_rfl
end Wor
theorem foldl_len (w : List Int) (out : List Int) : (w.foldl redStep out).length ≤ out.length + w.length := by
  induction w generalizing out with
  | nil => simp
  | cons x w ih =>
    rw [List.foldl_cons]
    have := ih (redStep out x)
    have := redStep_len out x
    simp; omega
theorem invR_len (n : Int) (a : List Int) : (invR n a).length ≤ 400 := by
  unfold invR
  cases h : (chk n a != 0) with
  | true => rw [bc_t]; simp
  | false =>
    rw [bc_f]
    have := chk_len (ne_f h)
    unfold inv
    simpa using this
theorem redR_len (n : Int) (a : List Int) : (redR n a).length ≤ 400 := by
  unfold redR
  cases h : (chk n a != 0) with
  | true => rw [bc_t]; simp
  | false =>
    rw [bc_f]
    have := chk_len (ne_f h)
    unfold red
    have := foldl_len a []
    simp at this
    omega
theorem timL_len (n : Int) (a b : List Int) : (timL n a b).length ≤ 400 := by
  unfold timL
  cases h : (timE n a b != 0) with
  | true => rw [bc_t]; simp
  | false =>
    rw [bc_f]
    have h0 := ne_f h
    unfold timE at h0
    cases h2 : (both n a b != 0) with
    | true => rw [h2, bc_t] at h0; rw [h0] at h2; cases h2
    | false =>
      rw [h2, bc_f] at h0
      cases h3 : decide (400 < (a.length : Int) + b.length) with
      | true => rw [h3, bc_t] at h0; cases h0
      | false =>
        have := of_decide_eq_false h3
        simp; omega
theorem words_true (n : Int) (a b : List Int) (nn mm : Bool) : ∃ k, Wor.RUN a b ⟨ent 7 [iv n, .slO 0 1 a.length nn, .slO 1 1 b.length mm], [], .nil, 2⟩ = .done (.v (.bool true)) [] k := by
  have h := Wor.law_t n a b nn mm
  have e1 : Nat.ble (invR n a).length 100000 = true := ble_of (by have := invR_len n a; omega)
  have e2 : Nat.ble (redR n a).length 100000 = true := ble_of (by have := redR_len n a; omega)
  have e3 : Nat.ble (timL n a b).length 100000 = true := ble_of (by have := timL_len n a b; omega)
  simp only [Nat.beq_refl, bc_t, bc_f, e1, e2, e3, bne_self_eq_false, beq_self_eq_true, dt rfl, Bool.not_true] at h
  rw [h]
  cases decide (1000 < Int.ofNat a.length)
  · cases decide (1000 < Int.ofNat b.length)
    · exact ⟨_, rfl⟩
    · exact ⟨_, rfl⟩
  · exact ⟨_, rfl⟩
theorem words_calls (n : Int) (a b : List Int) (nn mm : Bool) {γ : G} {w : World} {us : Array Value} (ha : ECL γ [iv n, .slO 0 1 a.length nn, .slO 1 1 b.length mm] us.toList) (hR : ROk γ (Bs.of w) (roL 3 [a, b])) (hN : ∀ i, 2 ≤ i → γ i = none) (hlt : ∀ i p, γ i = some p → p.1.k < w.heap.size) :
    Calls Try.prog 7 us w fun e w' => e = .returned (.bool true) ∧ Stays w w' := by
  obtain ⟨k, h⟩ := words_true n a b nn mm
  refine (callsB ctWOk (Wor.en n a b nn mm) ha hR hN hlt (LeadsY.refl _) h).mono ?_
  rintro e w' ⟨γ', x, rfl, p2, p3⟩
  exact ⟨by rw [ec_v p2], staysOf p3.stays⟩
end Go.Proofs.Ytfmofpdbhkoopaa.Ev
namespace Go.Proofs.Ytfmofpdbhkoopaa
open Go.ChangeShapes Go.WideShapes Go.ChangeAt Go.RowKit

theorem kept_of_stays {W W' : World} (h : Ev.Stays W W') (may : MemPlace → Prop) : W.keptBut W' may := by
  refine ⟨h.os, h.output, fun i hi => ?_⟩
  have e := h.block i hi
  rw [e]
  cases hb : W.heap[i]? with
  | none => simp
  | some o =>
    cases o <;> first | exact ⟨rfl, rfl, rfl, fun _ _ => rfl⟩ | exact .inr ⟨rfl, rfl⟩ | rfl
theorem frozen_of_stays {W W' : World} (h : Ev.Stays W W') (a : Addr) (ha : a.block < W.heap.size) : W'.frozen? a = W.frozen? a := by
  unfold World.frozen?
  rw [h.block _ ha]
section
variable {H : Type} {enc : TypeId × Value → H} {P : Program}
/-- 'post_of_same', where only the blocks that were there are as they were -/
theorem post_of_stays {f : Func} {s : ChangeSpec} {apart fresh handsOn again : Bool} {W W' : World} {args : Array Value} {v : Value} {ds gs : List (DataW H)} {before pa pv : List MemPlace}
    (hW : DataW.Whole enc P f.params.toList s.vars apart W args.toList ds gs before)
    (hres : ∀ (b : Nat) (sp : Nat → Bool) (hd : Bool), DataW.TrodAll enc P W' b sp hd f.resultTypes.toList (v.resultList f.resultTypes.size) (s.fn H (ds ++ gs)).results [])
    (hargs : ∀ sp : Nat → Bool, (∀ p ∈ before, sp p.block = true) → DataW.TrodAll enc P W' 0 sp true f.params.toList args.toList (s.fn H (ds ++ gs)).args pa)
    (hvars : ∀ sp : Nat → Bool, (∀ p ∈ before, sp p.block = true) → DataW.TrodVars enc P W' sp s.vars (s.fn H (ds ++ gs)).vars pv)
    (hps : before = pa ++ pv) (hst : Ev.Stays W W')
    (hok : ∀ (j : Nat) (t : TypeId) (r : Value), f.resultTypes[j]? = some t → (v.resultList f.resultTypes.size)[j]? = some r → Value.okWide P W' .any 0 t r) :
    s.post enc P f apart fresh handsOn again W args v W' := by
  have hk : W.keptBut W' (· ∈ before) := kept_of_stays hst _
  have hold : ∀ p ∈ before, (fun b => decide (b < W.heap.size)) p.block = true := fun p hp => by simpa using hW.lt p hp
  have hlt := fun p hp => hW.lt p hp
  refine ⟨ds, gs, before, [], pa, pv, hW, hres _ _ _, hargs _ hold, hvars _ hold, World.keptBut_mono (fun p hp => ⟨hp, ?_⟩) hk, fun _ => ?_⟩
  · rw [hps, List.mem_append] at hp
    exact Or.inr hp
  · obtain ⟨_, _, _, _, _, hz, hn⟩ := hW
    refine ⟨hok, _, _, ([] ++ pa) ++ pv, ⟨[] ++ pa, pv, trodAll_append (hargs _ (fun _ _ => rfl)) (hres _ _ _), hvars _ (fun _ _ => rfl), rfl, ?_, ?_⟩, ?_⟩
    · intro b off hp
      have hp2 : MemPlace.cell b off ∈ before := by rw [hps]; simpa using hp
      rw [frozen_of_stays hst _ (hlt _ hp2)]
      exact hz b off hp2
    · intro ha
      have := hn ha
      rw [hps] at this
      simpa using this
    · intro p hp _
      rw [hps]
      simpa using hp
end
end Go.Proofs.Ytfmofpdbhkoopaa
namespace Go.Proofs.Ytfmofpdbhkoopaa
open Go.ChangeShapes Go.WideShapes Go.ChangeAt Go.RowKit
section
variable {H : Type} {enc : TypeId × Value → H} {P : Program}
theorem same_of_stays {W W' : World} (h : Ev.Stays W W') {p : MemPlace} (hp : p.block < W.heap.size) : W.sameAt W' p := by
  cases p with
  | cell b off =>
    show W'.cell? _ = W.cell? _
    unfold World.cell?
    rw [h.block b hp]
  | map b => exact h.block b hp
theorem args_carry {W W' : World} {base : Nat} {sp : Nat → Bool} {hd : Bool} : ∀ {ts : List TypeId} {vs : List Value} {ds : List (DataW H)} {ps : List MemPlace}, DataW.TrodAll enc P W base sp hd ts vs ds ps → (∀ p ∈ ps, W.sameAt W' p) → DataW.TrodAll enc P W' base sp hd ts vs ds ps
  | [], [], [], _, h, _ => h
  | _ :: _, _ :: _, _ :: _, _, ⟨p, q, ⟨n, h⟩, hs, e⟩, k => ⟨p, q, ⟨n, DataW.trod_carry n _ _ _ h fun x hx => k x (by rw [e]; exact List.mem_append_left _ hx)⟩, args_carry hs fun x hx => k x (by rw [e]; exact List.mem_append_right _ hx), e⟩
  | [], [], _ :: _, _, h, _ => h.elim
  | [], _ :: _, _, _, h, _ => h.elim
  | _ :: _, [], _, _, h, _ => h.elim
  | _ :: _, _ :: _, [], _, h, _ => h.elim
/-- a law's closing condition: true, and its arguments read as they did -/
theorem post_law {f : Func} {s : ChangeSpec} {apart fresh handsOn again : Bool} {W W' : World} {args : Array Value} {ds : List (DataW H)} {p : List MemPlace} {bt : TypeId} {T : TypeId → Prop} (K : Kids P T) (hz : ∀ t e, T t → P.underlying t = some (.slice e) → 0 < P.cellsOf e)
    (hbt : P.underlying bt = some .bool) (hrt : f.resultTypes.toList = [bt]) (hsz : f.resultTypes.size = 1) (hvs : s.vars = []) (hfn : s.fn H (ds ++ []) = { results := [.lit (.bool true)], args := ds })
    (hpt : ∀ t ∈ f.params.toList, T t)
    (hW : DataW.Whole enc P f.params.toList s.vars apart W args.toList ds [] (p ++ [])) (hA : DataW.TrodAll enc P W 0 (fun _ => true) true f.params.toList args.toList ds p) (hst : Ev.Stays W W')
    (hok : ∀ (j : Nat) (t : TypeId) (r : Value), f.resultTypes[j]? = some t → ((Value.bool true).resultList f.resultTypes.size)[j]? = some r → Value.okWide P W' .any 0 t r) :
    s.post enc P f apart fresh handsOn again W args (.bool true) W' := by
  have hlt := fun q hq => hW.lt q hq
  refine post_of_stays (pa := p) (pv := []) hW (fun b sp hd => ?_) (fun sp hsp => ?_) (fun sp _ => ?_) rfl hst hok
  · rw [hrt, hfn, hsz]
    exact trodAll_mk1 (shut_bool hbt _)
  · rw [hfn]
    exact DataW.TrodAll.respare K hz hpt (args_carry hA fun q hq => same_of_stays hst (hlt q (by simpa using hq))) fun q hq => hsp q (by simpa using hq)
  · rw [hfn, hvs]
    rfl
/-- a list of ints that came in: where it lies, and what it holds -/
structure ArgI (W : World) (v : Value) (l : List Int) (nn : Bool) (p : Option (Ev.Pl × Nat)) : Prop where
  ec : ∀ (γ : Ev.G) (i : Nat), γ i = p → Ev.EC γ (.slO i 1 l.length nn) v
  lt : ∀ q, p = some q → q.1.k < W.heap.size
  src : l = [] ∨ ∃ (b : Ev.Pl) (m : Nat) (ca : Array Value) (fz : Nat × Nat), p = some (b, m) ∧ (∃ ty', W.heap[b.k]? = some (.cells ca ty' fz)) ∧ b.s + m ≤ ca.size ∧ l.length ≤ m ∧ (ca.toList.drop b.s).take l.length = l.map fun x => .int .i64 x
  fits : ∀ x ∈ l, -9223372036854775808 ≤ x ∧ x ≤ 9223372036854775807
theorem open_argI {W : World} {base : Nat} {t e : TypeId} {v : Value} {d : DataW H} {ps : List MemPlace} (ht : P.underlying t = some (.slice e)) (he : P.underlying e = some (.int .i64)) (hc : P.cellsOf e = 1)
    (hval : Value.okWide P W .any base t v) (h : DataW.Trod enc P W 0 (fun _ => true) true t v d ps) : ∃ l nn p, ArgI W v l nn p := by
  obtain ⟨a0, len0, cap0, rfl⟩ := okWide_slice ht hval
  obtain ⟨fuel, hf⟩ := h
  rcases open_ints ht he hc hf with ⟨hcs, _⟩ | ⟨a, len, cap, zs, hcs, _, hl, hm, hz, _, hcell, hwz⟩
  · simp [Value.cells] at hcs
    obtain ⟨rfl, rfl, rfl⟩ := hcs
    exact ⟨[], false, none, fun γ i _ => .slO i 1 0 false _ ⟨fun _ => ⟨rfl, rfl⟩, (fun e => by cases e)⟩, (fun q e => by cases e), .inl rfl, (fun x hx => by simp at hx)⟩
  · simp [Value.cells] at hcs
    obtain ⟨rfl, rfl, rfl⟩ := hcs
    have hz : zs.length = cap0 := by simpa using hz
    have hhas : W.has P .any base a e cap0 := by
      have := hval
      simp only [Value.okWide, ht, Cell.okWide, Cell.ok] at this
      exact this.2.2
    obtain ⟨_, hspot, row, cells, hshape, _⟩ := hhas
    obtain ⟨k, off, spot⟩ := a
    have hspot : spot = none := hspot
    subst hspot
    have hk : k < W.heap.size := by
      unfold World.shape? at hshape
      cases hb : W.heap[k]? with
      | none => simp [hb] at hshape
      | some o => exact (Array.getElem?_eq_some_iff.1 hb).1
    have hlt : (zs.take len0).length = len0 := by simp; omega
    have fits : ∀ x ∈ zs.take len0, -9223372036854775808 ≤ x ∧ x ≤ 9223372036854775807 := fun x hx => by
      have := hwz x (List.mem_of_mem_take hx)
      simp [Lit.wf, IntKind.min, IntKind.max, IntKind.signed, IntKind.bits] at this
      exact ⟨by omega, by omega⟩
    refine ⟨zs.take len0, true, some (⟨k, off⟩, cap0), fun γ i hγ => ?_, fun q e => ?_, ?_, fits⟩
    · rw [hlt]
      exact .slO i 1 len0 true _ ⟨(fun e => by cases e), fun _ => ⟨⟨k, off⟩, cap0, cap0, hγ, rfl, hl, hm, by omega⟩⟩
    · injection e with e; subst e; exact hk
    · by_cases h0 : len0 = 0
      · subst h0; exact .inl rfl
      right
      have hc0 := hcell 0 (by omega)
      have hc0 : W.cell? ⟨k, off + 0, none⟩ = some (.int .i64 (zs.getD 0 0)) := hc0
      have hbl : ∃ ca ty fz, W.heap[k]? = some (.cells ca ty fz) := by
        unfold World.cell? at hc0
        split at hc0
        · rename_i hb
          exact ⟨_, _, _, hb⟩
        · cases hc0
      obtain ⟨ca, ty, fz, hb⟩ := hbl
      have hcs : ∀ i, i < zs.length → ca[off + i]? = some (.int .i64 (zs.getD i 0)) := fun i hi => by
        have := hcell i hi
        rw [show (Addr.add ⟨k, off, none⟩ i) = ⟨k, off + i, none⟩ by simp [Addr.add]] at this
        unfold World.cell? at this
        simpa [hb] using this
      have hsz : off + cap0 ≤ ca.size := by
        have := hcs (cap0 - 1) (by omega)
        have := (Array.getElem?_eq_some_iff.1 this).1
        omega
      refine ⟨⟨k, off⟩, cap0, ca, fz, rfl, ⟨ty, hb⟩, hsz, by rw [hlt]; exact hl, ?_⟩
      rw [hlt]
      apply List.ext_getElem?
      intro j
      rw [List.getElem?_take, List.getElem?_map, List.getElem?_take]
      split
      · rename_i hj
        rw [List.getElem?_drop, Array.getElem?_toList, hcs j (by omega), List.getElem?_eq_getElem (show j < zs.length by omega)]
        simp [show j < zs.length by omega]
      · rfl
theorem ArgI.ro {W : World} {v : Value} {l : List Int} {nn : Bool} {p : Option (Ev.Pl × Nat)} (h : ArgI W v l nn p) {γ : Ev.G} {i : Nat} (hγ : γ i = p) : (Ev.SyC.ints .i64 l).enc = [] ∨ ∃ (b : Ev.Pl) (m : Nat) (ca : Array Value) (fz : Nat × Nat), γ i = some (b, m) ∧ (Ev.Bs.of W).F b.k ∧ (∃ ty', (Ev.Bs.of W).w.heap[b.k]? = some (.cells ca ty' fz)) ∧ b.s + m ≤ ca.size ∧ (Ev.SyC.ints .i64 l).enc.length ≤ m ∧ Ev.ECL γ (Ev.SyC.ints .i64 l).enc ((ca.toList.drop b.s).take (Ev.SyC.ints .i64 l).enc.length) := by
  rcases h.src with rfl | ⟨b, m, ca, fz, rfl, h1, h2, h3, h4⟩
  · exact .inl rfl
  · have hl : (Ev.SyC.ints .i64 l).enc.length = l.length := by show (l.map _).length = _; simp
    refine .inr ⟨b, m, ca, fz, hγ, h.lt _ rfl, h1, h2, by rw [hl]; exact h3, ?_⟩
    rw [hl, h4]
    have := Ev.ECL.vals γ (l.map fun x => Value.int .i64 x)
    rw [List.map_map] at this
    exact this
end
end Go.Proofs.Ytfmofpdbhkoopaa
namespace Go.Proofs.Ytfmofpdbhkoopaa
open Go.ChangeShapes Go.WideShapes Go.ChangeAt Go.RowKit
theorem knobL : ownKnob Try.prog.godebug = none := by kernel_rfl
theorem kidsL : Kids Try.prog (· < Try.prog.types.size) := kids_rows (by kernel_rfl) (by kernel_rfl)
theorem fullL : ∀ t e, t < Try.prog.types.size → Try.prog.underlying t = some (.slice e) → 0 < Try.prog.cellsOf e := slices_full_of Try.prog (by kernel_rfl)
set_option maxRecDepth 100000 in
theorem liftedBraidsWords (os : Os) (started : os.Started) (H : Type) (enc : TypeId × Value → H) :
    ReturnsInHanded {} Try.checked os 7 .any (Rows.braidsWordsSpec.pre6 enc Try.prog Try.f7 Rows.braidsWordsRow.domain false) (Rows.braidsWordsSpec.post enc Try.prog Try.f7 false true false false) := by
  refine returnsInHanded_of_change (C := Try.checked) knobL started (by kernel_rfl) Try.func7
    (ChangeSpec.witness6 (enc := enc) (C := Try.checked) false ⟨#[], #[.int .i64 0, .slice none 0 0, .slice none 0 0], []⟩ 8 (by kernel_rfl) (by kernel_rfl) (by kernel_rfl) (by kernel_rfl)) ?_
  intro W base args ds gs before hval0 hW hcnd _
  have hval : ∀ (j : Nat) t v, Try.f7.params[j]? = some t → args[j]? = some v → Value.okWide Try.prog W .any base t v := hval0
  have hW' := hW
  obtain ⟨p, q, hA0, hV, rfl, hfz, hnd⟩ := hW
  have hA : DataW.TrodAll enc Try.prog W 0 (fun _ => true) true Try.f7.params.toList args.toList ds p := hA0
  have hAk := hA
  rw [Try.params7] at hA hval
  obtain ⟨rfl, rfl⟩ := trodVars_none hV
  obtain ⟨v0, v1, v2, d0, d1, d2, p0, p1, p2, rfl, rfl, rfl, h0, h1, h2⟩ := trodAll_three hA
  obtain ⟨n, rfl, rfl, rfl, wn⟩ := open_int Try.underlying3 (hval 0 3 v0 rfl rfl) h0
  obtain ⟨a, nn, q1, g1⟩ := open_argI Try.underlying22 Try.underlying3 (by kernel_rfl) (hval 1 22 v1 rfl rfl) h1
  obtain ⟨b, mm, q2, g2⟩ := open_argI Try.underlying22 Try.underlying3 (by kernel_rfl) (hval 2 22 v2 rfl rfl) h2
  clear hA0 hval0
  let γ : Ev.G := fun i => match i with
    | 0 => q1
    | 1 => q2
    | _ => none
  refine (Ev.words_calls n a b nn mm (γ := γ) (.cons (.v _) (.cons (g1.ec γ 0 rfl) (.cons (g2.ec γ 1 rfl) (.nil _)))) (fun i ty c hi => ?_) (fun i hi => ?_) (fun i p hp => ?_)).mono fun e W' ⟨he, hg⟩ => ?_
  · obtain ⟨l, e1, e2⟩ := Ev.roL_get hi
    injection e2 with e2 e3; subst e2; subst e3
    match i, e1 with
    | 0, e1 => injection e1 with e1; subst e1; exact g1.ro rfl
    | 1, e1 => injection e1 with e1; subst e1; exact g2.ro rfl
  · match i, hi with
    | i + 2, _ => rfl
  · match i, hp with
    | 0, hp => exact g1.lt p hp
    | 1, hp => exact g2.lt p hp
  · subst he
    exact ⟨_, rfl, post_law kidsL fullL Try.underlying4 (by kernel_rfl) (by kernel_rfl) rfl rfl (by rw [Try.params7]; decide) hW' hAk hg (ok_one (by kernel_rfl) rfl (okWide_bool_mk Try.underlying4 _))⟩
theorem braidsWords_holds : Rows.BraidsWordsSaid :=
  OpenClaim.holds_of_wide 7 Try.f7 rfl rfl rfl rfl rfl rfl rfl ⟨rfl, rfl, rfl, rfl, rfl⟩ rfl rfl rfl rfl rfl (by kernel_rfl) Try.func7 (by kernel_rfl)
    (of_decide_eq_true (by kernel_rfl)) (by unfold Func.isWrapper; first | (rw [if_pos (by decide +kernel)]; kernel_rfl) | (rw [if_neg (by decide +kernel)]; exact ⟨rfl, rfl⟩))
    (fun os started H enc _ => liftedBraidsWords os started H enc)
end Go.Proofs.Ytfmofpdbhkoopaa
