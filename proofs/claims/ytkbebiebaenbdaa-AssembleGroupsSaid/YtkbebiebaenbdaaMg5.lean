/- Laid together: What all functions of a seat share: runs, leads, calls. What laws share: from a call's end to the statement's; closed calls that return true. References of the stitches and the sheets: index, Check, Check. Contracts of strings.Repeat, strings.Join over data. No program is named. The program's stitches and sheets: Check, Check. Plain facts on sheets that are checked. Reference of the assembling: Same, place, Beside, Below, Times. The reference's Cut: Touch, Kept, Cut. Plain law: the order from one list to another one, by taking always the first element that is ready. No program is named. The reference's ready, match, Same of the traces. Placing: words exchanged, flips, mirrors, places: the reference's side. The program's assembling: cmp.Or, slices.Concat, changed, Beside, Below. The program's words exchanged; turned, Flip, Mirror, Place. Plain facts on exchanged and flipped sheets: the order from one to the other, and that they are valid. The program's assembling: slices.Repeat, Times. awake, of the assembling: it returns true, and leaves all that was there alone. From a call that leaves all that was there alone to a statement's closing condition. No program is named. From calls with arguments that are only read to a statement's closing condition; data that came in, whatever its shape. No program is named. AssembleExchange: the law, by contracts. -/
import Derived.ProofKit
import Derived.ReadAgain
import Derived.OpenShut
import Derived.Test.YtkbebiebaenbdaaMg4
set_option linter.unusedSimpArgs false
set_option linter.unusedVariables false
namespace Go.Proofs.Ytkbebiebaenbdaa.Ev
open Go.Proofs
noncomputable def dr4 := drD Try.prog ft 16 4
noncomputable def sub4 : Sub := exSub (fun f => exStep Try.prog ft f (drD Try.prog ft 16 3)) ft 16
theorem mix : Try.prog.follows .mixedOrders = true := by kernel_rfl
theorem dr4Ok : DrOk Try.prog dr4 := drD_ok mix ftOk 16 4
theorem sub4Ok : LoudOk Try.prog sub4 := loudOk ftOk (fun fid cs w0 γ s m hM => exStep_ok ftOk (drD_ok mix ftOk 16 3) hM) 16
theorem bc_t {α : Type} (x y : α) : bc true x y = x := rfl
theorem bc_f {α : Type} (x y : α) : bc false x y = y := rfl
theorem nn_ok (b : Bool) : bc b true (bc b false true) = true := by cases b <;> rfl
theorem dt {p : Prop} [Decidable p] (h : p) : decide p = true := decide_eq_true h
theorem df {p : Prop} [Decidable p] (h : ¬ p) : decide p = false := decide_eq_false h
theorem bltD {a b : Nat} (h : a < b) : Nat.blt a b = true := by unfold Nat.blt; exact Nat.ble_eq_true_of_le h
theorem bltN {a b : Nat} (h : ¬ a < b) : Nat.blt a b = false := by
  cases e : Nat.blt a b with
  | false => rfl
  | true => exact absurd (blt_lt e) h
theorem ble_of {a b : Nat} (h : a ≤ b) : Nat.ble a b = true := Nat.ble_eq_true_of_le h
theorem bleN {a b : Nat} (h : ¬ a ≤ b) : Nat.ble a b = false := by
  cases e : Nat.ble a b with
  | false => rfl
  | true => exact absurd (Nat.le_of_ble_eq_true e) h
theorem beqD {a b : Nat} (h : a = b) : Nat.beq a b = true := by subst h; exact Nat.beq_refl a
theorem ofn (n : Nat) : Int.ofNat n = (n : Int) := rfl
theorem to_nat (i : Nat) : Int.toNat (i : Int) = i := Int.toNat_natCast i
theorem wrap_in (x : Int) (h1 : -4611686018427387904 ≤ x) (h2 : x < 4611686018427387904) : IntKind.i64.wrap x = x := IntWalk.i64_in _ (by omega)
theorem getD_at {α : Type} {l : List α} {d : α} {i : Nat} (h : i < l.length) : l.getD i d = l[i] := by rw [List.getD_eq_getElem?_getD, List.getElem?_eq_getElem h]; rfl

noncomputable def ent (f : FuncId) (args : List EV) : EF := Option.rec ⟨f, 0, .nil, [], [], none, false⟩ (fun e => e) (exEnter ft f args)
noncomputable def st0 (f : FuncId) (args : List EV) : ES := ⟨ent f args, [], .nil, 0⟩

noncomputable abbrev iv (n : Int) : EV := .v (.int .i64 n)
noncomputable abbrev bv (b : Bool) : EV := .v (.bool b)
noncomputable abbrev sv (s : ByteArray) : EV := .v (.string s)
noncomputable abbrev il (l : List Int) : EV := .lst (.ints .i64 l)

noncomputable def RZs (f : FuncId) (ct : Tr ZCC) (ps : PLs) (lk : List Nat) (own : Bool) (s : ES) : ZF := runZ (stepZ Try.prog ft f dr4 sub4 ct) (atPs ps) (endP lk ps own) 600 s

noncomputable abbrev RZ (f : FuncId) (ct : Tr ZCC) (p : ES → Bool) (lk : List Nat) (ls : List SZ) (own : Bool) (s : ES) : ZF := RZs f ct [(p, ls)] lk own s
theorem leadsZ {f : FuncId} {ct : Tr ZCC} (hct : ZCtsOk Try.prog ct) {ps : PLs} {lk : List Nat} {own : Bool} {s : ES} {r : NS} (h : RZs f ct ps lk own s = .at r) : LeadsZ Try.prog s (stOf r) :=
  leadsF (f := f) mix ftOk dr4Ok sub4Ok hct endP_ok h
theorem callsZ {γ : G} {w : World} {f : FuncId} {ct : Tr ZCC} (hct : ZCtsOk Try.prog ct) {ps : PLs} {lk : List Nat} {own : Bool} {s : ES} {args : List EV} {us : Array Value} {a : EV} {K : List (Nat × EK)} {n' : Nat} (he : (exEnter ft f args).isSome = true) (hargs : ECL γ args us.toList) (hN : ∀ i, γ i = none) (hfz : FzAt γ w)
    (hl : LeadsZ Try.prog (st0 f args) s) (hd : RZs f ct ps lk own s = .done a K n') :
    Calls Try.prog f us w fun e w' => ∃ γ' x, e = .returned x ∧ EC γ' a x ∧ HR γ' (Bs.ofG w γ) (mkT K) n' w' := by
  obtain ⟨e, he⟩ := Option.isSome_iff_exists.1 he
  have : ent f args = e := by unfold ent; rw [he]
  unfold st0 at hl
  rw [this] at hl
  exact callsF mix ftOk dr4Ok sub4Ok hct endP_ok he hargs hN hfz hl hd

def Weak (a a' : EV) : Prop := ∀ γ x, EC γ a x → EC γ a' x
theorem Weak.refl (a : EV) : Weak a a := fun _ _ h => h
theorem Weak.nil (sh : List Sh) : Weak (.v (.slice none 0 0)) (.lst (.recs sh [])) := fun γ x h => by
  rw [ec_v h]
  exact .lst _ _ (.empty _ _ none 0 rfl (Nat.zero_le _) fun _ => rfl)
theorem Weak.nilI (k : IntKind) : Weak (.v (.slice none 0 0)) (.lst (.ints k [])) := fun γ x h => by
  rw [ec_v h]
  exact .lst _ _ (.empty _ _ none 0 rfl (Nat.zero_le _) fun _ => rfl)
inductive WeakL : List EV → List EV → Prop
  | nil : WeakL [] []
  | cons {a b : EV} {l r : List EV} (h : Weak a b) (t : WeakL l r) : WeakL (a :: l) (b :: r)
theorem WeakL.ok {γ : G} : ∀ {l r : List EV} {vs : List Value}, WeakL l r → ECL γ l vs → ECL γ r vs
  | _, _, vs, .nil, h => h
  | _, _, vs, .cons h t, k => by
    obtain ⟨x, ys, rfl, h1, h2⟩ := ECL.inv k
    exact ECL.cons (h _ _ h1) (t.ok h2)
theorem Weak.tup {l r : List EV} (h : WeakL l r) : Weak (.tup l) (.tup r) := fun γ x k => by
  cases k with
  | tup _ vs h1 h2 => have := h.ok (γ := γ) ⟨h1, h2⟩; exact .tup _ vs this.1 this.2
theorem Weak.agg {l r : List EV} (h : WeakL l r) : Weak (.agg l) (.agg r) := fun γ x k => by
  cases k with
  | agg _ vs h1 h2 => have := h.ok (γ := γ) ⟨h1, h2⟩; exact .agg _ vs this.1 this.2
theorem Weak.aggV {vs : List Value} {r : List EV} (h : WeakL (vs.map .v) r) : Weak (.v (.agg (Array.mk vs))) (.agg r) := fun γ x k => by
  rw [ec_v k]
  have := h.ok (γ := γ) (ECL.vals γ vs)
  exact .agg _ vs this.1 this.2
theorem Weak.trans {a b c : EV} (h : Weak a b) (k : Weak b c) : Weak a c := fun γ x e => k γ x (h γ x e)

def EndZ (f : FuncId) (ct : Tr ZCC) (own : Bool) (s : ES) (a : EV) (K : List (Nat × EK)) (n : Nat) : Prop := ∃ ps lk s' a', LeadsZ Try.prog s s' ∧ RZs f ct ps lk own s' = .done a' K n ∧ Weak a' a
theorem EndZ.done {f : FuncId} {ct : Tr ZCC} {own : Bool} {s : ES} {a : EV} {K : List (Nat × EK)} {n : Nat} {ps : PLs} {lk : List Nat} (h : RZs f ct ps lk own s = .done a K n) : EndZ f ct own s a K n := ⟨ps, lk, s, a, LeadsZ.refl s, h, Weak.refl a⟩
theorem EndZ.weak {f : FuncId} {ct : Tr ZCC} {own : Bool} {s : ES} {a b : EV} {K : List (Nat × EK)} {n : Nat} (h : EndZ f ct own s a K n) (k : Weak a b) : EndZ f ct own s b K n := by
  obtain ⟨ps, lk, t, a', h1, h2, h3⟩ := h
  exact ⟨ps, lk, t, a', h1, h2, h3.trans k⟩
theorem EndZ.lead {f : FuncId} {ct : Tr ZCC} {own : Bool} {s s' : ES} {a : EV} {K : List (Nat × EK)} {n : Nat} (h : LeadsZ Try.prog s s') (k : EndZ f ct own s' a K n) : EndZ f ct own s a K n := by
  obtain ⟨ps, lk, t, a', h1, h2, h3⟩ := k
  exact ⟨ps, lk, t, a', h.trans h1, h2, h3⟩
theorem EndZ.at {f : FuncId} {ct : Tr ZCC} (hct : ZCtsOk Try.prog ct) {own own' : Bool} {s : ES} {r : NS} {a : EV} {K : List (Nat × EK)} {n : Nat} {ps : PLs} {lk : List Nat} (h : RZs f ct ps lk own' s = .at r) (k : EndZ f ct own (stOf r) a K n) : EndZ f ct own s a K n := k.lead (leadsZ hct h)
theorem EndZ.calls {γ : G} {w : World} {f : FuncId} {ct : Tr ZCC} {own : Bool} {args : List EV} {a : EV} {K : List (Nat × EK)} {n' : Nat} (h : EndZ f ct own (st0 f args) a K n') (hct : ZCtsOk Try.prog ct) {us : Array Value} (he : (exEnter ft f args).isSome = true) (hargs : ECL γ args us.toList) (hN : ∀ i, γ i = none) (hfz : FzAt γ w) :
    Calls Try.prog f us w fun e w' => ∃ γ' x, e = .returned x ∧ EC γ' a x ∧ HR γ' (Bs.ofG w γ) (mkT K) n' w' := by
  obtain ⟨ps, lk, t, a', h1, h2, h3⟩ := h
  refine (callsZ hct he hargs hN hfz h1 h2).mono fun e w' ⟨γ', x, k1, k2, k3⟩ => ⟨γ', x, k1, h3 γ' x k2, k3⟩

noncomputable def st0m (f : FuncId) (args : List EV) (K0 : List (Nat × EK)) (m : Nat) : ES := ⟨ent f args, [], mkT K0, m⟩

noncomputable def RMs (k : Nat) (f : FuncId) (ct : Tr ZCC) (ps : PLs) (lk : List Nat) (nl : NLs) (s : ES) : ZF := runZ (stepZ Try.prog ft f dr4 sub4 ct) (atPs ps) (endM k lk ps nl) 600 s
theorem leadsMZ {k : Nat} {f : FuncId} {ct : Tr ZCC} (hct : ZCtsOk Try.prog ct) {ps : PLs} {lk : List Nat} {s : ES} {r : NS} {nl : NLs} (h : RMs k f ct ps lk nl s = .at r) : LeadsM Try.prog k s (stOf r) :=
  leadsM (f := f) mix ftOk dr4Ok sub4Ok hct h
def EndM (k : Nat) (f : FuncId) (ct : Tr ZCC) (s : ES) (a : EV) (K : List (Nat × EK)) (n : Nat) : Prop := ∃ ps lk nl s', LeadsM Try.prog k s s' ∧ RMs k f ct ps lk nl s' = .done a K n
theorem EndM.done {k : Nat} {f : FuncId} {ct : Tr ZCC} {s : ES} {a : EV} {K : List (Nat × EK)} {n : Nat} {ps : PLs} {lk : List Nat} {nl : NLs} (h : RMs k f ct ps lk nl s = .done a K n) : EndM k f ct s a K n := ⟨ps, lk, nl, s, LeadsM.refl k s, h⟩
theorem EndM.lead {k : Nat} {f : FuncId} {ct : Tr ZCC} {s s' : ES} {a : EV} {K : List (Nat × EK)} {n : Nat} (h : LeadsM Try.prog k s s') (g : EndM k f ct s' a K n) : EndM k f ct s a K n := by
  obtain ⟨ps, lk, nl, t, h1, h2⟩ := g
  exact ⟨ps, lk, nl, t, h.trans h1, h2⟩
theorem EndM.at {k : Nat} {f : FuncId} {ct : Tr ZCC} (hct : ZCtsOk Try.prog ct) {s : ES} {r : NS} {a : EV} {K : List (Nat × EK)} {n : Nat} {ps : PLs} {lk : List Nat} {nl : NLs} (h : RMs k f ct ps lk nl s = .at r) (g : EndM k f ct (stOf r) a K n) : EndM k f ct s a K n := g.lead (leadsMZ hct h)
theorem EndM.calls {k : Nat} {γ : G} {w0 : Bs} {w : World} {f : FuncId} {ct : Tr ZCC} {args : List EV} {K0 : List (Nat × EK)} {m0 : Nat} {a : EV} {K : List (Nat × EK)} {n' : Nat} (h : EndM k f ct (st0m f args K0 m0) a K n') (hct : ZCtsOk Try.prog ct) {us : Array Value} (he : (exEnter ft f args).isSome = true) (hres : ∀ i, ¬ w0.res i) (hargs : ECL γ args us.toList) (hH : HR γ w0 (mkT K0) m0 w) :
    Calls Try.prog f us w fun e w' => ∃ γ' x, e = .returned x ∧ EC γ' a x ∧ HR γ' w0 (mkT K) n' w' ∧ ∀ j p, j < k → γ j = some p → γ' j = some p := by
  obtain ⟨ps, lk, nl, t, h1, h2⟩ := h
  obtain ⟨e, he⟩ := Option.isSome_iff_exists.1 he
  have : ent f args = e := by unfold ent; rw [he]
  unfold st0m at h1
  rw [this] at h1
  exact callsM mix ftOk dr4Ok sub4Ok hct he hres hargs hH h1 h2
theorem bc_same {α : Type} (b : Bool) (x : α) : bc b x x = x := by cases b <;> rfl

noncomputable def ZMT.or (a b : ZMT) : ZMT := fun ax K m => match a ax K m with
  | some r => some r
  | none => b ax K m
theorem ZMtOk.or {P : Program} {g : FuncId} {a b : ZMT} (ha : ZMtOk P g a) (hb : ZMtOk P g b) : ZMtOk P g (a.or b) := fun γ w0 w us ax K0 m r hs => by
  unfold ZMT.or at hs
  split at hs
  · rename_i r' hr
    injection hs with hs; subst hs
    exact ha γ w0 w us ax K0 m _ hr
  · exact hb γ w0 w us ax K0 m r hs
noncomputable def ZCT.or (a b : ZCT) : ZCT := fun ax => match a ax with
  | some r => some r
  | none => b ax
theorem ZCtOk.or {P : Program} {g : FuncId} {a b : ZCT} (ha : ZCtOk P g a) (hb : ZCtOk P g b) : ZCtOk P g (a.or b) := fun γ w us ax r hs => by
  unfold ZCT.or at hs
  split at hs
  · rename_i r' hr
    injection hs with hs; subst hs
    exact ha γ w us ax _ hr
  · exact hb γ w us ax r hs
end Go.Proofs.Ytkbebiebaenbdaa.Ev
namespace Go.Proofs.Ytkbebiebaenbdaa.Ev
open Go.Proofs
theorem closed_ct {P : Program} {f : FuncId} {γ : G} {w : World} {us : Array Value} (h : Calls P f #[] w fun e w' => e = .returned (.bool true) ∧ Stays w w') (hax : ECL γ [] us.toList) (hfz : FzAt γ w) : Calls P f us w fun e w' => ∃ γ' x, e = .returned x ∧ EC γ' (bv true) x ∧ HR γ' (Bs.ofG w γ) (mkT (zseqs [])) 0 w' := by
  have hu : us = #[] := by
    have := hax.1
    apply Array.toList_inj.1
    exact List.eq_nil_of_length_eq_zero this.symm
  subst hu
  refine h.mono ?_
  rintro e w' ⟨rfl, hs⟩
  refine ⟨⟨fun _ => none, γ.fz⟩, _, rfl, .v _, ⟨(fun i k hk => by cases hk), (fun i j ki kj hi => by cases hi), (fun _ _ => rfl), (fun i hi => hi.elim), (fun i p hp => by cases hp), ⟨hs.os, hs.tape, hs.output, hs.size, hs.block⟩, ⟨fun k a hk => ?_, fun k hk => hk⟩⟩⟩
  obtain ⟨ty, fz, h1⟩ := hfz k a hk
  have hk2 := (Array.getElem?_eq_some_iff.1 h1).1
  exact ⟨⟨ty, fz, (hs.block k hk2).trans h1⟩, .inl ⟨a, hk⟩, fun i ki b m hi => by cases hi⟩
noncomputable def spTrue : ZCT := fun ax => match ax with
  | [] => some ⟨true, bv true, [], 0⟩
  | _ => none
theorem spTrue_ok {P : Program} {f : FuncId} (h : ∀ w, Calls P f #[] w fun e w' => e = .returned (.bool true) ∧ Stays w w') : ZCtOk P f spTrue := fun γ w us ax r hs hc hax hN hfz => by
  unfold spTrue at hs
  split at hs
  case h_2 => cases hs
  obtain ⟨rfl⟩ := Option.some.inj hs
  exact closed_ct (h w) hax hfz
theorem law_of {P : Program} {f : FuncId} {γ : G} {w : World} {us : Array Value} {K : List (Nat × EK)} {n : Nat} (h : Calls P f us w fun e w' => ∃ γ' x, e = .returned x ∧ EC γ' (bv true) x ∧ HR γ' (Bs.ofG w γ) (mkT K) n w') : Calls P f us w fun e w' => e = .returned (.bool true) ∧ Stays w w' := h.mono fun e w' ⟨γ', x, h1, h2, h3⟩ => ⟨by rw [h1, ec_v h2], staysOf h3.stays⟩
end Go.Proofs.Ytkbebiebaenbdaa.Ev
namespace Go.Proofs.Ytkbebiebaenbdaa.Ev
open Go.Proofs
noncomputable def shW : List Sh := [.int .i64, .int .i64, .str]
noncomputable abbrev wl (l : List (List U)) : EV := .lst (.recs shW l)
noncomputable abbrev shE (p : Int) (l : List (List U)) (e : Int) : EV := .tup [.agg [iv p, wl l], iv e]
noncomputable def shN (e : Int) : EV := (EV.tup [(EV.v (Value.agg (Array.mk [(Value.int IntKind.i64 (0)), (Value.slice Option.none 0 0)]))), (EV.v (Value.int IntKind.i64 e))])
theorem shN_weak (e : Int) : Weak (shN e) (shE 0 [] e) := .tup (.cons (.aggV (.cons (Weak.refl _) (.cons (Weak.nil _) .nil))) (.cons (Weak.refl _) .nil))
noncomputable abbrev bLet : ByteArray := ByteArray.mk #[67, 84, 76, 82, 80, 99, 116, 108, 114]
theorem bc_bc {α : Type} (a b c : Bool) (x y : α) : bc (bc a b c) x y = bc a (bc b x y) (bc c x y) := by cases a <;> rfl

noncomputable def rK (r : List U) : Int := U.int (r.getD 0 (.i 0))
noncomputable def rA (r : List U) : Int := U.int (r.getD 1 (.i 0))
noncomputable def rW (r : List U) : ByteArray := U.str (r.getD 2 (.i 0))
theorem fK0 (r : List U) : U.int (r.getD 0 (.i 0)) = rK r := rfl
theorem fA0 (r : List U) : U.int (r.getD (Nat.succ 0) (.i 0)) = rA r := rfl
theorem fA1 (r : List U) : U.int (r.getD (Nat.add 0 1) (.i 0)) = rA r := rfl
theorem fA2 (r : List U) : U.int (r.getD 1 (.i 0)) = rA r := rfl
theorem fW0 (r : List U) : U.str (r.getD (Nat.succ (Nat.succ 0)) (.i 0)) = rW r := rfl
theorem fW1 (r : List U) : U.str (r.getD (Nat.add 0 2) (.i 0)) = rW r := rfl
theorem fW2 (r : List U) : U.str (r.getD 2 (.i 0)) = rW r := rfl
theorem fK1 (r : List U) : U.int (r.getD (Nat.add 0 0) (.i 0)) = rK r := rfl

noncomputable def idxB (s : ByteArray) (c : Int) (i : Nat) : Nat → Int
  | 0 => -1
  | k + 1 => bc (byteAt s i == c) (i : Int) (idxB s c (i + 1) k)
noncomputable def idx (s : ByteArray) (c : Int) : Int := idxB s c 0 s.size
namespace RIdx
noncomputable def RUN (s : ES) : ZF := RZ 102 .nil (atS 0 102 2) [] [[(0,none),(1,none),(5,none)]] false s

noncomputable def sI (s : ByteArray) (c i : Int) : NS := ⟨[⟨102, 18, [(0, (EV.v (Value.string (s)))), (1, (EV.v (Value.int IntKind.u8 (c)))), (5, iv i)], [.it (.code (nav [1, 0, 1, 0, 0, 0] (bodyOf Try.f102))), .it (.code (nav [1, 0, 1, 0, 0, 1] (bodyOf Try.f102))), .it (.inLoop (nav [1, 0, 1, 0, 0] (bodyOf Try.f102))), .it (.inBlock 0), .it (.code (nav [1, 1] (bodyOf Try.f102)))], [], Option.none⟩], [], 0⟩
theorem in_t (s : ByteArray) (c : Int) : RUN (st0 102 [sv s, .v (.int .u8 c)]) = (.at (sI (s) (c) ((0 : Int)))) := by kernel_rfl
theorem step_t (s : ByteArray) (c i : Int) : RUN (stOf (sI s c i)) = (bc (decide (i < Int.ofNat (ByteArray.size s))) (bc (bc (bc (decide ((0 : Int) ≤ i)) (Nat.blt (Int.toNat i) (ByteArray.size s)) false) true false) (bc (byteAt s (Int.toNat i) == c) (.done (EV.v (Value.int IntKind.i64 (i))) [] 0) (.at (sI (s) (c) (IntKind.wrap IntKind.i64 (i + (1 : Int)))))) .bad) (.done (EV.v (Value.int IntKind.i64 (-1))) [] 0)) := by kernel_rfl
theorem step {s : ByteArray} {c : Int} {i : Nat} (hi : i < s.size) (hs : s.size ≤ 100000) : RUN (stOf (sI s c i)) = bc (byteAt s i == c) (.done (iv i) [] 0) (.at (sI s c (i + 1 : Nat))) := by
  rw [step_t]
  simp (disch := omega) only [Nat.add_eq, eqSy_self, eqN_self, bc_same, List.length_cons, ofn, wrap_in, dt, df, bltD, bltN, ble_of, bleN, beqD, bc_t, bc_f, nn_ok, Nat.zero_add, to_nat, Int.zero_add, Int.sub_zero, Int.sub_self, Int.cast_ofNat_Int, Int.natCast_zero, Int.toNat_zero, List.take_zero, List.nil_append, List.length_append, List.length_nil]
  rfl
theorem last {s : ByteArray} {c : Int} {i : Nat} (hi : s.size ≤ i) : RUN (stOf (sI s c i)) = .done (iv (-1)) [] 0 := by
  rw [step_t]
  simp (disch := omega) only [Nat.add_eq, eqSy_self, eqN_self, bc_same, List.length_cons, ofn, wrap_in, dt, df, bltD, bltN, ble_of, bleN, beqD, bc_t, bc_f, nn_ok, Nat.zero_add, to_nat, Int.zero_add, Int.sub_zero, Int.sub_self, Int.cast_ofNat_Int, Int.natCast_zero, Int.toNat_zero, List.take_zero, List.nil_append, List.length_append, List.length_nil]
theorem loop {s : ByteArray} {c : Int} (hs : s.size ≤ 100000) : ∀ (k i : Nat), i + k = s.size → EndZ 102 .nil false (stOf (sI s c i)) (iv (idxB s c i k)) [] 0
  | 0, i, h => .done (last (by omega))
  | k + 1, i, h => by
    have := step (c := c) (show i < s.size by omega) hs
    unfold idxB
    cases hb : byteAt s i == c <;> rw [hb] at this
    · exact .at (.nil _) this (loop hs k (i + 1) (by omega))
    · exact .done this
end RIdx
noncomputable def spIdx : ZCT := fun ax => match ax with
  | [.v (.string s), .v (.int .u8 c)] => some ⟨decide (s.size ≤ 100000), iv (idx s c), [], 0⟩
  | _ => none
theorem spIdx_ok : ZCtOk Try.prog 102 spIdx := fun γ w us ax r hs hc hax hN hfz => by
  unfold spIdx at hs
  split at hs
  case h_2 => cases hs
  rename_i s c
  obtain ⟨rfl⟩ := Option.some.inj hs
  have hc_0 : decide (s.size ≤ 100000) = true := hc
  have hc := of_decide_eq_true hc_0
  exact EndZ.calls (.at (.nil _) (RIdx.in_t s c) (RIdx.loop hc s.size 0 (by omega))) (.nil _) (by kernel_rfl) hax hN hfz
noncomputable def ctI : Tr ZCC := Tr.nil.put 102 (some (dC spIdx))
theorem ctI_ok : ZCtsOk Try.prog ctI := (ZCtsOk.nil _).add rfl spIdx_ok

noncomputable def badF (w : ByteArray) (i : Nat) : Nat → Bool
  | 0 => false
  | k + 1 => bc (decide (idx bLet (byteAt w i) < 0)) true (badF w (i + 1) k)
noncomputable def chk3 (w : ByteArray) : Int := bc (decide (16 < (w.size : Int))) 3 (bc (badF w 0 w.size) 6 0)
namespace RChk3
noncomputable def RUN (s : ES) : ZF := RZ 77 ctI (atS 0 77 4) [] [[(0,none),(3,none)]] false s

noncomputable def sC (s : ByteArray) (i : Int) : NS := ⟨[⟨77, 18, [(0, (EV.v (Value.string (s)))), (3, iv i)], [.it (.code (nav [1, 1, 0, 1, 0, 0, 0] (bodyOf Try.f77))), .it (.code (nav [1, 1, 0, 1, 0, 0, 1] (bodyOf Try.f77))), .it (.inLoop (nav [1, 1, 0, 1, 0, 0] (bodyOf Try.f77))), .it (.inBlock 0), .it (.code (nav [1, 1, 1] (bodyOf Try.f77)))], [], Option.none⟩], [], 0⟩
theorem in_t (s : ByteArray) : RUN (st0 77 [sv s]) = (bc (decide ((16 : Int) < Int.ofNat (ByteArray.size s))) (.done (EV.v (Value.int IntKind.i64 (3))) [] 0) (.at (sC (s) ((0 : Int))))) := by kernel_rfl
theorem step_t (s : ByteArray) (i : Int) : RUN (stOf (sC s i)) = (bc (decide (i < Int.ofNat (ByteArray.size s))) (bc (bc (bc (decide ((0 : Int) ≤ i)) (Nat.blt (Int.toNat i) (ByteArray.size s)) false) true false) (bc (decide (idx { data := #[(67 : UInt8), (84 : UInt8), (76 : UInt8), (82 : UInt8), (80 : UInt8), (99 : UInt8), (116 : UInt8), (108 : UInt8), (114 : UInt8)] } (byteAt s (Int.toNat i)) < (0 : Int))) (.done (EV.v (Value.int IntKind.i64 (6))) [] 0) (.at (sC (s) (IntKind.wrap IntKind.i64 (i + (1 : Int)))))) .bad) (.done (EV.v (Value.int IntKind.i64 (0))) [] 0)) := by kernel_rfl
theorem step {s : ByteArray} {i : Nat} (hi : i < s.size) (hs : s.size ≤ 1000) : RUN (stOf (sC s i)) = bc (decide (idx bLet (byteAt s i) < 0)) (.done (iv 6) [] 0) (.at (sC s (i + 1 : Nat))) := by
  rw [step_t]
  simp (disch := omega) only [Nat.add_eq, eqSy_self, eqN_self, bc_same, List.length_cons, ofn, wrap_in, dt, df, bltD, bltN, ble_of, bleN, beqD, bc_t, bc_f, nn_ok, Nat.zero_add, to_nat, Int.zero_add, Int.sub_zero, Int.sub_self, Int.cast_ofNat_Int, Int.natCast_zero, Int.toNat_zero, List.take_zero, List.nil_append, List.length_append, List.length_nil]
  rfl
theorem last {s : ByteArray} {i : Nat} (hi : s.size ≤ i) : RUN (stOf (sC s i)) = .done (iv 0) [] 0 := by
  rw [step_t]
  simp (disch := omega) only [Nat.add_eq, eqSy_self, eqN_self, bc_same, List.length_cons, ofn, wrap_in, dt, df, bltD, bltN, ble_of, bleN, beqD, bc_t, bc_f, nn_ok, Nat.zero_add, to_nat, Int.zero_add, Int.sub_zero, Int.sub_self, Int.cast_ofNat_Int, Int.natCast_zero, Int.toNat_zero, List.take_zero, List.nil_append, List.length_append, List.length_nil]
theorem loop {s : ByteArray} (hs : s.size ≤ 1000) : ∀ (k i : Nat), i + k = s.size → EndZ 77 ctI false (stOf (sC s i)) (iv (bc (badF s i k) 6 0)) [] 0
  | 0, i, h => .done (last (by omega))
  | k + 1, i, h => by
    have := step (show i < s.size by omega) hs
    unfold badF
    cases hb : decide (idx bLet (byteAt s i) < 0) <;> rw [hb] at this
    · exact .at ctI_ok this (loop hs k (i + 1) (by omega))
    · exact .done this
theorem ends (s : ByteArray) : EndZ 77 ctI false (st0 77 [sv s]) (iv (chk3 s)) [] 0 := by
  have h := in_t s
  unfold chk3
  by_cases h1 : 16 < (s.size : Int)
  · simp only [ofn, dt h1, bc_t] at h ⊢; exact .done h
  · simp only [ofn, df h1, bc_f] at h ⊢
    exact .at ctI_ok h (loop (by omega) s.size 0 (by omega))
end RChk3
noncomputable def spChk3 : ZCT := fun ax => match ax with
  | [.v (.string s)] => some ⟨decide (True), iv (chk3 s), [], 0⟩
  | _ => none
theorem spChk3_ok : ZCtOk Try.prog 77 spChk3 := fun γ w us ax r hs hc hax hN hfz => by
  unfold spChk3 at hs
  split at hs
  case h_2 => cases hs
  rename_i s
  obtain ⟨rfl⟩ := Option.some.inj hs
  have hc_0 : decide (True) = true := hc
  have hc := of_decide_eq_true hc_0
  exact EndZ.calls (RChk3.ends s) ctI_ok (by kernel_rfl) hax hN hfz
noncomputable def ctC : Tr ZCC := ctI.put 77 (some (dC spChk3))
theorem ctC_ok : ZCtsOk Try.prog ctC := ctI_ok.add rfl spChk3_ok

noncomputable def longR (r : List U) : Bool := decide (16 < ((rW r).size : Int))
noncomputable def badR (n : Int) (r : List U) : Bool := bc (rK r != 1)
  (bc (rK r != 2) true (bc (decide (rA r < 0)) true (bc (decide (n - 2 < rA r)) true (bc (rK r == 2) (bc (!((rW r).toList == (ByteArray.mk #[]).toList)) true false) false))))
  (bc (decide (rA r < 0)) true (bc (decide (n - 2 < rA r)) true (bc (rK r == 2) (bc (!((rW r).toList == (ByteArray.mk #[]).toList)) true false) false)))
noncomputable def formR (r : List U) : Bool := chk3 (rW r) != 0
noncomputable def anyR (p : List U → Bool) : List (List U) → Bool
  | [] => false
  | r :: l => bc (p r) true (anyR p l)
theorem anyR_cons (p : List U → Bool) (r : List U) (l : List (List U)) : anyR p (r :: l) = bc (p r) true (anyR p l) := rfl
noncomputable def chk4 (n : Int) (l : List (List U)) : Int := bc (decide (24 < n)) 3 (bc (decide (400 < (l.length : Int))) 3 (bc (anyR longR l) 3 (bc (decide (n < 2)) 2 (bc (anyR (badR n) l) 2 (bc (anyR formR l) 6 0)))))
namespace RChk4
noncomputable def RUN (s : ES) : ZF := RZs 42 ctC [(atS 0 42 4, [[(1,none),(3,none)]]), (atS 0 42 11, [[(1,none),(4,none)]]), (atS 0 42 17, [[(1,none),(6,none)]])] [] false s

noncomputable def sA (n : Int) (l : List (List U)) (i : Int) : NS := ⟨[⟨42, 92, [(1, (EV.ptr 0 0)), (3, iv i)], [.it (.code (nav [1, 1, 0, 1, 0, 0, 0] (bodyOf Try.f42))), .it (.code (nav [1, 1, 0, 1, 0, 0, 1] (bodyOf Try.f42))), .it (.inLoop (nav [1, 1, 0, 1, 0, 0] (bodyOf Try.f42))), .it (.inBlock 0), .it (.code (nav [1, 1, 1] (bodyOf Try.f42)))], [], Option.none⟩], [(0, (EK.cells 24 [(EV.v (Value.int IntKind.i64 (n))), (EV.lst (SyC.recs [(Sh.int IntKind.i64), (Sh.int IntKind.i64), Sh.str] (l)))] true))], 1⟩
noncomputable def sB (n : Int) (l : List (List U)) (i : Int) : NS := ⟨[⟨42, 92, [(1, (EV.ptr 0 0)), (4, iv i)], [.it (.code (nav [1, 1, 1, 1, 0, 1, 0, 0, 0] (bodyOf Try.f42))), .it (.code (nav [1, 1, 1, 1, 0, 1, 0, 0, 1] (bodyOf Try.f42))), .it (.inLoop (nav [1, 1, 1, 1, 0, 1, 0, 0] (bodyOf Try.f42))), .it (.inBlock 2), .it (.code (nav [1, 1, 1, 1, 1] (bodyOf Try.f42)))], [], Option.none⟩], [(0, EK.cells 24 [iv n, wl l] true)], 1⟩
noncomputable def sC (n : Int) (l : List (List U)) (i : Int) : NS := ⟨[⟨42, 92, [(1, (EV.ptr 0 0)), (6, iv i)], [.it (.code (nav [1, 1, 1, 1, 1, 0, 1, 0, 0, 0] (bodyOf Try.f42))), .it (.code (nav [1, 1, 1, 1, 1, 0, 1, 0, 0, 1] (bodyOf Try.f42))), .it (.inLoop (nav [1, 1, 1, 1, 1, 0, 1, 0, 0] (bodyOf Try.f42))), .it (.inBlock 4), .it (.code (nav [1, 1, 1, 1, 1, 1] (bodyOf Try.f42)))], [], Option.none⟩], [(0, EK.cells 24 [iv n, wl l] true)], 1⟩
theorem in_t (n : Int) (l : List (List U)) : RUN (st0 42 [.agg [iv n, wl l]]) = (bc (decide ((24 : Int) < n)) (.done (EV.v (Value.int IntKind.i64 (3))) [] 0) (bc (decide ((400 : Int) < Int.ofNat (List.length l))) (.done (EV.v (Value.int IntKind.i64 (3))) [] 0) (.at (sA (n) (l) ((0 : Int)))))) := by kernel_rfl
theorem a_t (n : Int) (l : List (List U)) (i : Int) : RUN (stOf (sA n l i)) = (bc (decide (i < Int.ofNat (List.length l))) (bc (bc (bc (decide ((0 : Int) ≤ i)) (Nat.blt (Int.toNat i) (List.length l)) false) true false) (bc (bc (Nat.blt (Int.toNat i) (List.length l)) true false) (bc (decide ((16 : Int) < Int.ofNat (ByteArray.size (U.str (List.getD (List.getD l (Int.toNat i) []) (Nat.add (0 : Nat) (2 : Nat)) (U.i (0 : Int))))))) (.done (EV.v (Value.int IntKind.i64 (3))) [] 0) (.at (sA (n) (l) (IntKind.wrap IntKind.i64 (i + (1 : Int)))))) .bad) .bad) (bc (decide (n < (2 : Int))) (.done (EV.v (Value.int IntKind.i64 (2))) [] 0) (.at (sB (n) (l) ((0 : Int)))))) := by kernel_rfl
theorem b_t (n : Int) (l : List (List U)) (i : Int) : RUN (stOf (sB n l i)) = (bc (decide (i < Int.ofNat (List.length l))) (bc (bc (bc (decide ((0 : Int) ≤ i)) (Nat.blt (Int.toNat i) (List.length l)) false) true false) (bc (bc (Nat.blt (Int.toNat i) (List.length l)) true false) (bc (U.int (List.getD (List.getD l (Int.toNat i) []) (0 : Nat) (U.i (0 : Int))) != (1 : Int)) (bc (U.int (List.getD (List.getD l (Int.toNat i) []) (0 : Nat) (U.i (0 : Int))) != (2 : Int)) (.done (EV.v (Value.int IntKind.i64 (2))) [] 0) (bc (decide (U.int (List.getD (List.getD l (Int.toNat i) []) (Nat.succ (0 : Nat)) (U.i (0 : Int))) < (0 : Int))) (.done (EV.v (Value.int IntKind.i64 (2))) [] 0) (bc (decide (IntKind.wrap IntKind.i64 (n - (2 : Int)) < U.int (List.getD (List.getD l (Int.toNat i) []) (Nat.succ (0 : Nat)) (U.i (0 : Int))))) (.done (EV.v (Value.int IntKind.i64 (2))) [] 0) (bc (U.int (List.getD (List.getD l (Int.toNat i) []) (0 : Nat) (U.i (0 : Int))) == (2 : Int)) (bc (!ByteArray.toList (U.str (List.getD (List.getD l (Int.toNat i) []) (Nat.succ (Nat.succ (0 : Nat))) (U.i (0 : Int)))) == ByteArray.toList { data := #[] }) (.done (EV.v (Value.int IntKind.i64 (2))) [] 0) (.at (sB (n) (l) (IntKind.wrap IntKind.i64 (i + (1 : Int)))))) (.at (sB (n) (l) (IntKind.wrap IntKind.i64 (i + (1 : Int))))))))) (bc (decide (U.int (List.getD (List.getD l (Int.toNat i) []) (Nat.succ (0 : Nat)) (U.i (0 : Int))) < (0 : Int))) (.done (EV.v (Value.int IntKind.i64 (2))) [] 0) (bc (decide (IntKind.wrap IntKind.i64 (n - (2 : Int)) < U.int (List.getD (List.getD l (Int.toNat i) []) (Nat.succ (0 : Nat)) (U.i (0 : Int))))) (.done (EV.v (Value.int IntKind.i64 (2))) [] 0) (bc (U.int (List.getD (List.getD l (Int.toNat i) []) (0 : Nat) (U.i (0 : Int))) == (2 : Int)) (bc (!ByteArray.toList (U.str (List.getD (List.getD l (Int.toNat i) []) (Nat.succ (Nat.succ (0 : Nat))) (U.i (0 : Int)))) == ByteArray.toList { data := #[] }) (.done (EV.v (Value.int IntKind.i64 (2))) [] 0) (.at (sB (n) (l) (IntKind.wrap IntKind.i64 (i + (1 : Int)))))) (.at (sB (n) (l) (IntKind.wrap IntKind.i64 (i + (1 : Int))))))))) .bad) .bad) (.at (sC (n) (l) ((0 : Int))))) := by kernel_rfl
theorem c_t (n : Int) (l : List (List U)) (i : Int) : RUN (stOf (sC n l i)) = (bc (decide (i < Int.ofNat (List.length l))) (bc (bc (bc (decide ((0 : Int) ≤ i)) (Nat.blt (Int.toNat i) (List.length l)) false) true false) (bc (bc (Nat.blt (Int.toNat i) (List.length l)) true false) (bc (chk3 (U.str (List.getD (List.getD l (Int.toNat i) []) (Nat.add (0 : Nat) (2 : Nat)) (U.i (0 : Int)))) != (0 : Int)) (.done (EV.v (Value.int IntKind.i64 (6))) [] 0) (.at (sC (n) (l) (IntKind.wrap IntKind.i64 (i + (1 : Int)))))) .bad) .bad) (.done (EV.v (Value.int IntKind.i64 (0))) [] 0)) := by kernel_rfl
theorem aStep {n : Int} {l : List (List U)} {i : Nat} (hi : i < l.length) (hl : l.length ≤ 400) : RUN (stOf (sA n l i)) = bc (longR l[i]) (.done (iv 3) [] 0) (.at (sA n l (i + 1 : Nat))) := by
  rw [a_t]
  have e : l.getD i [] = l[i] := getD_at hi
  simp (disch := omega) only [Nat.add_eq, eqSy_self, eqN_self, bc_same, List.length_cons, ofn, wrap_in, dt, df, bltD, bltN, ble_of, bleN, beqD, bc_t, bc_f, nn_ok, Nat.zero_add, to_nat, Int.zero_add, Int.sub_zero, Int.sub_self, Int.cast_ofNat_Int, Int.natCast_zero, Int.toNat_zero, List.take_zero, List.nil_append, List.length_append, List.length_nil, e, fK0, fK1, fA0, fA1, fA2, fW0, fW1, fW2]
  rfl
theorem aLast {n : Int} {l : List (List U)} {i : Nat} (hi : l.length ≤ i) : RUN (stOf (sA n l i)) = bc (decide (n < 2)) (.done (iv 2) [] 0) (.at (sB n l 0)) := by
  rw [a_t]
  simp (disch := omega) only [Nat.add_eq, eqSy_self, eqN_self, bc_same, List.length_cons, ofn, wrap_in, dt, df, bltD, bltN, ble_of, bleN, beqD, bc_t, bc_f, nn_ok, Nat.zero_add, to_nat, Int.zero_add, Int.sub_zero, Int.sub_self, Int.cast_ofNat_Int, Int.natCast_zero, Int.toNat_zero, List.take_zero, List.nil_append, List.length_append, List.length_nil]
theorem bStep {n : Int} {l : List (List U)} {i : Nat} (hi : i < l.length) (hl : l.length ≤ 400) (h2 : 2 ≤ n) (h3 : n ≤ 24) : RUN (stOf (sB n l i)) = bc (badR n l[i]) (.done (iv 2) [] 0) (.at (sB n l (i + 1 : Nat))) := by
  rw [b_t]
  have e : l.getD i [] = l[i] := getD_at hi
  unfold badR
  simp (disch := omega) only [Nat.add_eq, eqSy_self, eqN_self, bc_same, List.length_cons, ofn, wrap_in, dt, df, bltD, bltN, ble_of, bleN, beqD, bc_t, bc_f, nn_ok, Nat.zero_add, to_nat, Int.zero_add, Int.sub_zero, Int.sub_self, Int.cast_ofNat_Int, Int.natCast_zero, Int.toNat_zero, List.take_zero, List.nil_append, List.length_append, List.length_nil, e, fK0, fK1, fA0, fA1, fA2, fW0, fW1, fW2, bc_bc]
  rfl
theorem bLast {n : Int} {l : List (List U)} {i : Nat} (hi : l.length ≤ i) : RUN (stOf (sB n l i)) = .at (sC n l 0) := by
  rw [b_t]
  simp (disch := omega) only [Nat.add_eq, eqSy_self, eqN_self, bc_same, List.length_cons, ofn, wrap_in, dt, df, bltD, bltN, ble_of, bleN, beqD, bc_t, bc_f, nn_ok, Nat.zero_add, to_nat, Int.zero_add, Int.sub_zero, Int.sub_self, Int.cast_ofNat_Int, Int.natCast_zero, Int.toNat_zero, List.take_zero, List.nil_append, List.length_append, List.length_nil]
theorem cStep {n : Int} {l : List (List U)} {i : Nat} (hi : i < l.length) (hl : l.length ≤ 400) : RUN (stOf (sC n l i)) = bc (formR l[i]) (.done (iv 6) [] 0) (.at (sC n l (i + 1 : Nat))) := by
  rw [c_t]
  have e : l.getD i [] = l[i] := getD_at hi
  simp (disch := omega) only [Nat.add_eq, eqSy_self, eqN_self, bc_same, List.length_cons, ofn, wrap_in, dt, df, bltD, bltN, ble_of, bleN, beqD, bc_t, bc_f, nn_ok, Nat.zero_add, to_nat, Int.zero_add, Int.sub_zero, Int.sub_self, Int.cast_ofNat_Int, Int.natCast_zero, Int.toNat_zero, List.take_zero, List.nil_append, List.length_append, List.length_nil, e, fK0, fK1, fA0, fA1, fA2, fW0, fW1, fW2]
  rfl
theorem cLast {n : Int} {l : List (List U)} {i : Nat} (hi : l.length ≤ i) : RUN (stOf (sC n l i)) = .done (iv 0) [] 0 := by
  rw [c_t]
  simp (disch := omega) only [Nat.add_eq, eqSy_self, eqN_self, bc_same, List.length_cons, ofn, wrap_in, dt, df, bltD, bltN, ble_of, bleN, beqD, bc_t, bc_f, nn_ok, Nat.zero_add, to_nat, Int.zero_add, Int.sub_zero, Int.sub_self, Int.cast_ofNat_Int, Int.natCast_zero, Int.toNat_zero, List.take_zero, List.nil_append, List.length_append, List.length_nil]
theorem cLoop {n : Int} {l : List (List U)} (hl : l.length ≤ 400) : ∀ (k i : Nat), i + k = l.length → EndZ 42 ctC false (stOf (sC n l i)) (iv (bc (anyR formR (l.drop i)) 6 0)) [] 0
  | 0, i, h => by
    rw [List.drop_eq_nil_of_le (by omega)]
    exact .done (cLast (by omega))
  | k + 1, i, h => by
    have hi : i < l.length := by omega
    have := cStep (n := n) hi hl
    rw [List.drop_eq_getElem_cons hi, anyR_cons]
    cases hb : formR l[i] <;> rw [hb] at this
    · exact .at ctC_ok this (cLoop hl k (i + 1) (by omega))
    · exact .done this
theorem bLoop {n : Int} {l : List (List U)} (hl : l.length ≤ 400) (h2 : 2 ≤ n) (h3 : n ≤ 24) : ∀ (k i : Nat), i + k = l.length → EndZ 42 ctC false (stOf (sB n l i)) (iv (bc (anyR (badR n) (l.drop i)) 2 (bc (anyR formR l) 6 0))) [] 0
  | 0, i, h => by
    rw [List.drop_eq_nil_of_le (by omega)]
    exact .at ctC_ok (bLast (by omega)) (cLoop hl l.length 0 (by omega))
  | k + 1, i, h => by
    have hi : i < l.length := by omega
    have := bStep (n := n) hi hl h2 h3
    rw [List.drop_eq_getElem_cons hi, anyR_cons]
    cases hb : badR n l[i] <;> rw [hb] at this
    · exact .at ctC_ok this (bLoop hl h2 h3 k (i + 1) (by omega))
    · exact .done this
theorem aLoop {n : Int} {l : List (List U)} (hl : l.length ≤ 400) (h3 : n ≤ 24) : ∀ (k i : Nat), i + k = l.length → EndZ 42 ctC false (stOf (sA n l i)) (iv (bc (anyR longR (l.drop i)) 3 (bc (decide (n < 2)) 2 (bc (anyR (badR n) l) 2 (bc (anyR formR l) 6 0))))) [] 0
  | 0, i, h => by
    rw [List.drop_eq_nil_of_le (by omega)]
    have := aLast (n := n) (l := l) (i := i) (by omega)
    by_cases h2 : n < 2
    · rw [dt h2, bc_t] at this ⊢; exact .done this
    · rw [df h2, bc_f] at this ⊢; exact .at ctC_ok this (bLoop hl (by omega) h3 l.length 0 (by omega))
  | k + 1, i, h => by
    have hi : i < l.length := by omega
    have := aStep (n := n) hi hl
    rw [List.drop_eq_getElem_cons hi, anyR_cons]
    cases hb : longR l[i] <;> rw [hb] at this
    · exact .at ctC_ok this (aLoop hl h3 k (i + 1) (by omega))
    · exact .done this
theorem ends (n : Int) (l : List (List U)) : EndZ 42 ctC false (st0 42 [.agg [iv n, wl l]]) (iv (chk4 n l)) [] 0 := by
  have h := in_t n l
  unfold chk4
  by_cases h1 : 24 < n
  · simp only [dt h1, bc_t] at h ⊢; exact .done h
  by_cases h2 : 400 < (l.length : Int)
  · simp only [ofn, df h1, dt h2, bc_t, bc_f] at h ⊢; exact .done h
  · simp only [ofn, df h1, df h2, bc_f] at h ⊢
    exact .at ctC_ok h (aLoop (by omega) (by omega) l.length 0 (by omega))
end RChk4
noncomputable def spChk4 : ZCT := fun ax => match ax with
  | [.agg [.v (.int .i64 n), .lst (.recs [.int .i64, .int .i64, .str] l)]] => some ⟨decide (True), iv (chk4 n l), [], 0⟩
  | _ => none
theorem spChk4_ok : ZCtOk Try.prog 42 spChk4 := fun γ w us ax r hs hc hax hN hfz => by
  unfold spChk4 at hs
  split at hs
  case h_2 => cases hs
  rename_i n l
  obtain ⟨rfl⟩ := Option.some.inj hs
  have hc_0 : decide (True) = true := hc
  have hc := of_decide_eq_true hc_0
  exact EndZ.calls (RChk4.ends n l) ctC_ok (by kernel_rfl) hax hN hfz
end Go.Proofs.Ytkbebiebaenbdaa.Ev
namespace Go.Proofs.Ytkbebiebaenbdaa.Ev
open Go.RowKit
variable {P : Program} {γ γ' : G} {w0 : Bs} {w w' : World} {H H' : Tr EK} {n n' : Nat}
theorem HR.start (hN : ∀ i, γ i = none) (hfz : FzAt γ w) : HR γ (Bs.ofG w γ) .nil 0 w :=
  ⟨(fun i k hk => by cases hk), (fun i j ki kj hi => by cases hi), (fun i _ => hN i), (fun i hi => hi.elim), (fun i p hp => by rw [hN i] at hp; cases hp), ⟨rfl, rfl, rfl, Nat.le_refl _, fun _ _ => rfl⟩, FZ.init hfz⟩
end Go.Proofs.Ytkbebiebaenbdaa.Ev
namespace Go.Proofs.Ytkbebiebaenbdaa.Ev
open Go.Proofs
theorem byteAt_lo (s : ByteArray) (i : Nat) : 0 ≤ byteAt s i := by unfold byteAt; exact Int.natCast_nonneg _
theorem byteAt_hi (s : ByteArray) (i : Nat) : byteAt s i < 256 := by
  unfold byteAt
  have := (s.data.toList.getD i 0).toNat_lt
  show ((s.data.toList.getD i 0).toNat : Int) < 256
  omega
theorem idxB_lib (s : ByteArray) (b : UInt8) : ∀ (k i : Nat), i + k = s.size → idxB s (b.toNat : Int) i k = if Lib.indexByte (s.data.toList.drop i) b = -1 then -1 else Lib.indexByte (s.data.toList.drop i) b + i
  | 0, i, h => by
    rw [List.drop_eq_nil_of_le (by have : s.data.toList.length = s.size := by rw [Array.length_toList]; rfl
                                   omega)]
    rfl
  | k + 1, i, h => by
    have hl : s.data.toList.length = s.size := by rw [Array.length_toList]; rfl
    have hi : i < s.data.toList.length := by omega
    rw [List.drop_eq_getElem_cons hi]
    unfold idxB
    rw [idxB_lib s b k (i + 1) (by omega)]
    have e : (byteAt s i == (b.toNat : Int)) = (s.data.toList[i] == b) := by
      unfold byteAt
      rw [getD_at hi]
      apply Bool.eq_iff_iff.2
      simp only [beq_iff_eq]
      constructor
      · intro h; exact UInt8.toNat_inj.1 (by have h : ((s.data.toList[i]).toNat : Int) = b.toNat := h; omega)
      · intro h; rw [h]; rfl
    rw [e]
    rw [show Lib.indexByte (s.data.toList[i] :: s.data.toList.drop (i + 1)) b = if (s.data.toList[i] == b) = true then 0 else if (Lib.indexByte (s.data.toList.drop (i + 1)) b == -1) = true then -1 else Lib.indexByte (s.data.toList.drop (i + 1)) b + 1 from rfl]
    have ge := Lib.indexByte_ge (s.data.toList.drop (i + 1)) b
    by_cases h1 : (s.data.toList[i] == b) = true
    · rw [h1]; simp [bc]
    · have h1 : (s.data.toList[i] == b) = false := by simpa using h1
      rw [h1]
      by_cases h2 : Lib.indexByte (s.data.toList.drop (i + 1)) b = -1
      · simp [bc, h2]
      · have h3 : (Lib.indexByte (s.data.toList.drop (i + 1)) b == -1) = false := by simpa using h2
        simp only [bc, h3, if_neg h2]
        rw [if_neg (by simp; omega)]
        simp
        omega
theorem idx_lib (s : ByteArray) (c : Int) (h1 : 0 ≤ c) (h2 : c < 256) : Lib.indexByte s.data.toList c.toNat.toUInt8 = idx s c := by
  have e : ((c.toNat.toUInt8).toNat : Int) = c := by
    have : c.toNat % 256 = c.toNat := Nat.mod_eq_of_lt (by omega)
    show ((c.toNat % 256 : Nat) : Int) = c
    omega
  unfold idx
  rw [← e, idxB_lib s _ s.size 0 (by omega), List.drop_zero, e]
  split
  · rename_i h; rw [h]
  · simp
noncomputable def spIB : ZCT := fun ax => match ax with
  | [.v (.string s), .v (.int .u8 c)] => some ⟨bc (decide (0 ≤ c)) (decide (c < 256)) false, iv (idx s c), [], 0⟩
  | _ => none
theorem spIB_ok : ZCtOk Try.prog 117 spIB := fun γ w us ax r hs hc hax hN hfz => by
  unfold spIB at hs
  split at hs
  case h_2 => cases hs
  rename_i s c
  obtain ⟨rfl⟩ := Option.some.inj hs
  obtain ⟨h1, h2⟩ := bcT (show bc (decide (0 ≤ c)) (decide (c < 256)) false = true from hc)
  have h1 := of_decide_eq_true h1
  have h2 := of_decide_eq_true h2
  obtain ⟨x, r1, e1, hx, hc1⟩ := ECL.inv hax
  obtain ⟨y, r2, e2, hy, hc2⟩ := ECL.inv hc1
  have e3 : r2 = [] := by apply List.eq_nil_of_length_eq_zero; have := hc2.1; simpa using this.symm
  have hx := ec_v hx
  have hy := ec_v hy
  subst hx; subst hy; subst e3; subst e2
  have eu : us = #[.string s, .int .u8 c] := by apply Array.ext'; simpa using e1
  rw [eu]
  refine (Try.strings_IndexByte s c w).mono ?_
  rintro e w' ⟨rfl, rfl⟩
  exact ⟨γ, _, rfl, by rw [idx_lib s c h1 h2]; exact .v _, HR.start hN hfz⟩
noncomputable def ctP1 : Tr ZCC := Tr.nil.put 117 (some (dC spIB))
theorem ctP1_ok : ZCtsOk Try.prog ctP1 := (ZCtsOk.nil _).add rfl spIB_ok

namespace PChk3
noncomputable def RUN (s : ES) : ZF := RZ 99 ctP1 (atS 0 99 4) [] [[(0,none),(8,none),(9,none)]] false s

noncomputable def sC (s : ByteArray) (i : Int) : NS := ⟨[⟨99, 18, [(0, (EV.v (Value.string (s)))), (8, (EV.v (Value.int IntKind.i64 (Int.ofNat (ByteArray.size s))))), (9, iv i)], [.it (.code (nav [1, 1, 0, 1, 0, 0] (bodyOf Try.f99))), .it (.inLoop (nav [1, 1, 0, 1, 0, 0] (bodyOf Try.f99))), .it (.inBlock 0), .it (.code (nav [1, 1, 1] (bodyOf Try.f99)))], [], Option.none⟩], [], 0⟩
theorem in_t (s : ByteArray) : RUN (st0 99 [sv s]) = (bc (decide ((16 : Int) < Int.ofNat (ByteArray.size s))) (.done (EV.v (Value.int IntKind.i64 (3))) [] 0) (.at (sC (s) ((0 : Int))))) := by kernel_rfl
theorem step_t (s : ByteArray) (i : Int) : RUN (stOf (sC s i)) = (bc (decide (i < Int.ofNat (ByteArray.size s))) (bc (bc (bc (decide ((0 : Int) ≤ i)) (Nat.blt (Int.toNat i) (ByteArray.size s)) false) true false) (bc (bc (decide (byteAt s (Int.toNat i) < (256 : Int))) true false) (bc (decide (idx { data := #[(67 : UInt8), (84 : UInt8), (76 : UInt8), (82 : UInt8), (80 : UInt8), (99 : UInt8), (116 : UInt8), (108 : UInt8), (114 : UInt8)] } (byteAt s (Int.toNat i)) < (0 : Int))) (.done (EV.v (Value.int IntKind.i64 (6))) [] 0) (.at (sC (s) (IntKind.wrap IntKind.i64 (i + (1 : Int)))))) .bad) .bad) (.done (EV.v (Value.int IntKind.i64 (0))) [] 0)) := by kernel_rfl
theorem step {s : ByteArray} {i : Nat} (hi : i < s.size) (hs : s.size ≤ 1000) : RUN (stOf (sC s i)) = bc (decide (idx bLet (byteAt s i) < 0)) (.done (iv 6) [] 0) (.at (sC s (i + 1 : Nat))) := by
  rw [step_t]
  have h1 := byteAt_lo s i
  have h2 := byteAt_hi s i
  simp (disch := omega) only [Nat.add_eq, eqSy_self, eqN_self, bc_same, List.length_cons, ofn, wrap_in, dt, df, bltD, bltN, ble_of, bleN, beqD, bc_t, bc_f, nn_ok, Nat.zero_add, to_nat, Int.zero_add, Int.sub_zero, Int.sub_self, Int.cast_ofNat_Int, Int.natCast_zero, Int.toNat_zero, List.take_zero, List.nil_append, List.length_append, List.length_nil]
  rfl
theorem last {s : ByteArray} {i : Nat} (hi : s.size ≤ i) : RUN (stOf (sC s i)) = .done (iv 0) [] 0 := by
  rw [step_t]
  simp (disch := omega) only [Nat.add_eq, eqSy_self, eqN_self, bc_same, List.length_cons, ofn, wrap_in, dt, df, bltD, bltN, ble_of, bleN, beqD, bc_t, bc_f, nn_ok, Nat.zero_add, to_nat, Int.zero_add, Int.sub_zero, Int.sub_self, Int.cast_ofNat_Int, Int.natCast_zero, Int.toNat_zero, List.take_zero, List.nil_append, List.length_append, List.length_nil]
theorem loop {s : ByteArray} (hs : s.size ≤ 1000) : ∀ (k i : Nat), i + k = s.size → EndZ 99 ctP1 false (stOf (sC s i)) (iv (bc (badF s i k) 6 0)) [] 0
  | 0, i, h => .done (last (by omega))
  | k + 1, i, h => by
    have := step (show i < s.size by omega) hs
    unfold badF
    cases hb : decide (idx bLet (byteAt s i) < 0) <;> rw [hb] at this
    · exact .at ctP1_ok this (loop hs k (i + 1) (by omega))
    · exact .done this
theorem ends (s : ByteArray) : EndZ 99 ctP1 false (st0 99 [sv s]) (iv (chk3 s)) [] 0 := by
  have h := in_t s
  unfold chk3
  by_cases h1 : 16 < (s.size : Int)
  · simp only [ofn, dt h1, bc_t] at h ⊢; exact .done h
  · simp only [ofn, df h1, bc_f] at h ⊢
    exact .at ctP1_ok h (loop (by omega) s.size 0 (by omega))
end PChk3
noncomputable def spPChk3 : ZCT := fun ax => match ax with
  | [.v (.string s)] => some ⟨decide (True), iv (chk3 s), [], 0⟩
  | _ => none
theorem spPChk3_ok : ZCtOk Try.prog 99 spPChk3 := fun γ w us ax r hs hc hax hN hfz => by
  unfold spPChk3 at hs
  split at hs
  case h_2 => cases hs
  rename_i s
  obtain ⟨rfl⟩ := Option.some.inj hs
  have hc_0 : decide (True) = true := hc
  have hc := of_decide_eq_true hc_0
  exact EndZ.calls (PChk3.ends s) ctP1_ok (by kernel_rfl) hax hN hfz
noncomputable def ctP2 : Tr ZCC := ctP1.put 99 (some (dC spPChk3))
theorem ctP2_ok : ZCtsOk Try.prog ctP2 := ctP1_ok.add rfl spPChk3_ok

namespace PAny
noncomputable def RUN (s : ES) : ZF := RZ 118 .nil (atS 0 118 2) [] [[(0,none),(1,none),(7,none),(8,none)]] false s
noncomputable abbrev args (l : List (List U)) : List EV := [wl l, .fn 98 []]

noncomputable def sF (l : List (List U)) (i : Int) : NS := ⟨[⟨118, 19, [(0, (EV.lst (SyC.recs [(Sh.int IntKind.i64), (Sh.int IntKind.i64), Sh.str] (l)))), (1, (EV.fn 98 [])), (7, (EV.v (Value.int IntKind.i64 (Int.ofNat (List.length l))))), (8, iv i)], [.it (.code (nav [1, 0, 1, 0, 0] (bodyOf Try.f118))), .it (.inLoop (nav [1, 0, 1, 0, 0] (bodyOf Try.f118))), .it (.inBlock 0), .it (.code (nav [1, 1] (bodyOf Try.f118)))], [], Option.none⟩], [], 0⟩
theorem in_t (l : List (List U)) : RUN (st0 118 (args l)) = (.at (sF (l) ((0 : Int)))) := by kernel_rfl
theorem step_t (l : List (List U)) (i : Int) : RUN (stOf (sF l i)) = (bc (decide (i < Int.ofNat (List.length l))) (bc (bc (bc (decide ((0 : Int) ≤ i)) (Nat.blt (Int.toNat i) (List.length l)) false) true false) (bc (bc (Nat.blt (Int.toNat i) (List.length l)) true false) (bc (decide ((16 : Int) < Int.ofNat (ByteArray.size (U.str (List.getD (List.getD l (Int.toNat i) []) (Nat.succ (Nat.succ (0 : Nat))) (U.i (0 : Int))))))) (.done (EV.v (Value.int IntKind.i64 (i))) [] 0) (.at (sF (l) (IntKind.wrap IntKind.i64 (i + (1 : Int)))))) .bad) .bad) (.done (EV.v (Value.int IntKind.i64 (-1))) [] 0)) := by kernel_rfl
noncomputable def at' (l : List (List U)) (i : Nat) : List (List U) → Int
  | [] => -1
  | r :: q => bc (longR r) (i : Int) (at' l (i + 1) q)
theorem step {l : List (List U)} {i : Nat} (hi : i < l.length) (hl : l.length ≤ 100000) : RUN (stOf (sF l i)) = bc (longR l[i]) (.done (iv i) [] 0) (.at (sF l (i + 1 : Nat))) := by
  rw [step_t]
  have e : l.getD i [] = l[i] := getD_at hi
  simp (disch := omega) only [Nat.add_eq, eqSy_self, eqN_self, bc_same, List.length_cons, ofn, wrap_in, dt, df, bltD, bltN, ble_of, bleN, beqD, bc_t, bc_f, nn_ok, Nat.zero_add, to_nat, Int.zero_add, Int.sub_zero, Int.sub_self, Int.cast_ofNat_Int, Int.natCast_zero, Int.toNat_zero, List.take_zero, List.nil_append, List.length_append, List.length_nil, e, fK0, fK1, fA0, fA1, fA2, fW0, fW1, fW2]
  rfl
theorem last {l : List (List U)} {i : Nat} (hi : l.length ≤ i) : RUN (stOf (sF l i)) = .done (iv (-1)) [] 0 := by
  rw [step_t]
  simp (disch := omega) only [Nat.add_eq, eqSy_self, eqN_self, bc_same, List.length_cons, ofn, wrap_in, dt, df, bltD, bltN, ble_of, bleN, beqD, bc_t, bc_f, nn_ok, Nat.zero_add, to_nat, Int.zero_add, Int.sub_zero, Int.sub_self, Int.cast_ofNat_Int, Int.natCast_zero, Int.toNat_zero, List.take_zero, List.nil_append, List.length_append, List.length_nil]
theorem loop {l : List (List U)} (hl : l.length ≤ 100000) : ∀ (k i : Nat), i + k = l.length → EndZ 118 .nil false (stOf (sF l i)) (iv (at' l i (l.drop i))) [] 0
  | 0, i, h => by
    rw [List.drop_eq_nil_of_le (by omega)]
    exact .done (last (by omega))
  | k + 1, i, h => by
    have hi : i < l.length := by omega
    have := step hi hl
    rw [List.drop_eq_getElem_cons hi]
    unfold at'
    cases hb : longR l[i] <;> rw [hb] at this
    · exact .at (.nil _) this (loop hl k (i + 1) (by omega))
    · exact .done this
theorem sign (l : List (List U)) : ∀ (q : List (List U)) (i : Nat), decide (0 ≤ at' l i q) = anyR longR q
  | [], i => rfl
  | r :: q, i => by
    rw [anyR_cons]
    unfold at'
    cases longR r
    · exact sign l q (i + 1)
    · exact dt (Int.natCast_nonneg i)
end PAny
noncomputable def spIxF : ZCT := fun ax => match ax with
  | [.lst (.recs [.int .i64, .int .i64, .str] l), .fn 98 []] => some ⟨decide (l.length ≤ 100000), iv (PAny.at' l 0 l), [], 0⟩
  | _ => none
theorem spIxF_ok : ZCtOk Try.prog 118 spIxF := fun γ w us ax r hs hc hax hN hfz => by
  unfold spIxF at hs
  split at hs
  case h_2 => cases hs
  rename_i l
  obtain ⟨rfl⟩ := Option.some.inj hs
  have hc_0 : decide (l.length ≤ 100000) = true := hc
  have hc := of_decide_eq_true hc_0
  exact EndZ.calls (.at (.nil _) (PAny.in_t l) (PAny.loop hc l.length 0 (by omega))) (.nil _) (by kernel_rfl) hax hN hfz
noncomputable def ctP3 : Tr ZCC := ctP2.put 118 (some (dC spIxF))
theorem ctP3_ok : ZCtsOk Try.prog ctP3 := ctP2_ok.add rfl spIxF_ok

namespace PChk4
noncomputable def RUN (s : ES) : ZF := RZ 69 ctP3 (atS 0 69 7) [] [[(1,none),(3,none),(24,none),(25,none),(26,none)]] false s

noncomputable def sB (n : Int) (l : List (List U)) (f i : Int) : NS := ⟨[⟨69, 63, [(1, (EV.ptr 0 0)), (3, iv f), (24, (EV.lst (SyC.recs [(Sh.int IntKind.i64), (Sh.int IntKind.i64), Sh.str] (l)))), (25, (EV.v (Value.int IntKind.i64 (Int.ofNat (List.length l))))), (26, iv i)], [.it (.code (nav [1, 1, 1, 1, 0, 1, 0, 0] (bodyOf Try.f69))), .it (.inLoop (nav [1, 1, 1, 1, 0, 1, 0, 0] (bodyOf Try.f69))), .it (.inBlock 0), .it (.code (nav [1, 1, 1, 1, 1] (bodyOf Try.f69)))], [], Option.none⟩], [(0, (EK.cells 24 [(EV.v (Value.int IntKind.i64 (n))), (EV.lst (SyC.recs [(Sh.int IntKind.i64), (Sh.int IntKind.i64), Sh.str] (l)))] true))], 1⟩
theorem in_t (n : Int) (l : List (List U)) : RUN (st0 69 [.agg [iv n, wl l]]) = (bc (decide ((24 : Int) < n)) (.done (EV.v (Value.int IntKind.i64 (3))) [] 0) (bc (decide ((400 : Int) < Int.ofNat (List.length l))) (.done (EV.v (Value.int IntKind.i64 (3))) [] 0) (bc (bc (decide (List.length l ≤ (100000 : Nat))) true false) (bc (decide ((0 : Int) ≤ PAny.at' l (0 : Nat) l)) (.done (EV.v (Value.int IntKind.i64 (3))) [] 0) (bc (decide (n < (2 : Int))) (.done (EV.v (Value.int IntKind.i64 (2))) [] 0) (.at (sB (n) (l) ((0 : Int)) ((0 : Int)))))) .bad))) := by kernel_rfl
theorem b_t (n : Int) (l : List (List U)) (f i : Int) : RUN (stOf (sB n l f i)) = (bc (decide (i < Int.ofNat (List.length l))) (bc (bc (bc (decide ((0 : Int) ≤ i)) (Nat.blt (Int.toNat i) (List.length l)) false) true false) (bc (bc (Nat.blt (Int.toNat i) (List.length l)) true false) (bc (U.int (List.getD (List.getD l (Int.toNat i) []) (0 : Nat) (U.i (0 : Int))) != (1 : Int)) (bc (U.int (List.getD (List.getD l (Int.toNat i) []) (0 : Nat) (U.i (0 : Int))) != (2 : Int)) (.done (EV.v (Value.int IntKind.i64 (2))) [] 0) (bc (!ByteArray.toList (U.str (List.getD (List.getD l (Int.toNat i) []) (Nat.succ (Nat.succ (0 : Nat))) (U.i (0 : Int)))) == ByteArray.toList { data := #[] }) (.done (EV.v (Value.int IntKind.i64 (2))) [] 0) (bc (decide (U.int (List.getD (List.getD l (Int.toNat i) []) (Nat.succ (0 : Nat)) (U.i (0 : Int))) < (0 : Int))) (.done (EV.v (Value.int IntKind.i64 (2))) [] 0) (bc (decide (IntKind.wrap IntKind.i64 (n - (2 : Int)) < U.int (List.getD (List.getD l (Int.toNat i) []) (Nat.succ (0 : Nat)) (U.i (0 : Int))))) (.done (EV.v (Value.int IntKind.i64 (2))) [] 0) (.at (sB (n) (l) (if chk3 (U.str (List.getD (List.getD l (Int.toNat i) []) (Nat.succ (Nat.succ (0 : Nat))) (U.i (0 : Int)))) > f then chk3 (U.str (List.getD (List.getD l (Int.toNat i) []) (Nat.succ (Nat.succ (0 : Nat))) (U.i (0 : Int)))) else f) (IntKind.wrap IntKind.i64 (i + (1 : Int))))))))) (bc (decide (U.int (List.getD (List.getD l (Int.toNat i) []) (Nat.succ (0 : Nat)) (U.i (0 : Int))) < (0 : Int))) (.done (EV.v (Value.int IntKind.i64 (2))) [] 0) (bc (decide (IntKind.wrap IntKind.i64 (n - (2 : Int)) < U.int (List.getD (List.getD l (Int.toNat i) []) (Nat.succ (0 : Nat)) (U.i (0 : Int))))) (.done (EV.v (Value.int IntKind.i64 (2))) [] 0) (.at (sB (n) (l) (if chk3 (U.str (List.getD (List.getD l (Int.toNat i) []) (Nat.succ (Nat.succ (0 : Nat))) (U.i (0 : Int)))) > f then chk3 (U.str (List.getD (List.getD l (Int.toNat i) []) (Nat.succ (Nat.succ (0 : Nat))) (U.i (0 : Int)))) else f) (IntKind.wrap IntKind.i64 (i + (1 : Int)))))))) .bad) .bad) (.done (EV.v (Value.int IntKind.i64 (f))) [] 0)) := by kernel_rfl
noncomputable def badP (n : Int) (r : List U) : Bool := bc (rK r != 1)
  (bc (rK r != 2) true (bc (!((rW r).toList == (ByteArray.mk #[]).toList)) true (bc (decide (rA r < 0)) true (bc (decide (n - 2 < rA r)) true false))))
  (bc (decide (rA r < 0)) true (bc (decide (n - 2 < rA r)) true false))
theorem badP_eq (n : Int) (r : List U) : badP n r = badR n r := by
  unfold badP badR
  by_cases h1 : rK r = 1
  · have e1 : (rK r != 1) = false := by simp [h1]
    have e2 : (rK r == 2) = false := by simp [h1]
    rw [e1, e2]; simp only [bc_f]
  · have e1 : (rK r != 1) = true := by simp [h1]
    by_cases h2 : rK r = 2
    · have e2 : (rK r != 2) = false := by simp [h2]
      have e3 : (rK r == 2) = true := by simp [h2]
      rw [e1, e2, e3]
      simp only [bc_t, bc_f]
      cases decide (rA r < 0) <;> cases decide (n - 2 < rA r) <;> cases ((rW r).toList == (ByteArray.mk #[]).toList) <;> rfl
    · have e2 : (rK r != 2) = true := by simp [h2]
      rw [e1, e2]; simp only [bc_t]
theorem step {n f : Int} {l : List (List U)} {i : Nat} (hi : i < l.length) (hl : l.length ≤ 400) (h2 : 2 ≤ n) (h3 : n ≤ 24) : RUN (stOf (sB n l f i)) = bc (badR n l[i]) (.done (iv 2) [] 0) (.at (sB n l (if chk3 (rW l[i]) > f then chk3 (rW l[i]) else f) (i + 1 : Nat))) := by
  rw [b_t, ← badP_eq]
  have e : l.getD i [] = l[i] := getD_at hi
  unfold badP
  simp (disch := omega) only [Nat.add_eq, eqSy_self, eqN_self, bc_same, List.length_cons, ofn, wrap_in, dt, df, bltD, bltN, ble_of, bleN, beqD, bc_t, bc_f, nn_ok, Nat.zero_add, to_nat, Int.zero_add, Int.sub_zero, Int.sub_self, Int.cast_ofNat_Int, Int.natCast_zero, Int.toNat_zero, List.take_zero, List.nil_append, List.length_append, List.length_nil, e, fK0, fK1, fA0, fA1, fA2, fW0, fW1, fW2, bc_bc]
  rfl
theorem last {n f : Int} {l : List (List U)} {i : Nat} (hi : l.length ≤ i) : RUN (stOf (sB n l f i)) = .done (iv f) [] 0 := by
  rw [b_t]
  simp (disch := omega) only [Nat.add_eq, eqSy_self, eqN_self, bc_same, List.length_cons, ofn, wrap_in, dt, df, bltD, bltN, ble_of, bleN, beqD, bc_t, bc_f, nn_ok, Nat.zero_add, to_nat, Int.zero_add, Int.sub_zero, Int.sub_self, Int.cast_ofNat_Int, Int.natCast_zero, Int.toNat_zero, List.take_zero, List.nil_append, List.length_append, List.length_nil]
theorem form_step {r : List U} {f : Int} (hr : longR r = false) (hf : f = 0 ∨ f = 6) : (if chk3 (rW r) > f then chk3 (rW r) else f) = bc (formR r) 6 f := by
  unfold longR at hr
  unfold formR chk3
  rw [hr, bc_f]
  cases badF (rW r) 0 (rW r).size
  · rw [bc_f]
    have e : ((0 : Int) != 0) = false := rfl
    rw [e, bc_f]
    rcases hf with rfl | rfl <;> rfl
  · rw [bc_t]
    have e : ((6 : Int) != 0) = true := rfl
    rw [e, bc_t]
    rcases hf with rfl | rfl <;> rfl
theorem loop {n : Int} {l : List (List U)} (hl : l.length ≤ 400) (h2 : 2 ≤ n) (h3 : n ≤ 24) : ∀ (k i : Nat) (f : Int), i + k = l.length → anyR longR (l.drop i) = false → f = 0 ∨ f = 6 → EndZ 69 ctP3 false (stOf (sB n l f i)) (iv (bc (anyR (badR n) (l.drop i)) 2 (bc (anyR formR (l.drop i)) 6 f))) [] 0
  | 0, i, f, h, _, _ => by
    rw [List.drop_eq_nil_of_le (by omega)]
    exact .done (last (by omega))
  | k + 1, i, f, h, hg, hf => by
    have hi : i < l.length := by omega
    have := step (n := n) (f := f) hi hl h2 h3
    rw [List.drop_eq_getElem_cons hi] at hg ⊢
    rw [anyR_cons] at hg
    rw [anyR_cons, anyR_cons]
    cases hlr : longR l[i] with
    | true => rw [hlr, bc_t] at hg; cases hg
    | false =>
      rw [hlr, bc_f] at hg
      rw [form_step hlr hf] at this
      cases hb : badR n l[i] <;> rw [hb] at this
      · rw [bc_f] at this
        have key := loop hl h2 h3 k (i + 1) (bc (formR l[i]) 6 f) (by omega) hg (by cases formR l[i]; exact hf; exact .inr rfl)
        have e : bc (anyR formR (l.drop (i + 1))) 6 (bc (formR l[i]) 6 f) = bc (bc (formR l[i]) true (anyR formR (l.drop (i + 1)))) 6 f := by
          cases formR l[i] <;> cases anyR formR (l.drop (i + 1)) <;> rfl
        rw [e] at key
        exact .at ctP3_ok this key
      · exact .done this
theorem ends (n : Int) (l : List (List U)) : EndZ 69 ctP3 false (st0 69 [.agg [iv n, wl l]]) (iv (chk4 n l)) [] 0 := by
  have h := in_t n l
  rw [PAny.sign] at h
  unfold chk4
  by_cases h1 : 24 < n
  · simp only [dt h1, bc_t] at h ⊢; exact .done h
  by_cases h2 : 400 < (l.length : Int)
  · simp only [ofn, df h1, dt h2, bc_t, bc_f] at h ⊢; exact .done h
  have h3 : l.length ≤ 100000 := by omega
  simp only [ofn, df h1, df h2, dt h3, bc_f, bc_t] at h ⊢
  cases h4 : anyR longR l <;> rw [h4] at h
  · by_cases h5 : n < 2
    · simp only [dt h5, bc_f, bc_t] at h ⊢; exact .done h
    · simp only [df h5, bc_f] at h ⊢
      exact .at ctP3_ok h (loop (by omega) (by omega) (by omega) l.length 0 0 (by omega) h4 (.inl rfl))
  · exact .done h
end PChk4
noncomputable def spPChk4 : ZCT := fun ax => match ax with
  | [.agg [.v (.int .i64 n), .lst (.recs [.int .i64, .int .i64, .str] l)]] => some ⟨decide (True), iv (chk4 n l), [], 0⟩
  | _ => none
theorem spPChk4_ok : ZCtOk Try.prog 69 spPChk4 := fun γ w us ax r hs hc hax hN hfz => by
  unfold spPChk4 at hs
  split at hs
  case h_2 => cases hs
  rename_i n l
  obtain ⟨rfl⟩ := Option.some.inj hs
  have hc_0 : decide (True) = true := hc
  have hc := of_decide_eq_true hc_0
  exact EndZ.calls (PChk4.ends n l) ctP3_ok (by kernel_rfl) hax hN hfz
end Go.Proofs.Ytkbebiebaenbdaa.Ev
namespace Go.Proofs.Ytkbebiebaenbdaa.Ev
open Go.Proofs
theorem anyR_false {p : List U → Bool} : ∀ {l : List (List U)}, anyR p l = false → ∀ r, r ∈ l → p r = false
  | [], _, r, h => by simp at h
  | x :: l, h, r, hr => by
    rw [anyR_cons] at h
    cases hx : p x with
    | true => rw [hx, bc_t] at h; cases h
    | false =>
      rw [hx, bc_f] at h
      rcases List.mem_cons.1 hr with rfl | hr
      · exact hx
      · exact anyR_false h r hr
theorem anyR_of {p : List U → Bool} : ∀ {l : List (List U)}, (∀ r, r ∈ l → p r = false) → anyR p l = false
  | [], _ => rfl
  | x :: l, h => by
    rw [anyR_cons, h x (by simp), bc_f]
    exact anyR_of fun r hr => h r (by simp [hr])

structure ValR (n : Int) (r : List U) : Prop where
  kind : rK r = 1 ∨ rK r = 2
  lo : 0 ≤ rA r
  hi : rA r ≤ n - 2
  sew : rK r = 2 → (rW r).toList = (ByteArray.mk #[]).toList
  long : (rW r).size ≤ 16
  form : badF (rW r) 0 (rW r).size = false
theorem chk3_ok {w : ByteArray} (h : chk3 w = 0) : w.size ≤ 16 ∧ badF w 0 w.size = false := by
  unfold chk3 at h
  by_cases h1 : 16 < (w.size : Int)
  · rw [dt h1, bc_t] at h; cases h
  · rw [df h1, bc_f] at h
    refine ⟨by omega, ?_⟩
    cases hb : badF w 0 w.size
    · rfl
    · rw [hb, bc_t] at h; cases h
theorem chk3_of {w : ByteArray} (h1 : w.size ≤ 16) (h2 : badF w 0 w.size = false) : chk3 w = 0 := by
  unfold chk3
  rw [df (by omega), bc_f, h2, bc_f]
theorem badR_false {n : Int} {r : List U} (h : badR n r = false) : (rK r = 1 ∨ rK r = 2) ∧ 0 ≤ rA r ∧ rA r ≤ n - 2 ∧ (rK r = 2 → (rW r).toList = (ByteArray.mk #[]).toList) := by
  unfold badR at h
  by_cases h1 : rK r = 1
  · rw [show (rK r != 1) = false by simp [h1], bc_f] at h
    by_cases h2 : rA r < 0
    · rw [dt h2, bc_t] at h; cases h
    rw [df h2, bc_f] at h
    by_cases h3 : n - 2 < rA r
    · rw [dt h3, bc_t] at h; cases h
    exact ⟨.inl h1, by omega, by omega, fun h4 => by omega⟩
  · rw [show (rK r != 1) = true by simp [h1], bc_t] at h
    by_cases h0 : rK r = 2
    · rw [show (rK r != 2) = false by simp [h0], bc_f] at h
      by_cases h2 : rA r < 0
      · rw [dt h2, bc_t] at h; cases h
      rw [df h2, bc_f] at h
      by_cases h3 : n - 2 < rA r
      · rw [dt h3, bc_t] at h; cases h
      rw [df h3, bc_f, show (rK r == 2) = true by simp [h0], bc_t] at h
      refine ⟨.inr h0, by omega, by omega, fun _ => ?_⟩
      cases h4 : ((rW r).toList == (ByteArray.mk #[]).toList) with
      | true => simpa using h4
      | false => rw [h4] at h; cases h
    · rw [show (rK r != 2) = true by simp [h0], bc_t] at h; cases h
theorem badR_of {n : Int} {r : List U} (h : ValR n r) : badR n r = false := by
  have g1 := h.lo
  have g2 := h.hi
  unfold badR
  rcases h.kind with h1 | h1
  · rw [show (rK r != 1) = false by simp [h1], bc_f, df (by omega), bc_f, df (by omega), bc_f, show (rK r == 2) = false by simp [h1], bc_f]
  · rw [show (rK r != 1) = true by simp [h1], bc_t, show (rK r != 2) = false by simp [h1], bc_f, df (by omega), bc_f, df (by omega), bc_f, show (rK r == 2) = true by simp [h1], bc_t, h.sew h1]
    simp [bc]

structure ValS (n : Int) (l : List (List U)) : Prop where
  lo : 2 ≤ n
  hi : n ≤ 24
  len : l.length ≤ 400
  val : ∀ r, r ∈ l → ValR n r
theorem chk4_ok {n : Int} {l : List (List U)} (h : chk4 n l = 0) : ValS n l := by
  unfold chk4 at h
  by_cases h1 : 24 < n
  · rw [dt h1, bc_t] at h; cases h
  rw [df h1, bc_f] at h
  by_cases h2 : 400 < (l.length : Int)
  · rw [dt h2, bc_t] at h; cases h
  rw [df h2, bc_f] at h
  cases h3 : anyR longR l with
  | true => rw [h3, bc_t] at h; cases h
  | false =>
    rw [h3, bc_f] at h
    by_cases h4 : n < 2
    · rw [dt h4, bc_t] at h; cases h
    rw [df h4, bc_f] at h
    cases h5 : anyR (badR n) l with
    | true => rw [h5, bc_t] at h; cases h
    | false =>
      rw [h5, bc_f] at h
      cases h6 : anyR formR l with
      | true => rw [h6, bc_t] at h; cases h
      | false =>
        refine ⟨by omega, by omega, by omega, fun r hr => ?_⟩
        obtain ⟨k1, k2, k3, k4⟩ := badR_false (anyR_false h5 r hr)
        have k5 := anyR_false h6 r hr
        unfold formR at k5
        obtain ⟨k6, k7⟩ := chk3_ok (w := rW r) (by simpa using k5)
        exact ⟨k1, k2, k3, k4, k6, k7⟩
theorem chk4_of {n : Int} {l : List (List U)} (h : ValS n l) : chk4 n l = 0 := by
  have g1 := h.lo
  have g2 := h.hi
  have g3 := h.len
  unfold chk4
  rw [df (by omega), bc_f, df (by omega), bc_f, anyR_of fun r hr => ?_, bc_f, df (by omega), bc_f, anyR_of fun r hr => badR_of (h.val r hr), bc_f, anyR_of fun r hr => ?_, bc_f]
  · have := h.val r hr
    unfold formR
    rw [chk3_of this.long this.form]
    rfl
  · have := (h.val r hr).long
    unfold longR
    exact df (by omega)
def AtOk (l : List (List U)) : Prop := ∀ r, r ∈ l → 0 ≤ rA r ∧ rA r ≤ 1000
noncomputable instance AtOk.dec (l : List (List U)) : Decidable (AtOk l) := Classical.propDecidable _
theorem ValS.at {n : Int} {l : List (List U)} (h : ValS n l) : AtOk l := fun r hr => ⟨(h.val r hr).lo, by have := (h.val r hr).hi; have := h.hi; omega⟩
noncomputable def mkR (k a : Int) (w : ByteArray) : List U := [.i k, .i a, .s w]
theorem rK_mk (k a : Int) (w : ByteArray) : rK (mkR k a w) = k := rfl
theorem rA_mk (k a : Int) (w : ByteArray) : rA (mkR k a w) = a := rfl
theorem rW_mk (k a : Int) (w : ByteArray) : rW (mkR k a w) = w := rfl

noncomputable def shR (d : Int) (r : List U) : List U := mkR (rK r) (rA r + d) (rW r)
noncomputable def shL (d : Int) (l : List (List U)) : List (List U) := l.map (shR d)
theorem shL_len (d : Int) (l : List (List U)) : (shL d l).length = l.length := by unfold shL; simp
theorem ValR.sh {n m d : Int} {r : List U} (h : ValR n r) (h1 : 0 ≤ d) (h2 : n + d ≤ m) : ValR m (shR d r) :=
  ⟨h.kind, by show 0 ≤ rA r + d; have := h.lo; omega, by show rA r + d ≤ m - 2; have := h.hi; omega, h.sew, h.long, h.form⟩
theorem ValR.mono {n m : Int} {r : List U} (h : ValR n r) (h1 : n ≤ m) : ValR m r := ⟨h.kind, h.lo, by have := h.hi; omega, h.sew, h.long, h.form⟩
end Go.Proofs.Ytkbebiebaenbdaa.Ev
namespace Go.Proofs.Ytkbebiebaenbdaa.Ev
open Go.Proofs

noncomputable def rowEq (x y : List U) : Bool := bc (rK x == rK y) (bc (rA x == rA y) (bc ((rW x).toList == (rW y).toList) true false) false) false
theorem rowEq_self (x : List U) : rowEq x x = true := by
  unfold rowEq
  simp [bc_t]
noncomputable def sameR : List (List U) → List (List U) → Bool
  | x :: a, y :: b => bc (rowEq x y) (sameR a b) false
  | _, _ => true
theorem sameR_cons (x y : List U) (a b : List (List U)) : sameR (x :: a) (y :: b) = bc (rowEq x y) (sameR a b) false := rfl
theorem sameR_self : ∀ a, sameR a a = true
  | [] => rfl
  | x :: a => by rw [sameR_cons, rowEq_self, bc_t, sameR_self a]
noncomputable def sameW (n m : Int) (a b : List (List U)) : Bool := bc (n != m) false (bc (Int.ofNat a.length != Int.ofNat b.length) false (sameR a b))
theorem sameW_self (n : Int) (a : List (List U)) : sameW n n a a = true := by
  unfold sameW
  simp [bc_f, sameR_self]
namespace MSame
noncomputable def RUN (s : ES) : ZF := RZ 25 .nil (atS 0 25 4) [] [[(2,none),(3,none),(5,none)]] false s

noncomputable def sSame (n m : Int) (a b : List (List U)) (i : Int) : NS := ⟨[⟨25, 38, [(2, (EV.ptr 0 0)), (3, (EV.ptr 1 0)), (5, iv i)], [.it (.code (nav [1, 1, 0, 1, 0, 0, 0] (bodyOf Try.f25))), .it (.code (nav [1, 1, 0, 1, 0, 0, 1] (bodyOf Try.f25))), .it (.inLoop (nav [1, 1, 0, 1, 0, 0] (bodyOf Try.f25))), .it (.inBlock 0), .it (.code (nav [1, 1, 1] (bodyOf Try.f25)))], [], Option.none⟩], [(0, (EK.cells 24 [(EV.v (Value.int IntKind.i64 (n))), (EV.lst (SyC.recs [(Sh.int IntKind.i64), (Sh.int IntKind.i64), Sh.str] (a)))] true)), (1, (EK.cells 24 [(EV.v (Value.int IntKind.i64 (m))), (EV.lst (SyC.recs [(Sh.int IntKind.i64), (Sh.int IntKind.i64), Sh.str] (b)))] true))], 2⟩
theorem in_t (n m : Int) (a b : List (List U)) : RUN (st0 25 [.agg [iv n, wl a], .agg [iv m, wl b]]) = (bc (n != m) (.done (EV.v (Value.bool false)) [] 0) (bc (Int.ofNat (List.length a) != Int.ofNat (List.length b)) (.done (EV.v (Value.bool false)) [] 0) (.at (sSame (n) (m) (a) (b) ((0 : Int)))))) := by kernel_rfl
theorem step_t (n m : Int) (a b : List (List U)) (i : Int) : RUN (stOf (sSame n m a b i)) = (bc (decide (i < Int.ofNat (List.length a))) (bc (bc (bc (bc (bc (decide ((0 : Int) ≤ i)) (Nat.blt (Int.toNat i) (List.length a)) false) true false) (bc (bc (Nat.blt (Int.toNat i) (List.length a)) true false) (bc (bc (bc (decide ((0 : Int) ≤ i)) (Nat.blt (Int.toNat i) (List.length b)) false) true false) (bc (bc (Nat.blt (Int.toNat i) (List.length b)) true false) true false) false) false) false) true false) (bc (bnot (bc (U.int (List.getD (List.getD a (Int.toNat i) []) (0 : Nat) (U.i (0 : Int))) == U.int (List.getD (List.getD b (Int.toNat i) []) (0 : Nat) (U.i (0 : Int)))) (bc (U.int (List.getD (List.getD a (Int.toNat i) []) (Nat.succ (0 : Nat)) (U.i (0 : Int))) == U.int (List.getD (List.getD b (Int.toNat i) []) (Nat.succ (0 : Nat)) (U.i (0 : Int)))) (bc (ByteArray.toList (U.str (List.getD (List.getD a (Int.toNat i) []) (Nat.succ (Nat.succ (0 : Nat))) (U.i (0 : Int)))) == ByteArray.toList (U.str (List.getD (List.getD b (Int.toNat i) []) (Nat.succ (Nat.succ (0 : Nat))) (U.i (0 : Int))))) true false) false) false)) (.done (EV.v (Value.bool false)) [] 0) (.at (sSame (n) (m) (a) (b) (IntKind.wrap IntKind.i64 (i + (1 : Int)))))) .bad) (.done (EV.v (Value.bool true)) [] 0)) := by kernel_rfl
theorem step {n m : Int} {a b : List (List U)} {i : Nat} (hi : i < a.length) (hl : a.length ≤ 100000) (hb : a.length = b.length) : RUN (stOf (sSame n m a b i)) = bc (rowEq a[i] (b[i]'(by omega))) (.at (sSame n m a b (i + 1 : Nat))) (.done (bv false) [] 0) := by
  rw [step_t]
  have e : a.getD i [] = a[i] := getD_at hi
  have e2 : b.getD i [] = b[i]'(by omega) := getD_at (by omega)
  simp (disch := omega) only [Nat.add_eq, eqSy_self, eqN_self, bc_same, List.length_cons, ofn, wrap_in, dt, df, bltD, bltN, ble_of, bleN, beqD, bc_t, bc_f, nn_ok, Nat.zero_add, to_nat, Int.zero_add, Int.sub_zero, Int.sub_self, Int.cast_ofNat_Int, Int.natCast_zero, Int.toNat_zero, List.take_zero, List.nil_append, List.length_append, List.length_nil, e, e2, fK0, fK1, fA0, fA1, fA2, fW0, fW1, fW2]
  show bc (bnot (rowEq _ _)) _ _ = _
  cases rowEq a[i] (b[i]'(by omega)) <;> rfl
theorem last {n m : Int} {a b : List (List U)} {i : Nat} (hi : a.length ≤ i) : RUN (stOf (sSame n m a b i)) = .done (bv true) [] 0 := by
  rw [step_t]
  simp (disch := omega) only [Nat.add_eq, eqSy_self, eqN_self, bc_same, List.length_cons, ofn, wrap_in, dt, df, bltD, bltN, ble_of, bleN, beqD, bc_t, bc_f, nn_ok, Nat.zero_add, to_nat, Int.zero_add, Int.sub_zero, Int.sub_self, Int.cast_ofNat_Int, Int.natCast_zero, Int.toNat_zero, List.take_zero, List.nil_append, List.length_append, List.length_nil]
theorem loop {n m : Int} {a b : List (List U)} (hl : a.length ≤ 100000) (hb : a.length = b.length) : ∀ (k i : Nat), i + k = a.length → EndZ 25 .nil false (stOf (sSame n m a b i)) (bv (sameR (a.drop i) (b.drop i))) [] 0
  | 0, i, h => by
    rw [List.drop_eq_nil_of_le (by omega)]
    exact .done (last (by omega))
  | k + 1, i, h => by
    have hi : i < a.length := by omega
    have hs := step (n := n) (m := m) hi hl hb
    rw [List.drop_eq_getElem_cons hi, List.drop_eq_getElem_cons (show i < b.length by omega), sameR_cons]
    cases hc : rowEq a[i] (b[i]'(by omega)) <;> rw [hc] at hs
    · exact .done hs
    · exact .at (.nil _) hs (loop hl hb k (i + 1) (by omega))
theorem ends (n m : Int) (a b : List (List U)) (hl : a.length ≤ 100000) : EndZ 25 .nil false (st0 25 [.agg [iv n, wl a], .agg [iv m, wl b]]) (bv (sameW n m a b)) [] 0 := by
  have h := in_t n m a b
  unfold sameW
  cases h1 : (n != m) <;> rw [h1] at h
  · cases h2 : (Int.ofNat a.length != Int.ofNat b.length) <;> rw [h2] at h
    · have hb : a.length = b.length := by have : (a.length : Int) = b.length := by simpa using h2
                                          omega
      exact .at (.nil _) h (loop hl hb a.length 0 (by omega))
    · exact .done h
  · exact .done h
end MSame
noncomputable def spSame : ZCT := fun ax => match ax with
  | [.agg [.v (.int .i64 n), .lst (.recs [.int .i64, .int .i64, .str] a)], .agg [.v (.int .i64 m), .lst (.recs [.int .i64, .int .i64, .str] b)]] => some ⟨decide (a.length ≤ 100000), bv (sameW n m a b), [], 0⟩
  | _ => none
theorem spSame_ok : ZCtOk Try.prog 25 spSame := fun γ w us ax r hs hc hax hN hfz => by
  unfold spSame at hs
  split at hs
  case h_2 => cases hs
  rename_i n a m b
  obtain ⟨rfl⟩ := Option.some.inj hs
  have hc_0 : decide (a.length ≤ 100000) = true := hc
  have hc := of_decide_eq_true hc_0
  exact EndZ.calls (MSame.ends n m a b hc) (.nil _) (by kernel_rfl) hax hN hfz

namespace RPlc
noncomputable def RUN (s : ES) : ZF := RZ 70 .nil (atS 0 70 3) [] [[(1,none),(2,none),(4,none),(5,some (3, 81, .recs shW [])),(6,none)]] false s

noncomputable def sP (n k : Int) (l : List (List U)) (i : Int) (q : List (List U)) (nn : Bool) : NS := ⟨[⟨70, 35, [(1, (EV.v (Value.int IntKind.i64 (k)))), (2, (EV.ptr 0 0)), (4, (EV.ptr 1 0)), (5, (EV.ptr 2 0)), (6, iv i)], [.it (.code (nav [1, 1, 0, 1, 0, 0, 0] (bodyOf Try.f70))), .it (.code (nav [1, 1, 0, 1, 0, 0, 1] (bodyOf Try.f70))), .it (.inLoop (nav [1, 1, 0, 1, 0, 0] (bodyOf Try.f70))), .it (.inBlock 0), .it (.code (nav [1, 1, 1] (bodyOf Try.f70)))], [], Option.none⟩], [(0, (EK.cells 24 [(EV.v (Value.int IntKind.i64 (n))), (EV.lst (SyC.recs [(Sh.int IntKind.i64), (Sh.int IntKind.i64), Sh.str] (l)))] true)), (1, (EK.cells 24 [(EV.v (Value.int IntKind.i64 (0))), (EV.v (Value.slice Option.none 0 0))] true)), (2, EK.cells 24 [iv n, EV.slO 3 3 q.length nn] true), (3, EK.seq 81 (.recs shW q) nn)], 4⟩
theorem in_t (n k : Int) (l : List (List U)) : RUN (st0 70 [.agg [iv n, wl l], iv k]) = (.at (sP (n) (k) (l) ((0 : Int)) ([]) (false))) := by kernel_rfl
theorem step_t (n k : Int) (l : List (List U)) (i : Int) (q : List (List U)) (nn : Bool) : RUN (stOf (sP n k l i q nn)) = (bc (decide (i < Int.ofNat (List.length l))) (bc (bc (bc (decide ((0 : Int) ≤ i)) (Nat.blt (Int.toNat i) (List.length l)) false) true false) (bc (bc (Nat.blt (Int.toNat i) (List.length l)) true false) (bc (bc (Nat.beq (List.length q) (List.length q)) (bc (Nat.ble (List.length q + List.length [[U.i (U.int (List.getD (List.getD l (Int.toNat i) []) (0 : Nat) (U.i (0 : Int)))), U.i (IntKind.wrap IntKind.i64 (U.int (List.getD (List.getD l (Int.toNat i) []) (Nat.succ (0 : Nat)) (U.i (0 : Int))) + k)), U.s (U.str (List.getD (List.getD l (Int.toNat i) []) (Nat.succ (Nat.succ (0 : Nat))) (U.i (0 : Int))))]]) (65536 : Nat)) (bc nn true (bc nn false true)) false) false) (.at (sP (n) (k) (l) (IntKind.wrap IntKind.i64 (i + (1 : Int))) (q ++ [[U.i (U.int (List.getD (List.getD l (Int.toNat i) []) (0 : Nat) (U.i (0 : Int)))), U.i (IntKind.wrap IntKind.i64 (U.int (List.getD (List.getD l (Int.toNat i) []) (Nat.succ (0 : Nat)) (U.i (0 : Int))) + k)), U.s (U.str (List.getD (List.getD l (Int.toNat i) []) (Nat.succ (Nat.succ (0 : Nat))) (U.i (0 : Int))))]]) (bc nn true (Nat.blt (0 : Nat) (List.length [[U.i (U.int (List.getD (List.getD l (Int.toNat i) []) (0 : Nat) (U.i (0 : Int)))), U.i (IntKind.wrap IntKind.i64 (U.int (List.getD (List.getD l (Int.toNat i) []) (Nat.succ (0 : Nat)) (U.i (0 : Int))) + k)), U.s (U.str (List.getD (List.getD l (Int.toNat i) []) (Nat.succ (Nat.succ (0 : Nat))) (U.i (0 : Int))))]]))))) .bad) .bad) .bad) (bc (bc (Nat.beq (List.length q) (List.length q)) true false) (.done (EV.agg [(EV.v (Value.int IntKind.i64 (n))), (EV.lst (SyC.recs [(Sh.int IntKind.i64), (Sh.int IntKind.i64), Sh.str] (q)))]) [] 0) .bad)) := by kernel_rfl
theorem step {n k : Int} {l : List (List U)} {i : Nat} {q : List (List U)} {nn : Bool} (hi : i < l.length) (hl : l.length ≤ 1000) (hq : q.length ≤ 1000) (ha : 0 ≤ rA l[i] ∧ rA l[i] ≤ 1000) (hk : -1000 ≤ k ∧ k ≤ 1000) : RUN (stOf (sP n k l i q nn)) = .at (sP n k l (i + 1 : Nat) (q ++ [shR k l[i]]) true) := by
  rw [step_t]
  have e : l.getD i [] = l[i] := getD_at hi
  simp (disch := omega) only [Nat.add_eq, eqSy_self, eqN_self, bc_same, List.length_cons, ofn, wrap_in, dt, df, bltD, bltN, ble_of, bleN, beqD, bc_t, bc_f, nn_ok, Nat.zero_add, to_nat, Int.zero_add, Int.sub_zero, Int.sub_self, Int.cast_ofNat_Int, Int.natCast_zero, Int.toNat_zero, List.take_zero, List.nil_append, List.length_append, List.length_nil, e, fK0, fK1, fA0, fA1, fA2, fW0, fW1, fW2]
  rfl
theorem last {n k : Int} {l : List (List U)} {i : Nat} {q : List (List U)} {nn : Bool} (hi : l.length ≤ i) : RUN (stOf (sP n k l i q nn)) = .done (.agg [iv n, wl q]) [] 0 := by
  rw [step_t]
  simp (disch := omega) only [Nat.add_eq, eqSy_self, eqN_self, bc_same, List.length_cons, ofn, wrap_in, dt, df, bltD, bltN, ble_of, bleN, beqD, bc_t, bc_f, nn_ok, Nat.zero_add, to_nat, Int.zero_add, Int.sub_zero, Int.sub_self, Int.cast_ofNat_Int, Int.natCast_zero, Int.toNat_zero, List.take_zero, List.nil_append, List.length_append, List.length_nil]
  rfl
theorem loop {n k : Int} {l : List (List U)} (hl : l.length ≤ 1000) (ha : AtOk l) (hk : -1000 ≤ k ∧ k ≤ 1000) : ∀ (m i : Nat) (q : List (List U)) (nn : Bool), i + m = l.length → q.length ≤ i → EndZ 70 .nil false (stOf (sP n k l i q nn)) (.agg [iv n, wl (q ++ shL k (l.drop i))]) [] 0
  | 0, i, q, nn, h, hq => by
    rw [List.drop_eq_nil_of_le (by omega)]
    show EndZ _ _ _ _ (.agg [iv n, wl (q ++ [])]) _ _
    rw [List.append_nil]
    exact .done (last (by omega))
  | m + 1, i, q, nn, h, hq => by
    have hi : i < l.length := by omega
    rw [List.drop_eq_getElem_cons hi]
    show EndZ _ _ _ _ (.agg [iv n, wl (q ++ (shR k l[i] :: shL k (l.drop (i + 1))))]) _ _
    rw [show q ++ (shR k l[i] :: shL k (l.drop (i + 1))) = (q ++ [shR k l[i]]) ++ shL k (l.drop (i + 1)) by simp]
    exact .at (.nil _) (step hi hl (by omega) (ha _ (List.getElem_mem hi)) hk) (loop hl ha hk m (i + 1) _ true (by omega) (by simp; omega))
end RPlc
noncomputable def spPlc : ZCT := fun ax => match ax with
  | [.agg [.v (.int .i64 n), .lst (.recs [.int .i64, .int .i64, .str] l)], .v (.int .i64 k)] => some ⟨decide (l.length ≤ 1000 ∧ AtOk l ∧ -1000 ≤ k ∧ k ≤ 1000), .agg [iv n, wl (shL k l)], [], 0⟩
  | _ => none
theorem spPlc_ok : ZCtOk Try.prog 70 spPlc := fun γ w us ax r hs hc hax hN hfz => by
  unfold spPlc at hs
  split at hs
  case h_2 => cases hs
  rename_i n l k
  obtain ⟨rfl⟩ := Option.some.inj hs
  have hc_0 : decide (l.length ≤ 1000 ∧ AtOk l ∧ -1000 ≤ k ∧ k ≤ 1000) = true := hc
  have hc := of_decide_eq_true hc_0
  exact EndZ.calls (.at (.nil _) (RPlc.in_t n k l) (RPlc.loop hc.1 hc.2.1 hc.2.2 l.length 0 [] false (by omega) (by simp))) (.nil _) (by kernel_rfl) hax hN hfz
noncomputable def ctJ0 : Tr ZCC := (ctC.put 42 (some (dC spChk4))).put 70 (some (dC spPlc))
theorem ctJ0_ok : ZCtsOk Try.prog ctJ0 := (ctC_ok.add rfl spChk4_ok).add rfl spPlc_ok

noncomputable def both (n m : Int) (l k : List (List U)) : Int := bc (chk4 n l != 0) (chk4 n l) (chk4 m k)
noncomputable def besE (n m : Int) (l k : List (List U)) : Int := bc (both n m l k != 0) (both n m l k) (bc (decide (24 < n + m)) 3 (bc (decide (400 < (l.length : Int) + (k.length : Int))) 3 0))
noncomputable def besP (n m : Int) (l k : List (List U)) : Int := bc (besE n m l k != 0) 0 (n + m)
noncomputable def besL (n m : Int) (l k : List (List U)) : List (List U) := bc (besE n m l k != 0) [] (l ++ shL n k)
noncomputable def belE (n m : Int) (l k : List (List U)) : Int := bc (both n m l k != 0) (both n m l k) (bc (n != m) 2 (bc (decide (400 < (l.length : Int) + (k.length : Int))) 3 0))
noncomputable def belP (n m : Int) (l k : List (List U)) : Int := bc (belE n m l k != 0) 0 n
noncomputable def belL (n m : Int) (l k : List (List U)) : List (List U) := bc (belE n m l k != 0) [] (l ++ k)
theorem ne0 {x : Int} (h : (x != 0) = false) : x = 0 := by simpa using h
theorem besE0 {n m : Int} {l k : List (List U)} (h1 : chk4 n l = 0) (h2 : chk4 m k = 0) : besE n m l k = bc (decide (24 < n + m)) 3 (bc (decide (400 < (l.length : Int) + (k.length : Int))) 3 0) := by
  have e : both n m l k = 0 := by unfold both; rw [h1, h2]; rfl
  unfold besE
  rw [e]; rfl
theorem belE0 {n m : Int} {l k : List (List U)} (h1 : chk4 n l = 0) (h2 : chk4 m k = 0) : belE n m l k = bc (n != m) 2 (bc (decide (400 < (l.length : Int) + (k.length : Int))) 3 0) := by
  have e : both n m l k = 0 := by unfold both; rw [h1, h2]; rfl
  unfold belE
  rw [e]; rfl
theorem besE1 {n m : Int} {l k : List (List U)} {e : Int} (h : both n m l k = e) (he : (e != 0) = true) : besE n m l k = e := by unfold besE; rw [h, he]; rfl
theorem belE1 {n m : Int} {l k : List (List U)} {e : Int} (h : both n m l k = e) (he : (e != 0) = true) : belE n m l k = e := by unfold belE; rw [h, he]; rfl
theorem doneX {f : FuncId} {ct : Tr ZCC} {s : ES} {p p' : Int} {q q' : List (List U)} {e e' : Int} {ps : PLs} {lk : List Nat} (h : RZs f ct ps lk false s = .done (shE p q e) [] 0) (hp : p = p') (hq : q = q') (he : e = e') : EndZ f ct false s (shE p' q' e') [] 0 := by
  subst hp; subst hq; subst he; exact .done h
theorem doneY {f : FuncId} {ct : Tr ZCC} {s : ES} {p' : Int} {q' : List (List U)} {e e' : Int} {ps : PLs} {lk : List Nat} (h : RZs f ct ps lk false s = .done (shN e) [] 0) (hp : 0 = p') (hq : [] = q') (he : e = e') : EndZ f ct false s (shE p' q' e') [] 0 := by
  subst hp; subst hq; subst he; exact (EndZ.done h).weak (shN_weak e)
theorem besV {n m : Int} {l k : List (List U)} {e : Int} (h : besE n m l k = e) (he : (e != 0) = true) : besP n m l k = 0 ∧ besL n m l k = [] := by unfold besP besL; rw [h, he]; exact ⟨rfl, rfl⟩
theorem besV0 {n m : Int} {l k : List (List U)} (h : besE n m l k = 0) : besP n m l k = n + m ∧ besL n m l k = l ++ shL n k := by unfold besP besL; rw [h]; exact ⟨rfl, rfl⟩
theorem belV {n m : Int} {l k : List (List U)} {e : Int} (h : belE n m l k = e) (he : (e != 0) = true) : belP n m l k = 0 ∧ belL n m l k = [] := by unfold belP belL; rw [h, he]; exact ⟨rfl, rfl⟩
theorem belV0 {n m : Int} {l k : List (List U)} (h : belE n m l k = 0) : belP n m l k = n ∧ belL n m l k = l ++ k := by unfold belP belL; rw [h]; exact ⟨rfl, rfl⟩
theorem atS3 {n : Int} {k : List (List U)} (v : ValS n k) (d : Int) (h1 : 0 ≤ d) (h2 : d ≤ 24) : k.length ≤ 1000 ∧ AtOk k ∧ -1000 ≤ d ∧ d ≤ 1000 := ⟨by have := v.len; omega, v.at, by omega, by omega⟩
noncomputable abbrev as2 (n m : Int) (l k : List (List U)) : List EV := [.agg [iv n, wl l], .agg [iv m, wl k]]
namespace RBes
end RBes
namespace RBel
end RBel
noncomputable def repL (l : List (List U)) : Nat → List (List U)
  | 0 => []
  | k + 1 => l ++ repL l k
theorem repL_len (l : List (List U)) : ∀ k, (repL l k).length = k * l.length
  | 0 => by simp [repL]
  | k + 1 => by unfold repL; rw [List.length_append, repL_len l k, Nat.succ_mul]; omega
noncomputable def timE (n t : Int) (l : List (List U)) : Int := bc (chk4 n l != 0) (chk4 n l) (bc (decide (t < 0)) 7 (bc (decide (400 < t)) 7 (bc (decide (400 < t * (l.length : Int))) 3 0)))
noncomputable def timP (n t : Int) (l : List (List U)) : Int := bc (timE n t l != 0) 0 n
noncomputable def timL (n t : Int) (l : List (List U)) : List (List U) := bc (timE n t l != 0) [] (repL l t.toNat)
theorem timV {n t : Int} {l : List (List U)} {e : Int} (h : timE n t l = e) (he : (e != 0) = true) : timP n t l = 0 ∧ timL n t l = [] := by unfold timP timL; rw [h, he]; exact ⟨rfl, rfl⟩
theorem timV0 {n t : Int} {l : List (List U)} (h : timE n t l = 0) : timP n t l = n ∧ timL n t l = repL l t.toNat := by unfold timP timL; rw [h]; exact ⟨rfl, rfl⟩
namespace RTim
end RTim
end Go.Proofs.Ytkbebiebaenbdaa.Ev
namespace Go.Proofs.Ytkbebiebaenbdaa.Ev
open Go.Proofs
noncomputable abbrev bl (l : List Bool) : EV := .lst (.bools l)
namespace RTou
noncomputable def RUN (s : ES) : ZF := RZ 78 .nil (fun _ => false) [] [] false s
theorem in_t (a b c d : Int) (u v : ByteArray) : RUN (st0 78 [.agg [iv a, iv b, sv u], .agg [iv c, iv d, sv v]]) = (bc (decide (IntKind.wrap IntKind.i64 (b - d) ≤ (1 : Int))) (.done (EV.v (Value.bool (decide (IntKind.wrap IntKind.i64 (d - b) ≤ (1 : Int))))) [] 0) (.done (EV.v (Value.bool false)) [] 0)) := by kernel_rfl
theorem ends (a b c d : Int) (u v : ByteArray) (h : -1000 ≤ b ∧ b ≤ 1000 ∧ -1000 ≤ d ∧ d ≤ 1000) : EndZ 78 .nil false (st0 78 [.agg [iv a, iv b, sv u], .agg [iv c, iv d, sv v]]) (bv (bc (decide (b - d ≤ 1)) (decide (d - b ≤ 1)) false)) [] 0 := by
  have h2 := in_t a b c d u v
  simp (disch := omega) only [wrap_in] at h2
  cases h3 : decide (b - d ≤ 1) <;> rw [h3] at h2 <;> exact .done h2
end RTou
noncomputable def spTou : ZCT := fun ax => match ax with
  | [.agg [.v (.int .i64 a), .v (.int .i64 b), .v (.string u)], .agg [.v (.int .i64 c), .v (.int .i64 d), .v (.string v)]] => some ⟨decide (-1000 ≤ b ∧ b ≤ 1000 ∧ -1000 ≤ d ∧ d ≤ 1000), bv (bc (decide (b - d ≤ 1)) (decide (d - b ≤ 1)) false), [], 0⟩
  | _ => none
theorem spTou_ok : ZCtOk Try.prog 78 spTou := fun γ w us ax r hs hc hax hN hfz => by
  unfold spTou at hs
  split at hs
  case h_2 => cases hs
  rename_i a b u c d v
  obtain ⟨rfl⟩ := Option.some.inj hs
  have hc_0 : decide (-1000 ≤ b ∧ b ≤ 1000 ∧ -1000 ≤ d ∧ d ≤ 1000) = true := hc
  have hc := of_decide_eq_true hc_0
  exact EndZ.calls (RTou.ends a b c d u v hc) (.nil _) (by kernel_rfl) hax hN hfz
noncomputable def ctK : Tr ZCC := Tr.nil.put 78 (some (dC spTou))
theorem ctK_ok : ZCtsOk Try.prog ctK := (ZCtsOk.nil _).add rfl spTou_ok
namespace RKep
noncomputable def RUN (s : ES) : ZF := RZs 44 ctK [(atS 0 44 3, [[(1,none),(2,none),(3,none),(7,none),(8,none)]]), (atS 0 44 7, [[(1,none),(2,none),(3,none),(7,none),(8,none),(9,none)]])] [] false s

noncomputable def sO (n a b : Int) (l : List (List U)) (m : Nat) (i : Int) (q : List Bool) : NS := ⟨[⟨44, 69, [(1, (EV.v (Value.int IntKind.i64 (a)))), (2, (EV.v (Value.int IntKind.i64 (b)))), (3, (EV.ptr 0 0)), (7, EV.slO 1 1 m true), (8, iv i)], [.it (.code (nav [1, 1, 0, 1, 0, 0, 0] (bodyOf Try.f44))), .it (.code (nav [1, 1, 0, 1, 0, 0, 1] (bodyOf Try.f44))), .it (.inLoop (nav [1, 1, 0, 1, 0, 0] (bodyOf Try.f44))), .it (.inBlock 0), .it (.code (nav [1, 1, 1] (bodyOf Try.f44)))], [], Option.none⟩], [(0, (EK.cells 24 [(EV.v (Value.int IntKind.i64 (n))), (EV.lst (SyC.recs [(Sh.int IntKind.i64), (Sh.int IntKind.i64), Sh.str] (l)))] true)), (1, EK.seq 4 (.bools q) true)], 2⟩
noncomputable def sI (n a b : Int) (l : List (List U)) (m : Nat) (i j : Int) (q : List Bool) : NS := ⟨[⟨44, 69, [(1, (EV.v (Value.int IntKind.i64 (a)))), (2, (EV.v (Value.int IntKind.i64 (b)))), (3, (EV.ptr 0 0)), (7, EV.slO 1 1 m true), (8, iv i), (9, iv j)], [.it (.code (nav [1, 1, 0, 1, 0, 0, 1, 0, 0, 1, 1, 0, 0, 0] (bodyOf Try.f44))), .it (.code (nav [1, 1, 0, 1, 0, 0, 1, 0, 0, 1, 1, 0, 0, 1] (bodyOf Try.f44))), .it (.inLoop (nav [1, 1, 0, 1, 0, 0, 1, 0, 0, 1, 1, 0, 0] (bodyOf Try.f44))), .it (.inBlock 2), .it (.inBlock 1), .it (.code (nav [1, 1, 0, 1, 0, 0, 1, 1] (bodyOf Try.f44))), .it (.inLoop (nav [1, 1, 0, 1, 0, 0] (bodyOf Try.f44))), .it (.inBlock 0), .it (.code (nav [1, 1, 1] (bodyOf Try.f44)))], [], Option.none⟩], [(0, EK.cells 24 [iv n, wl l] true), (1, EK.seq 4 (.bools q) true)], 2⟩
theorem in_t (n a b : Int) (l : List (List U)) : RUN (st0 44 [.agg [iv n, wl l], iv a, iv b]) = (bc (bc (decide (Int.ofNat (List.length l) ≤ Int.ofNat (List.length l))) (decide (Int.ofNat (List.length l) ≤ (65536 : Int))) false) (.at (sO (n) (a) (b) (l) (List.length (List.replicate (Int.toNat (Int.ofNat (List.length l))) false)) ((0 : Int)) (List.replicate (Int.toNat (Int.ofNat (List.length l))) false))) .bad) := by kernel_rfl
theorem o_t (n a b : Int) (l : List (List U)) (m : Nat) (i : Int) (q : List Bool) : RUN (stOf (sO n a b l m i q)) = (bc (decide (i < Int.ofNat (List.length l))) (bc (bc (bc (decide ((0 : Int) ≤ i)) (Nat.blt (Int.toNat i) (List.length l)) false) true false) (bc (bc (Nat.blt (Int.toNat i) (List.length l)) true false) (bc (decide (a ≤ U.int (List.getD (List.getD l (Int.toNat i) []) (Nat.add (0 : Nat) (1 : Nat)) (U.i (0 : Int))))) (bc (bc (bc (decide ((0 : Int) ≤ i)) (Nat.blt (Int.toNat i) (List.length l)) false) true false) (bc (bc (Nat.blt (Int.toNat i) (List.length l)) true false) (bc (bc (bc (decide ((0 : Int) ≤ i)) (Nat.blt (Int.toNat i) m) false) true false) (bc (Nat.blt (Int.toNat i) (List.length q)) (.at (sI (n) (a) (b) (l) (m) (i) ((0 : Int)) (List.set q (Int.toNat i) (decide (U.int (List.getD (List.getD l (Int.toNat i) []) (Nat.add (0 : Nat) (1 : Nat)) (U.i (0 : Int))) < b))))) .bad) .bad) .bad) .bad) (bc (bc (bc (decide ((0 : Int) ≤ i)) (Nat.blt (Int.toNat i) m) false) true false) (bc (Nat.blt (Int.toNat i) (List.length q)) (.at (sI (n) (a) (b) (l) (m) (i) ((0 : Int)) (List.set q (Int.toNat i) false))) .bad) .bad)) .bad) .bad) (bc (Nat.beq m (List.length q)) (.done (EV.lst (SyC.bools (q))) [] 0) .bad)) := by kernel_rfl
theorem i_t (n a b : Int) (l : List (List U)) (m : Nat) (i j : Int) (q : List Bool) : RUN (stOf (sI n a b l m i j q)) = (bc (decide (j < i)) (bc (!List.getD q (Int.toNat j) false) (bc (bc (bc (bc (bc (decide ((0 : Int) ≤ j)) (Nat.blt (Int.toNat j) m) false) true false) (bc (bc (Nat.blt (Int.toNat j) (List.length q)) true false) (bc (eqB (!List.getD q (Int.toNat j) false) true) (bc (bc (bc (decide ((0 : Int) ≤ j)) (Nat.blt (Int.toNat j) (List.length l)) false) true false) (bc (bc (Nat.blt (Int.toNat j) (List.length l)) true false) (bc (bc (bc (decide ((0 : Int) ≤ i)) (Nat.blt (Int.toNat i) (List.length l)) false) true false) (bc (bc (Nat.blt (Int.toNat i) (List.length l)) true false) (bc (bc (decide ((-1000 : Int) ≤ U.int (List.getD (List.getD l (Int.toNat j) []) (Nat.succ (0 : Nat)) (U.i (0 : Int))) ∧ U.int (List.getD (List.getD l (Int.toNat j) []) (Nat.succ (0 : Nat)) (U.i (0 : Int))) ≤ (1000 : Int) ∧ (-1000 : Int) ≤ U.int (List.getD (List.getD l (Int.toNat i) []) (Nat.succ (0 : Nat)) (U.i (0 : Int))) ∧ U.int (List.getD (List.getD l (Int.toNat i) []) (Nat.succ (0 : Nat)) (U.i (0 : Int))) ≤ (1000 : Int))) true false) true false) false) false) false) false) false) false) false) true false) (bc (bc (decide (U.int (List.getD (List.getD l (Int.toNat j) []) (Nat.succ (0 : Nat)) (U.i (0 : Int))) - U.int (List.getD (List.getD l (Int.toNat i) []) (Nat.succ (0 : Nat)) (U.i (0 : Int))) ≤ (1 : Int))) (decide (U.int (List.getD (List.getD l (Int.toNat i) []) (Nat.succ (0 : Nat)) (U.i (0 : Int))) - U.int (List.getD (List.getD l (Int.toNat j) []) (Nat.succ (0 : Nat)) (U.i (0 : Int))) ≤ (1 : Int))) false) (bc (bc (bc (decide ((0 : Int) ≤ i)) (Nat.blt (Int.toNat i) m) false) true false) (bc (Nat.blt (Int.toNat i) (List.length q)) (.at (sI (n) (a) (b) (l) (m) (i) (IntKind.wrap IntKind.i64 (j + (1 : Int))) (List.set q (Int.toNat i) false))) .bad) .bad) (.at (sI (n) (a) (b) (l) (m) (i) (IntKind.wrap IntKind.i64 (j + (1 : Int))) (q)))) .bad) (bc (bc (bc (bc (bc (decide ((0 : Int) ≤ j)) (Nat.blt (Int.toNat j) m) false) true false) (bc (bc (Nat.blt (Int.toNat j) (List.length q)) true false) (bc (eqB (!List.getD q (Int.toNat j) false) false) true false) false) false) true false) (.at (sI (n) (a) (b) (l) (m) (i) (IntKind.wrap IntKind.i64 (j + (1 : Int))) (q))) .bad)) (.at (sO (n) (a) (b) (l) (m) (IntKind.wrap IntKind.i64 (i + (1 : Int))) (q)))) := by kernel_rfl
end RKep
noncomputable def tch (x y : List U) : Bool := bc (decide (rA x - rA y ≤ 1)) (decide (rA y - rA x ≤ 1)) false
noncomputable def inB (l : List (List U)) (q : List Bool) (i j : Nat) : Nat → Bool
  | 0 => false
  | k + 1 => bc (bc (!q.getD j false) (tch (l.getD j []) (l.getD i [])) false) true (inB l q i (j + 1) k)
theorem eqBt : eqB true true = true := rfl
theorem eqBf : eqB false false = true := rfl
def AtG (l : List (List U)) : Prop := ∀ j, j < l.length → -1000 ≤ rA (l.getD j []) ∧ rA (l.getD j []) ≤ 1000
noncomputable instance AtG.dec (l : List (List U)) : Decidable (AtG l) := Classical.propDecidable _
namespace RKep
theorem istep {n a b : Int} {l : List (List U)} {i j : Nat} {q : List Bool} (hl : l.length ≤ 1000) (hq : q.length = l.length) (hi : i < l.length) (hj : j < i) (ha : AtG l) : RUN (stOf (sI n a b l l.length i j q)) = .at (sI n a b l l.length i (j + 1 : Nat) (bc (bc (!q.getD j false) (tch (l.getD j []) (l.getD i [])) false) (q.set i false) q)) := by
  rw [i_t]
  have h1 := ha j (by omega)
  have h2 := ha i hi
  have h3 : -1000 ≤ rA (l.getD j []) ∧ rA (l.getD j []) ≤ 1000 ∧ -1000 ≤ rA (l.getD i []) ∧ rA (l.getD i []) ≤ 1000 := ⟨h1.1, h1.2, h2.1, h2.2⟩
  cases hb : q.getD j false
  · simp (disch := omega) only [Nat.add_eq, eqSy_self, eqN_self, bc_same, List.length_cons, ofn, wrap_in, dt, df, bltD, bltN, ble_of, bleN, beqD, bc_t, bc_f, nn_ok, Nat.zero_add, to_nat, Int.zero_add, Int.sub_zero, Int.sub_self, Int.cast_ofNat_Int, Int.natCast_zero, Int.toNat_zero, List.take_zero, List.nil_append, List.length_append, List.length_nil, fK0, fK1, fA0, fA1, fA2, fW0, fW1, fW2, hb, hq, dt h3, Bool.not_false, eqBt, bc_bc]
    unfold tch
    cases decide (rA (l.getD j []) - rA (l.getD i []) ≤ 1)
    · rfl
    · cases decide (rA (l.getD i []) - rA (l.getD j []) ≤ 1) <;> rfl
  · simp (disch := omega) only [Nat.add_eq, eqSy_self, eqN_self, bc_same, List.length_cons, ofn, wrap_in, dt, df, bltD, bltN, ble_of, bleN, beqD, bc_t, bc_f, nn_ok, Nat.zero_add, to_nat, Int.zero_add, Int.sub_zero, Int.sub_self, Int.cast_ofNat_Int, Int.natCast_zero, Int.toNat_zero, List.take_zero, List.nil_append, List.length_append, List.length_nil, fK0, fK1, fA0, fA1, fA2, fW0, fW1, fW2, hb, hq, Bool.not_true, eqBf, bc_bc]
    rfl
theorem ilast {n a b : Int} {l : List (List U)} {i j : Nat} {q : List Bool} (hl : l.length ≤ 1000) (hi : i < l.length) (hj : i ≤ j) : RUN (stOf (sI n a b l l.length i j q)) = .at (sO n a b l l.length (i + 1 : Nat) q) := by
  rw [i_t]
  simp (disch := omega) only [Nat.add_eq, eqSy_self, eqN_self, bc_same, List.length_cons, ofn, wrap_in, dt, df, bltD, bltN, ble_of, bleN, beqD, bc_t, bc_f, nn_ok, Nat.zero_add, to_nat, Int.zero_add, Int.sub_zero, Int.sub_self, Int.cast_ofNat_Int, Int.natCast_zero, Int.toNat_zero, List.take_zero, List.nil_append, List.length_append, List.length_nil]
  rfl
theorem inner {n a b : Int} {l : List (List U)} {i : Nat} {V : EV} (hl : l.length ≤ 1000) (hi : i < l.length) (ha : AtG l) : ∀ (k j : Nat) (q : List Bool), j + k = i → q.length = l.length → EndZ 44 ctK false (stOf (sO n a b l l.length (i + 1 : Nat) (bc (inB l q i j k) (q.set i false) q))) V [] 0 → EndZ 44 ctK false (stOf (sI n a b l l.length i j q)) V [] 0
  | 0, j, q, h, hq, H => .at ctK_ok (ilast hl hi (by omega)) H
  | k + 1, j, q, h, hq, H => by
    have hs := istep (n := n) (a := a) (b := b) hl hq hi (show j < i by omega) ha
    unfold inB at H
    cases hc : bc (!q.getD j false) (tch (l.getD j []) (l.getD i [])) false <;> rw [hc] at hs H
    · exact .at ctK_ok hs (inner hl hi ha k (j + 1) q (by omega) hq H)
    · refine .at ctK_ok hs (inner hl hi ha k (j + 1) (q.set i false) (by omega) (by rw [List.length_set]; exact hq) ?_)
      rw [List.set_set]
      have e : ∀ x : Bool, bc x (q.set i false) (q.set i false) = q.set i false := fun x => by cases x <;> rfl
      rw [e]
      exact H
end RKep
noncomputable def rng (a b : Int) (r : List U) : Bool := bc (decide (a ≤ rA r)) (decide (rA r < b)) false
noncomputable def outF (l : List (List U)) (a b : Int) (q : List Bool) (i : Nat) : List Bool := bc (inB l (q.set i (rng a b (l.getD i []))) i 0 i) ((q.set i (rng a b (l.getD i []))).set i false) (q.set i (rng a b (l.getD i [])))
theorem outF_len (l : List (List U)) (a b : Int) (q : List Bool) (i : Nat) : (outF l a b q i).length = q.length := by
  unfold outF
  cases inB l (q.set i (rng a b (l.getD i []))) i 0 i
  · exact List.length_set
  · show ((q.set i _).set i false).length = _
    rw [List.length_set, List.length_set]
noncomputable def kepF (l : List (List U)) (a b : Int) (i : Nat) (q : List Bool) : Nat → List Bool
  | 0 => q
  | k + 1 => kepF l a b (i + 1) (outF l a b q i) k
noncomputable def kepL (a b : Int) (l : List (List U)) : List Bool := kepF l a b 0 (List.replicate l.length false) l.length
namespace RKep
theorem ostep {n a b : Int} {l : List (List U)} {i : Nat} {q : List Bool} (hl : l.length ≤ 1000) (hq : q.length = l.length) (hi : i < l.length) : RUN (stOf (sO n a b l l.length i q)) = .at (sI n a b l l.length i (0 : Nat) (q.set i (rng a b (l.getD i [])))) := by
  rw [o_t]
  unfold rng
  by_cases h : a ≤ rA (l.getD i [])
  · simp (disch := omega) only [Nat.add_eq, eqSy_self, eqN_self, bc_same, List.length_cons, ofn, wrap_in, dt, df, bltD, bltN, ble_of, bleN, beqD, bc_t, bc_f, nn_ok, Nat.zero_add, to_nat, Int.zero_add, Int.sub_zero, Int.sub_self, Int.cast_ofNat_Int, Int.natCast_zero, Int.toNat_zero, List.take_zero, List.nil_append, List.length_append, List.length_nil, fK0, fK1, fA0, fA1, fA2, fW0, fW1, fW2, hq, dt h]
  · simp (disch := omega) only [Nat.add_eq, eqSy_self, eqN_self, bc_same, List.length_cons, ofn, wrap_in, dt, df, bltD, bltN, ble_of, bleN, beqD, bc_t, bc_f, nn_ok, Nat.zero_add, to_nat, Int.zero_add, Int.sub_zero, Int.sub_self, Int.cast_ofNat_Int, Int.natCast_zero, Int.toNat_zero, List.take_zero, List.nil_append, List.length_append, List.length_nil, fK0, fK1, fA0, fA1, fA2, fW0, fW1, fW2, hq, df h]
theorem olast {n a b : Int} {l : List (List U)} {i : Nat} {q : List Bool} (hq : q.length = l.length) (hi : l.length ≤ i) : RUN (stOf (sO n a b l l.length i q)) = .done (bl q) [] 0 := by
  rw [o_t]
  rw [← hq]
  rw [← hq] at hi
  simp (disch := omega) only [Nat.add_eq, eqSy_self, eqN_self, bc_same, List.length_cons, ofn, wrap_in, dt, df, bltD, bltN, ble_of, bleN, beqD, bc_t, bc_f, nn_ok, Nat.zero_add, to_nat, Int.zero_add, Int.sub_zero, Int.sub_self, Int.cast_ofNat_Int, Int.natCast_zero, Int.toNat_zero, List.take_zero, List.nil_append, List.length_append, List.length_nil, hq]
theorem oloop {n a b : Int} {l : List (List U)} (hl : l.length ≤ 1000) (ha : AtG l) : ∀ (k i : Nat) (q : List Bool), i + k = l.length → q.length = l.length → EndZ 44 ctK false (stOf (sO n a b l l.length i q)) (bl (kepF l a b i q k)) [] 0
  | 0, i, q, h, hq => .done (olast hq (by omega))
  | k + 1, i, q, h, hq => by
    have hi : i < l.length := by omega
    exact .at ctK_ok (ostep hl hq hi) (inner hl hi ha i 0 _ (by omega) (by rw [List.length_set]; exact hq) (oloop hl ha k (i + 1) (outF l a b q i) (by omega) (by rw [outF_len]; exact hq)))
theorem ends (n a b : Int) (l : List (List U)) (hl : l.length ≤ 1000) (ha : AtG l) : EndZ 44 ctK false (st0 44 [.agg [iv n, wl l], iv a, iv b]) (bl (kepL a b l)) [] 0 := by
  have h := in_t n a b l
  have e : Int.toNat (Int.ofNat l.length) = l.length := rfl
  simp (disch := omega) only [e, List.length_replicate, Nat.add_eq, eqSy_self, eqN_self, bc_same, List.length_cons, ofn, wrap_in, dt, df, bltD, bltN, ble_of, bleN, beqD, bc_t, bc_f, nn_ok, Nat.zero_add, to_nat, Int.zero_add, Int.sub_zero, Int.sub_self, Int.cast_ofNat_Int, Int.natCast_zero, Int.toNat_zero, List.take_zero, List.nil_append, List.length_append, List.length_nil] at h
  exact .at ctK_ok h (oloop hl ha l.length 0 _ (by omega) List.length_replicate)
end RKep
theorem AtOk.g {l : List (List U)} (h : AtOk l) : AtG l := fun j hj => by
  rw [getD_at hj]
  have := h _ (List.getElem_mem hj)
  omega
noncomputable def spKep : ZCT := fun ax => match ax with
  | [.agg [.v (.int .i64 n), .lst (.recs [.int .i64, .int .i64, .str] l)], .v (.int .i64 a), .v (.int .i64 b)] => some ⟨decide (l.length ≤ 1000 ∧ AtOk l), bl (kepL a b l), [], 0⟩
  | _ => none
theorem spKep_ok : ZCtOk Try.prog 44 spKep := fun γ w us ax r hs hc hax hN hfz => by
  unfold spKep at hs
  split at hs
  case h_2 => cases hs
  rename_i n l a b
  obtain ⟨rfl⟩ := Option.some.inj hs
  have hc_0 : decide (l.length ≤ 1000 ∧ AtOk l) = true := hc
  have hc := of_decide_eq_true hc_0
  exact EndZ.calls (RKep.ends n a b l hc.1 hc.2.g) ctK_ok (by kernel_rfl) hax hN hfz
noncomputable def dnR (a : Int) (r : List U) : List U := mkR (rK r) (rA r - a) (rW r)
noncomputable def cutG (ks : List Bool) (l : List (List U)) (a : Int) (i : Nat) : Nat → List (List U)
  | 0 => []
  | k + 1 => bc (ks.getD i false) (dnR a (l.getD i []) :: cutG ks l a (i + 1) k) (cutG ks l a (i + 1) k)
noncomputable def cutE (n a b : Int) (l : List (List U)) : Int := bc (chk4 n l != 0) (chk4 n l) (bc (decide (a < 0)) 7 (bc (decide (n ≤ b)) 7 (bc (decide (b ≤ a)) 7 0)))
noncomputable def cutP (n a b : Int) (l : List (List U)) : Int := bc (cutE n a b l != 0) 0 (b - a + 1)
noncomputable def cutL (n a b : Int) (l : List (List U)) : List (List U) := bc (cutE n a b l != 0) [] (cutG (kepL a b l) l a 0 l.length)
theorem cutV {n a b : Int} {l : List (List U)} {e : Int} (h : cutE n a b l = e) (he : (e != 0) = true) : cutP n a b l = 0 ∧ cutL n a b l = [] := by unfold cutP cutL; rw [h, he]; exact ⟨rfl, rfl⟩
theorem cutV0 {n a b : Int} {l : List (List U)} (h : cutE n a b l = 0) : cutP n a b l = b - a + 1 ∧ cutL n a b l = cutG (kepL a b l) l a 0 l.length := by unfold cutP cutL; rw [h]; exact ⟨rfl, rfl⟩
theorem kepF_len (l : List (List U)) (a b : Int) : ∀ (k i : Nat) (q : List Bool), (kepF l a b i q k).length = q.length
  | 0, i, q => rfl
  | k + 1, i, q => by unfold kepF; rw [kepF_len l a b k (i + 1), outF_len]
theorem kepL_len (a b : Int) (l : List (List U)) : (kepL a b l).length = l.length := by unfold kepL; rw [kepF_len, List.length_replicate]
namespace RCut
end RCut
end Go.Proofs.Ytkbebiebaenbdaa.Ev
namespace Go.Proofs.Ytkbebiebaenbdaa.Ev
namespace MatchP
section
variable {α : Type} (eq tch : α → α → Bool)
variable {eq tch}
end
end MatchP
end Go.Proofs.Ytkbebiebaenbdaa.Ev
namespace Go.Proofs.Ytkbebiebaenbdaa.Ev
open Go.Proofs
noncomputable def rdyB (l : List (List U)) (d : List Bool) (i j : Nat) : Nat → Bool
  | 0 => !(d.getD i false)
  | k + 1 => bc (bc (!d.getD j false) (tch (l.getD j []) (l.getD i [])) false) false (rdyB l d i (j + 1) k)
noncomputable def rdy (l : List (List U)) (d : List Bool) (i : Nat) : Bool := rdyB l d i 0 i
namespace RRdy
noncomputable def RUN (s : ES) : ZF := RZ 101 ctK (atS 0 101 2) [] [[(1,none),(2,none),(3,none),(7,none)]] false s

noncomputable def sR (n : Int) (l : List (List U)) (d : List Bool) (i j : Int) : NS := ⟨[⟨101, 36, [(1, (EV.lst (SyC.bools (d)))), (2, (EV.v (Value.int IntKind.i64 (i)))), (3, (EV.ptr 0 0)), (7, iv j)], [.it (.code (nav [1, 0, 1, 0, 0, 0] (bodyOf Try.f101))), .it (.code (nav [1, 0, 1, 0, 0, 1] (bodyOf Try.f101))), .it (.inLoop (nav [1, 0, 1, 0, 0] (bodyOf Try.f101))), .it (.inBlock 0), .it (.code (nav [1, 1] (bodyOf Try.f101)))], [], Option.none⟩], [(0, (EK.cells 24 [(EV.v (Value.int IntKind.i64 (n))), (EV.lst (SyC.recs [(Sh.int IntKind.i64), (Sh.int IntKind.i64), Sh.str] (l)))] true))], 1⟩
theorem in_t (n : Int) (l : List (List U)) (d : List Bool) (i : Int) : RUN (st0 101 [.agg [iv n, wl l], bl d, iv i]) = (.at (sR (n) (l) (d) (i) ((0 : Int)))) := by kernel_rfl
theorem step_t (n : Int) (l : List (List U)) (d : List Bool) (i j : Int) : RUN (stOf (sR n l d i j)) = (bc (decide (j < i)) (bc (!List.getD d (Int.toNat j) false) (bc (bc (bc (bc (bc (decide ((0 : Int) ≤ j)) (Nat.blt (Int.toNat j) (List.length d)) false) true false) (bc (bc (Nat.blt (Int.toNat j) (List.length d)) true false) (bc (eqB (!List.getD d (Int.toNat j) false) true) (bc (bc (bc (decide ((0 : Int) ≤ j)) (Nat.blt (Int.toNat j) (List.length l)) false) true false) (bc (bc (Nat.blt (Int.toNat j) (List.length l)) true false) (bc (bc (bc (decide ((0 : Int) ≤ i)) (Nat.blt (Int.toNat i) (List.length l)) false) true false) (bc (bc (Nat.blt (Int.toNat i) (List.length l)) true false) (bc (bc (decide ((-1000 : Int) ≤ U.int (List.getD (List.getD l (Int.toNat j) []) (Nat.succ (0 : Nat)) (U.i (0 : Int))) ∧ U.int (List.getD (List.getD l (Int.toNat j) []) (Nat.succ (0 : Nat)) (U.i (0 : Int))) ≤ (1000 : Int) ∧ (-1000 : Int) ≤ U.int (List.getD (List.getD l (Int.toNat i) []) (Nat.succ (0 : Nat)) (U.i (0 : Int))) ∧ U.int (List.getD (List.getD l (Int.toNat i) []) (Nat.succ (0 : Nat)) (U.i (0 : Int))) ≤ (1000 : Int))) true false) true false) false) false) false) false) false) false) false) true false) (bc (bc (decide (U.int (List.getD (List.getD l (Int.toNat j) []) (Nat.succ (0 : Nat)) (U.i (0 : Int))) - U.int (List.getD (List.getD l (Int.toNat i) []) (Nat.succ (0 : Nat)) (U.i (0 : Int))) ≤ (1 : Int))) (decide (U.int (List.getD (List.getD l (Int.toNat i) []) (Nat.succ (0 : Nat)) (U.i (0 : Int))) - U.int (List.getD (List.getD l (Int.toNat j) []) (Nat.succ (0 : Nat)) (U.i (0 : Int))) ≤ (1 : Int))) false) (.done (EV.v (Value.bool false)) [] 0) (.at (sR (n) (l) (d) (i) (IntKind.wrap IntKind.i64 (j + (1 : Int)))))) .bad) (bc (bc (bc (bc (bc (decide ((0 : Int) ≤ j)) (Nat.blt (Int.toNat j) (List.length d)) false) true false) (bc (bc (Nat.blt (Int.toNat j) (List.length d)) true false) (bc (eqB (!List.getD d (Int.toNat j) false) false) true false) false) false) true false) (.at (sR (n) (l) (d) (i) (IntKind.wrap IntKind.i64 (j + (1 : Int))))) .bad)) (bc (bc (bc (decide ((0 : Int) ≤ i)) (Nat.blt (Int.toNat i) (List.length d)) false) true false) (bc (bc (Nat.blt (Int.toNat i) (List.length d)) true false) (.done (EV.v (Value.bool (!List.getD d (Int.toNat i) false))) [] 0) .bad) .bad)) := by kernel_rfl
theorem step {n : Int} {l : List (List U)} {d : List Bool} {i j : Nat} (hl : l.length ≤ 1000) (hq : d.length = l.length) (hi : i < l.length) (hj : j < i) (ha : AtG l) : RUN (stOf (sR n l d i j)) = bc (bc (!d.getD j false) (tch (l.getD j []) (l.getD i [])) false) (.done (bv false) [] 0) (.at (sR n l d i (j + 1 : Nat))) := by
  rw [step_t]
  have h1 := ha j (by omega)
  have h2 := ha i hi
  have h3 : -1000 ≤ rA (l.getD j []) ∧ rA (l.getD j []) ≤ 1000 ∧ -1000 ≤ rA (l.getD i []) ∧ rA (l.getD i []) ≤ 1000 := ⟨h1.1, h1.2, h2.1, h2.2⟩
  cases hb : d.getD j false
  · simp (disch := omega) only [Nat.add_eq, eqSy_self, eqN_self, bc_same, List.length_cons, ofn, wrap_in, dt, df, bltD, bltN, ble_of, bleN, beqD, bc_t, bc_f, nn_ok, Nat.zero_add, to_nat, Int.zero_add, Int.sub_zero, Int.sub_self, Int.cast_ofNat_Int, Int.natCast_zero, Int.toNat_zero, List.take_zero, List.nil_append, List.length_append, List.length_nil, fK0, fK1, fA0, fA1, fA2, fW0, fW1, fW2, hb, hq, dt h3, Bool.not_false, eqBt, bc_bc]
    unfold tch
    cases decide (rA (l.getD j []) - rA (l.getD i []) ≤ 1)
    · rfl
    · cases decide (rA (l.getD i []) - rA (l.getD j []) ≤ 1) <;> rfl
  · simp (disch := omega) only [Nat.add_eq, eqSy_self, eqN_self, bc_same, List.length_cons, ofn, wrap_in, dt, df, bltD, bltN, ble_of, bleN, beqD, bc_t, bc_f, nn_ok, Nat.zero_add, to_nat, Int.zero_add, Int.sub_zero, Int.sub_self, Int.cast_ofNat_Int, Int.natCast_zero, Int.toNat_zero, List.take_zero, List.nil_append, List.length_append, List.length_nil, fK0, fK1, fA0, fA1, fA2, fW0, fW1, fW2, hb, hq, Bool.not_true, eqBf, bc_bc]
    rfl
theorem last {n : Int} {l : List (List U)} {d : List Bool} {i j : Nat} (hl : l.length ≤ 1000) (hq : d.length = l.length) (hi : i < l.length) (hj : i ≤ j) : RUN (stOf (sR n l d i j)) = .done (bv (!(d.getD i false))) [] 0 := by
  rw [step_t]
  simp (disch := omega) only [Nat.add_eq, eqSy_self, eqN_self, bc_same, List.length_cons, ofn, wrap_in, dt, df, bltD, bltN, ble_of, bleN, beqD, bc_t, bc_f, nn_ok, Nat.zero_add, to_nat, Int.zero_add, Int.sub_zero, Int.sub_self, Int.cast_ofNat_Int, Int.natCast_zero, Int.toNat_zero, List.take_zero, List.nil_append, List.length_append, List.length_nil, hq]
theorem loop {n : Int} {l : List (List U)} {d : List Bool} {i : Nat} (hl : l.length ≤ 1000) (hq : d.length = l.length) (hi : i < l.length) (ha : AtG l) : ∀ (k j : Nat), j + k = i → EndZ 101 ctK false (stOf (sR n l d i j)) (bv (rdyB l d i j k)) [] 0
  | 0, j, h => .done (last hl hq hi (by omega))
  | k + 1, j, h => by
    have hs := step (n := n) hl hq hi (show j < i by omega) ha
    unfold rdyB
    cases hc : bc (!d.getD j false) (tch (l.getD j []) (l.getD i [])) false <;> rw [hc] at hs
    · exact .at ctK_ok hs (loop hl hq hi ha k (j + 1) (by omega))
    · exact .done hs
end RRdy
noncomputable def spRdy : ZCT := fun ax => match ax with
  | [.agg [.v (.int .i64 n), .lst (.recs [.int .i64, .int .i64, .str] l)], .lst (.bools d), .v (.int .i64 i)] => some ⟨decide (l.length ≤ 1000 ∧ d.length = l.length ∧ 0 ≤ i ∧ i < l.length ∧ AtG l), bv (rdy l d i.toNat), [], 0⟩
  | _ => none
theorem spRdy_ok : ZCtOk Try.prog 101 spRdy := fun γ w us ax r hs hc hax hN hfz => by
  unfold spRdy at hs
  split at hs
  case h_2 => cases hs
  rename_i n l d i
  obtain ⟨rfl⟩ := Option.some.inj hs
  have hc_0 : decide (l.length ≤ 1000 ∧ d.length = l.length ∧ 0 ≤ i ∧ i < l.length ∧ AtG l) = true := hc
  have hc := of_decide_eq_true hc_0
  exact EndZ.calls (by
    obtain ⟨h1, h2, h3, h4, h5⟩ := hc
    obtain ⟨i, rfl⟩ := Int.eq_ofNat_of_zero_le h3
    exact .at ctK_ok (RRdy.in_t n l d i) (RRdy.loop h1 h2 (by omega) h5 i 0 (by omega))) ctK_ok (by kernel_rfl) hax hN hfz
noncomputable def ctM5 : Tr ZCC := ctK.put 101 (some (dC spRdy))
theorem ctM5_ok : ZCtsOk Try.prog ctM5 := ctK_ok.add rfl spRdy_ok
namespace RMat
noncomputable def RUN (s : ES) : ZF := RZs 74 ctM5 [(atS 0 74 6, [[(2,none),(3,none),(6,none),(7,some (1, 3, .ints .i64 [])),(8,none)]]), (atS 0 74 10, [[(2,none),(3,none),(6,none),(7,some (1, 3, .ints .i64 [])),(8,none),(9,none),(10,none)]])] [] false s

noncomputable def sO (n m : Int) (l k : List (List U)) (d : List Bool) (z : Nat) (out : List Int) (nn : Bool) (j : Int) : NS := ⟨[⟨74, 75, [(2, (EV.ptr 0 0)), (3, (EV.ptr 1 0)), (6, EV.slO 2 1 z true), (7, EV.slO 3 1 out.length nn), (8, iv j)], [.it (.code (nav [1, 1, 1, 1, 0, 1, 0, 0, 0] (bodyOf Try.f74))), .it (.code (nav [1, 1, 1, 1, 0, 1, 0, 0, 1] (bodyOf Try.f74))), .it (.inLoop (nav [1, 1, 1, 1, 0, 1, 0, 0] (bodyOf Try.f74))), .it (.inBlock 0), .it (.code (nav [1, 1, 1, 1, 1] (bodyOf Try.f74)))], [], Option.none⟩], [(0, (EK.cells 24 [(EV.v (Value.int IntKind.i64 (n))), (EV.lst (SyC.recs [(Sh.int IntKind.i64), (Sh.int IntKind.i64), Sh.str] (l)))] true)), (1, (EK.cells 24 [(EV.v (Value.int IntKind.i64 (m))), (EV.lst (SyC.recs [(Sh.int IntKind.i64), (Sh.int IntKind.i64), Sh.str] (k)))] true)), (2, EK.seq 4 (.bools d) true), (3, EK.seq 3 (.ints .i64 out) nn)], 4⟩
noncomputable def sI (n m : Int) (l k : List (List U)) (d : List Bool) (z : Nat) (out : List Int) (nn : Bool) (j x i : Int) : NS := ⟨[⟨74, 75, [(2, (EV.ptr 0 0)), (3, (EV.ptr 1 0)), (6, (EV.slO 2 1 (z) true)), (7, (EV.slO 3 1 (List.length out) (nn))), (8, (EV.v (Value.int IntKind.i64 (j)))), (9, iv x), (10, iv i)], [.it (.code (nav [1, 1, 1, 1, 0, 1, 0, 0, 1, 0, 0, 1, 0, 1, 0, 0, 0] (bodyOf Try.f74))), .it (.code (nav [1, 1, 1, 1, 0, 1, 0, 0, 1, 0, 0, 1, 0, 1, 0, 0, 1] (bodyOf Try.f74))), .it (.inLoop (nav [1, 1, 1, 1, 0, 1, 0, 0, 1, 0, 0, 1, 0, 1, 0, 0] (bodyOf Try.f74))), .it (.inBlock 2), .it (.code (nav [1, 1, 1, 1, 0, 1, 0, 0, 1, 0, 0, 1, 1] (bodyOf Try.f74))), .it (.inBlock 1), .it (.code (nav [1, 1, 1, 1, 0, 1, 0, 0, 1, 1] (bodyOf Try.f74))), .it (.inLoop (nav [1, 1, 1, 1, 0, 1, 0, 0] (bodyOf Try.f74))), .it (.inBlock 0), .it (.code (nav [1, 1, 1, 1, 1] (bodyOf Try.f74)))], [], Option.none⟩], [(0, (EK.cells 24 [(EV.v (Value.int IntKind.i64 (n))), (EV.lst (SyC.recs [(Sh.int IntKind.i64), (Sh.int IntKind.i64), Sh.str] (l)))] true)), (1, (EK.cells 24 [(EV.v (Value.int IntKind.i64 (m))), (EV.lst (SyC.recs [(Sh.int IntKind.i64), (Sh.int IntKind.i64), Sh.str] (k)))] true)), (2, (EK.seq 4 (SyC.bools (d)) true)), (3, (EK.seq 3 (SyC.ints IntKind.i64 (out)) (nn)))], 4⟩
theorem in_t (n m : Int) (l k : List (List U)) : RUN (st0 74 [.agg [iv n, wl l], .agg [iv m, wl k]]) = (bc (n != m) (.done (EV.tup [(EV.v (Value.slice Option.none 0 0)), (EV.v (Value.bool false))]) [] 0) (bc (Int.ofNat (List.length l) != Int.ofNat (List.length k)) (.done (EV.tup [(EV.v (Value.slice Option.none 0 0)), (EV.v (Value.bool false))]) [] 0) (bc (bc (decide (Int.ofNat (List.length l) ≤ Int.ofNat (List.length l))) (decide (Int.ofNat (List.length l) ≤ (65536 : Int))) false) (.at (sO (n) (m) (l) (k) (List.replicate (Int.toNat (Int.ofNat (List.length l))) false) (List.length (List.replicate (Int.toNat (Int.ofNat (List.length l))) false)) ([]) (false) ((0 : Int)))) .bad))) := by kernel_rfl
theorem o_t (n m : Int) (l k : List (List U)) (d : List Bool) (z : Nat) (out : List Int) (nn : Bool) (j : Int) : RUN (stOf (sO n m l k d z out nn j)) = (bc (decide (j < Int.ofNat (List.length k))) (.at (sI (n) (m) (l) (k) (d) (z) (out) (nn) (j) ((-1 : Int)) ((0 : Int)))) (bc (bc (Nat.beq (List.length out) (List.length out)) true false) (.done (EV.tup [(EV.lst (SyC.ints IntKind.i64 (out))), (EV.v (Value.bool true))]) [] 0) .bad)) := by kernel_rfl
theorem i_t (n m : Int) (l k : List (List U)) (d : List Bool) (z : Nat) (out : List Int) (nn : Bool) (j x i : Int) : RUN (stOf (sI n m l k d z out nn j x i)) = (bc (decide (i < Int.ofNat (List.length l))) (bc (decide (x < (0 : Int))) (bc (bc (U.int (List.getD (List.getD l (Int.toNat i) []) (0 : Nat) (U.i (0 : Int))) == U.int (List.getD (List.getD k (Int.toNat j) []) (0 : Nat) (U.i (0 : Int)))) (bc (U.int (List.getD (List.getD l (Int.toNat i) []) (Nat.succ (0 : Nat)) (U.i (0 : Int))) == U.int (List.getD (List.getD k (Int.toNat j) []) (Nat.succ (0 : Nat)) (U.i (0 : Int)))) (bc (ByteArray.toList (U.str (List.getD (List.getD l (Int.toNat i) []) (Nat.succ (Nat.succ (0 : Nat))) (U.i (0 : Int)))) == ByteArray.toList (U.str (List.getD (List.getD k (Int.toNat j) []) (Nat.succ (Nat.succ (0 : Nat))) (U.i (0 : Int))))) true false) false) false) (bc (bc (bc (bc (bc (decide ((0 : Int) ≤ i)) (Nat.blt (Int.toNat i) (List.length l)) false) true false) (bc (bc (Nat.blt (Int.toNat i) (List.length l)) true false) (bc (bc (bc (decide ((0 : Int) ≤ j)) (Nat.blt (Int.toNat j) (List.length k)) false) true false) (bc (bc (Nat.blt (Int.toNat j) (List.length k)) true false) (bc (eqB (bc (U.int (List.getD (List.getD l (Int.toNat i) []) (0 : Nat) (U.i (0 : Int))) == U.int (List.getD (List.getD k (Int.toNat j) []) (0 : Nat) (U.i (0 : Int)))) (bc (U.int (List.getD (List.getD l (Int.toNat i) []) (Nat.succ (0 : Nat)) (U.i (0 : Int))) == U.int (List.getD (List.getD k (Int.toNat j) []) (Nat.succ (0 : Nat)) (U.i (0 : Int)))) (bc (ByteArray.toList (U.str (List.getD (List.getD l (Int.toNat i) []) (Nat.succ (Nat.succ (0 : Nat))) (U.i (0 : Int)))) == ByteArray.toList (U.str (List.getD (List.getD k (Int.toNat j) []) (Nat.succ (Nat.succ (0 : Nat))) (U.i (0 : Int))))) true false) false) false) true) (bc (bc (bc (bc (Nat.beq z (List.length d)) true false) (decide (List.length l ≤ (1000 : Nat) ∧ List.length d = List.length l ∧ (0 : Int) ≤ i ∧ i < (Nat.cast (List.length l) : Int) ∧ AtG l)) false) true false) true false) false) false) false) false) false) true false) (bc (rdy l d (Int.toNat i)) (.at (sI (n) (m) (l) (k) (d) (z) (out) (nn) (j) (i) (IntKind.wrap IntKind.i64 (i + (1 : Int))))) (.at (sI (n) (m) (l) (k) (d) (z) (out) (nn) (j) (x) (IntKind.wrap IntKind.i64 (i + (1 : Int)))))) .bad) (bc (bc (bc (bc (bc (decide ((0 : Int) ≤ i)) (Nat.blt (Int.toNat i) (List.length l)) false) true false) (bc (bc (Nat.blt (Int.toNat i) (List.length l)) true false) (bc (bc (bc (decide ((0 : Int) ≤ j)) (Nat.blt (Int.toNat j) (List.length k)) false) true false) (bc (bc (Nat.blt (Int.toNat j) (List.length k)) true false) (bc (eqB (bc (U.int (List.getD (List.getD l (Int.toNat i) []) (0 : Nat) (U.i (0 : Int))) == U.int (List.getD (List.getD k (Int.toNat j) []) (0 : Nat) (U.i (0 : Int)))) (bc (U.int (List.getD (List.getD l (Int.toNat i) []) (Nat.succ (0 : Nat)) (U.i (0 : Int))) == U.int (List.getD (List.getD k (Int.toNat j) []) (Nat.succ (0 : Nat)) (U.i (0 : Int)))) (bc (ByteArray.toList (U.str (List.getD (List.getD l (Int.toNat i) []) (Nat.succ (Nat.succ (0 : Nat))) (U.i (0 : Int)))) == ByteArray.toList (U.str (List.getD (List.getD k (Int.toNat j) []) (Nat.succ (Nat.succ (0 : Nat))) (U.i (0 : Int))))) true false) false) false) false) true false) false) false) false) false) true false) (.at (sI (n) (m) (l) (k) (d) (z) (out) (nn) (j) (x) (IntKind.wrap IntKind.i64 (i + (1 : Int))))) .bad)) (bc (decide (x < (0 : Int))) (.done (EV.tup [(EV.v (Value.slice Option.none 0 0)), (EV.v (Value.bool false))]) [] 0) (bc (bc (bc (decide ((0 : Int) ≤ x)) (Nat.blt (Int.toNat x) z) false) true false) (bc (Nat.blt (Int.toNat x) (List.length d)) (bc (bc (Nat.beq (List.length out) (List.length out)) (bc (Nat.ble (List.length out + List.length (List.map (fun r => U.int (List.headD r (U.i (0 : Int)))) [[U.i x]])) (65536 : Nat)) (bc nn true (bc nn false true)) false) false) (.at (sO (n) (m) (l) (k) (List.set d (Int.toNat x) true) (z) (out ++ List.map (fun r => U.int (List.headD r (U.i (0 : Int)))) [[U.i x]]) (bc nn true (Nat.blt (0 : Nat) (List.length (List.map (fun r => U.int (List.headD r (U.i (0 : Int)))) [[U.i x]])))) (IntKind.wrap IntKind.i64 (j + (1 : Int))))) .bad) .bad) .bad))) (bc (decide (x < (0 : Int))) (.done (EV.tup [(EV.v (Value.slice Option.none 0 0)), (EV.v (Value.bool false))]) [] 0) (bc (bc (bc (decide ((0 : Int) ≤ x)) (Nat.blt (Int.toNat x) z) false) true false) (bc (Nat.blt (Int.toNat x) (List.length d)) (bc (bc (Nat.beq (List.length out) (List.length out)) (bc (Nat.ble (List.length out + List.length (List.map (fun r => U.int (List.headD r (U.i (0 : Int)))) [[U.i x]])) (65536 : Nat)) (bc nn true (bc nn false true)) false) false) (.at (sO (n) (m) (l) (k) (List.set d (Int.toNat x) true) (z) (out ++ List.map (fun r => U.int (List.headD r (U.i (0 : Int)))) [[U.i x]]) (bc nn true (Nat.blt (0 : Nat) (List.length (List.map (fun r => U.int (List.headD r (U.i (0 : Int)))) [[U.i x]])))) (IntKind.wrap IntKind.i64 (j + (1 : Int))))) .bad) .bad) .bad))) := by kernel_rfl
end RMat
noncomputable def fnd (l : List (List U)) (x : List U) (d : List Bool) (i : Nat) : Nat → Int
  | 0 => -1
  | m + 1 => bc (bc (rowEq (l.getD i []) x) (rdy l d i) false) (i : Int) (fnd l x d (i + 1) m)
noncomputable def matG (l : List (List U)) (d : List Bool) (out : List Int) : List (List U) → List Int × Bool
  | [] => (out, true)
  | x :: xs => bc (decide (fnd l x d 0 l.length < 0)) ([], false) (matG l (d.set (fnd l x d 0 l.length).toNat true) (out ++ [fnd l x d 0 l.length]) xs)
noncomputable abbrev mtE (p : List Int × Bool) : EV := .tup [il p.1, bv p.2]
theorem mt_no : Weak (EV.tup [(EV.v (Value.slice Option.none 0 0)), (EV.v (Value.bool false))]) (mtE ([], false)) := .tup (.cons (Weak.nilI _) (.cons (Weak.refl _) .nil))
namespace RMat
theorem istep {n m : Int} {l k : List (List U)} {d : List Bool} {out : List Int} {nn : Bool} {i j : Nat} (hi : i < l.length) (hj : j < k.length) (hl : l.length ≤ 1000) (hk : k.length ≤ 1000) (hd : d.length = l.length) (ha : AtG l) : RUN (stOf (sI n m l k d l.length out nn j (-1) i)) = bc (bc (rowEq (l.getD i []) (k.getD j [])) (rdy l d i) false) (.at (sI n m l k d l.length out nn j i (i + 1 : Nat))) (.at (sI n m l k d l.length out nn j (-1) (i + 1 : Nat))) := by
  rw [i_t]
  have er : ∀ a b : List U, bc (rK a == rK b) (bc (rA a == rA b) (bc ((rW a).toList == (rW b).toList) true false) false) false = rowEq a b := fun _ _ => rfl
  have hc : l.length ≤ 1000 ∧ True ∧ 0 ≤ (i : Int) ∧ (i : Int) < l.length ∧ AtG l := ⟨hl, trivial, by omega, by omega, ha⟩
  cases hb : rowEq (l.getD i []) (k.getD j [])
  · simp (disch := omega) only [Nat.add_eq, eqSy_self, eqN_self, bc_same, List.length_cons, ofn, wrap_in, dt, df, bltD, bltN, ble_of, bleN, beqD, bc_t, bc_f, nn_ok, Nat.zero_add, to_nat, Int.zero_add, Int.sub_zero, Int.sub_self, Int.cast_ofNat_Int, Int.natCast_zero, Int.toNat_zero, List.take_zero, List.nil_append, List.length_append, List.length_nil, fK0, fK1, fA0, fA1, fA2, fW0, fW1, fW2, er, hb, hd, eqBf, bc_bc]
    rfl
  · cases hr : rdy l d i
    · simp (disch := omega) only [Nat.add_eq, eqSy_self, eqN_self, bc_same, List.length_cons, ofn, wrap_in, dt, df, bltD, bltN, ble_of, bleN, beqD, bc_t, bc_f, nn_ok, Nat.zero_add, to_nat, Int.zero_add, Int.sub_zero, Int.sub_self, Int.cast_ofNat_Int, Int.natCast_zero, Int.toNat_zero, List.take_zero, List.nil_append, List.length_append, List.length_nil, fK0, fK1, fA0, fA1, fA2, fW0, fW1, fW2, er, hb, hd, hr, dt hc, eqBt, bc_bc]
      rfl
    · simp (disch := omega) only [Nat.add_eq, eqSy_self, eqN_self, bc_same, List.length_cons, ofn, wrap_in, dt, df, bltD, bltN, ble_of, bleN, beqD, bc_t, bc_f, nn_ok, Nat.zero_add, to_nat, Int.zero_add, Int.sub_zero, Int.sub_self, Int.cast_ofNat_Int, Int.natCast_zero, Int.toNat_zero, List.take_zero, List.nil_append, List.length_append, List.length_nil, fK0, fK1, fA0, fA1, fA2, fW0, fW1, fW2, er, hb, hd, hr, dt hc, eqBt, bc_bc]
      rfl
theorem ino {n m : Int} {l k : List (List U)} {d : List Bool} {out : List Int} {nn : Bool} {i j : Nat} (hi : l.length ≤ i) : RUN (stOf (sI n m l k d l.length out nn j (-1) i)) = .done (EV.tup [(EV.v (Value.slice Option.none 0 0)), (EV.v (Value.bool false))]) [] 0 := by
  rw [i_t]
  simp (disch := omega) only [Nat.add_eq, eqSy_self, eqN_self, bc_same, List.length_cons, ofn, wrap_in, dt, df, bltD, bltN, ble_of, bleN, beqD, bc_t, bc_f, nn_ok, Nat.zero_add, to_nat, Int.zero_add, Int.sub_zero, Int.sub_self, Int.cast_ofNat_Int, Int.natCast_zero, Int.toNat_zero, List.take_zero, List.nil_append, List.length_append, List.length_nil]
theorem iyes {n m : Int} {l k : List (List U)} {d : List Bool} {out : List Int} {nn : Bool} {i j x : Nat} (hx : x < l.length) (hd : d.length = l.length) (hl : l.length ≤ 1000) (hk : k.length ≤ 1000) (hj : j < k.length) (ho : out.length ≤ 1000) : RUN (stOf (sI n m l k d l.length out nn j x i)) = .at (sO n m l k (d.set x true) l.length (out ++ [(x : Int)]) true (j + 1 : Nat)) := by
  rw [i_t]
  by_cases h : i < l.length
  · simp (disch := omega) only [Nat.add_eq, eqSy_self, eqN_self, bc_same, List.length_cons, ofn, wrap_in, dt, df, bltD, bltN, ble_of, bleN, beqD, bc_t, bc_f, nn_ok, Nat.zero_add, to_nat, Int.zero_add, Int.sub_zero, Int.sub_self, Int.cast_ofNat_Int, Int.natCast_zero, Int.toNat_zero, List.take_zero, List.nil_append, List.length_append, List.length_nil, hd, List.map_cons, List.map_nil]
    cases nn <;> rfl
  · simp (disch := omega) only [Nat.add_eq, eqSy_self, eqN_self, bc_same, List.length_cons, ofn, wrap_in, dt, df, bltD, bltN, ble_of, bleN, beqD, bc_t, bc_f, nn_ok, Nat.zero_add, to_nat, Int.zero_add, Int.sub_zero, Int.sub_self, Int.cast_ofNat_Int, Int.natCast_zero, Int.toNat_zero, List.take_zero, List.nil_append, List.length_append, List.length_nil, hd, List.map_cons, List.map_nil]
    cases nn <;> rfl
theorem ostep {n m : Int} {l k : List (List U)} {d : List Bool} {out : List Int} {nn : Bool} {z j : Nat} (hj : j < k.length) : RUN (stOf (sO n m l k d z out nn j)) = .at (sI n m l k d z out nn j (-1) (0 : Nat)) := by
  rw [o_t]
  simp (disch := omega) only [Nat.add_eq, eqSy_self, eqN_self, bc_same, List.length_cons, ofn, wrap_in, dt, df, bltD, bltN, ble_of, bleN, beqD, bc_t, bc_f, nn_ok, Nat.zero_add, to_nat, Int.zero_add, Int.sub_zero, Int.sub_self, Int.cast_ofNat_Int, Int.natCast_zero, Int.toNat_zero, List.take_zero, List.nil_append, List.length_append, List.length_nil]
theorem olast {n m : Int} {l k : List (List U)} {d : List Bool} {out : List Int} {nn : Bool} {z j : Nat} (hj : k.length ≤ j) : RUN (stOf (sO n m l k d z out nn j)) = .done (mtE (out, true)) [] 0 := by
  rw [o_t]
  simp (disch := omega) only [Nat.add_eq, eqSy_self, eqN_self, bc_same, List.length_cons, ofn, wrap_in, dt, df, bltD, bltN, ble_of, bleN, beqD, bc_t, bc_f, nn_ok, Nat.zero_add, to_nat, Int.zero_add, Int.sub_zero, Int.sub_self, Int.cast_ofNat_Int, Int.natCast_zero, Int.toNat_zero, List.take_zero, List.nil_append, List.length_append, List.length_nil]
theorem inner {n m : Int} {l k : List (List U)} {d : List Bool} {out : List Int} {nn : Bool} {j : Nat} {V : EV} (hl : l.length ≤ 1000) (hk : k.length ≤ 1000) (hd : d.length = l.length) (ha : AtG l) (hj : j < k.length) (ho : out.length ≤ 1000) :
    ∀ (q i : Nat), i + q = l.length → (∀ x : Nat, fnd l (k.getD j []) d i q = (x : Int) → EndZ 74 ctM5 false (stOf (sO n m l k (d.set x true) l.length (out ++ [(x : Int)]) true (j + 1 : Nat))) V [] 0) → (fnd l (k.getD j []) d i q = -1 → V = mtE ([], false)) → EndZ 74 ctM5 false (stOf (sI n m l k d l.length out nn j (-1) i)) V [] 0
  | 0, i, h, H1, H2 => by
    rw [H2 rfl]
    exact (EndZ.done (ino (by omega))).weak mt_no
  | q + 1, i, h, H1, H2 => by
    have hs := istep (n := n) (m := m) (out := out) (nn := nn) (show i < l.length by omega) hj hl hk hd ha
    unfold fnd at H1 H2
    cases hb : bc (rowEq (l.getD i []) (k.getD j [])) (rdy l d i) false <;> rw [hb] at hs H1 H2
    · exact .at ctM5_ok hs (inner hl hk hd ha hj ho q (i + 1) (by omega) H1 H2)
    · exact .at ctM5_ok hs (.at ctM5_ok (iyes (by omega) hd hl hk hj ho) (H1 i rfl))
theorem outer {n m : Int} {l k : List (List U)} (hl : l.length ≤ 1000) (hk : k.length ≤ 1000) (ha : AtG l) : ∀ (q j : Nat) (d : List Bool) (out : List Int) (nn : Bool), j + q = k.length → d.length = l.length → out.length ≤ j → EndZ 74 ctM5 false (stOf (sO n m l k d l.length out nn j)) (mtE (matG l d out (k.drop j))) [] 0
  | 0, j, d, out, nn, h, hd, ho => by
    rw [List.drop_eq_nil_of_le (by omega)]
    exact .done (olast (by omega))
  | q + 1, j, d, out, nn, h, hd, ho => by
    have hj : j < k.length := by omega
    rw [List.drop_eq_getElem_cons hj, ← getD_at (d := []) hj]
    unfold matG
    refine .at ctM5_ok (ostep hj) (inner hl hk hd ha hj (by omega) l.length 0 (by omega) (fun x hx => ?_) (fun hx => ?_))
    · rw [hx, df (by omega), bc_f, Int.toNat_natCast]
      exact outer hl hk ha q (j + 1) _ _ true (by omega) (by rw [List.length_set]; exact hd) (by simp; omega)
    · rw [hx, dt (by omega), bc_t]
end RMat
noncomputable def matW (n m : Int) (l k : List (List U)) : List Int × Bool := bc (n != m) ([], false) (bc (Int.ofNat l.length != Int.ofNat k.length) ([], false) (matG l (List.replicate l.length false) [] k))
theorem RMat.ends (n m : Int) (l k : List (List U)) (hl : l.length ≤ 1000) (ha : AtG l) : EndZ 74 ctM5 false (st0 74 [.agg [iv n, wl l], .agg [iv m, wl k]]) (mtE (matW n m l k)) [] 0 := by
  have h := RMat.in_t n m l k
  unfold matW
  cases h1 : (n != m) <;> rw [h1] at h
  · cases h2 : (Int.ofNat l.length != Int.ofNat k.length) <;> rw [h2] at h
    · have hb : l.length = k.length := by have : (l.length : Int) = k.length := by simpa using h2
                                          omega
      have e : Int.toNat (Int.ofNat l.length) = l.length := rfl
      simp (disch := omega) only [e, List.length_replicate, Nat.add_eq, eqSy_self, eqN_self, bc_same, List.length_cons, ofn, wrap_in, dt, df, bltD, bltN, ble_of, bleN, beqD, bc_t, bc_f, nn_ok, Nat.zero_add, to_nat, Int.zero_add, Int.sub_zero, Int.sub_self, Int.cast_ofNat_Int, Int.natCast_zero, Int.toNat_zero, List.take_zero, List.nil_append, List.length_append, List.length_nil] at h
      exact .at ctM5_ok h (RMat.outer hl (by omega) ha k.length 0 _ _ false (by omega) List.length_replicate (Nat.le_refl _))
    · exact (EndZ.done h).weak mt_no
  · exact (EndZ.done h).weak mt_no
noncomputable def spMat : ZCT := fun ax => match ax with
  | [.agg [.v (.int .i64 n), .lst (.recs [.int .i64, .int .i64, .str] l)], .agg [.v (.int .i64 m), .lst (.recs [.int .i64, .int .i64, .str] k)]] => some ⟨decide (l.length ≤ 1000 ∧ AtG l), mtE (matW n m l k), [], 0⟩
  | _ => none
theorem spMat_ok : ZCtOk Try.prog 74 spMat := fun γ w us ax r hs hc hax hN hfz => by
  unfold spMat at hs
  split at hs
  case h_2 => cases hs
  rename_i n l m k
  obtain ⟨rfl⟩ := Option.some.inj hs
  have hc_0 : decide (l.length ≤ 1000 ∧ AtG l) = true := hc
  have hc := of_decide_eq_true hc_0
  exact EndZ.calls (RMat.ends n m l k hc.1 hc.2) ctM5_ok (by kernel_rfl) hax hN hfz
noncomputable def ctS5 : Tr ZCC := ctJ0.put 74 (some (dC spMat))
theorem ctS5_ok : ZCtsOk Try.prog ctS5 := ctJ0_ok.add rfl spMat_ok
noncomputable def sm5 (n m : Int) (l k : List (List U)) : Bool := bc (both n m l k != 0) false (matW n m l k).2
namespace RSm5
noncomputable def RUN (s : ES) : ZF := RZ 37 ctS5 (fun _ => false) [] [] false s
theorem in_t (n m : Int) (l k : List (List U)) : RUN (st0 37 [.agg [iv n, wl l], .agg [iv m, wl k]]) = (bc (chk4 n l != (0 : Int)) (bc (chk4 n l != (0 : Int)) (.done (EV.tup [(EV.v (Value.bool false)), (EV.v (Value.int IntKind.i64 (chk4 n l)))]) [] 0) (bc (decide (List.length l ≤ (1000 : Nat) ∧ AtG l)) (.done (EV.tup [(EV.v (Value.bool (Prod.snd (matW n m l k)))), (EV.v (Value.int IntKind.i64 (0)))]) [] 0) .bad)) (bc (chk4 m k != (0 : Int)) (.done (EV.tup [(EV.v (Value.bool false)), (EV.v (Value.int IntKind.i64 (chk4 m k)))]) [] 0) (bc (decide (List.length l ≤ (1000 : Nat) ∧ AtG l)) (.done (EV.tup [(EV.v (Value.bool (Prod.snd (matW n m l k)))), (EV.v (Value.int IntKind.i64 (0)))]) [] 0) .bad))) := by kernel_rfl
theorem ends (n m : Int) (l k : List (List U)) : EndZ 37 ctS5 false (st0 37 [.agg [iv n, wl l], .agg [iv m, wl k]]) (.tup [bv (sm5 n m l k), iv (both n m l k)]) [] 0 := by
  have h := in_t n m l k
  unfold sm5 both
  cases h1 : (chk4 n l != 0) <;> rw [h1] at h
  · simp only [bc_f] at h ⊢
    cases h2 : (chk4 m k != 0) <;> rw [h2] at h
    · have v := chk4_ok (ne0 h1)
      have hq : l.length ≤ 1000 ∧ AtG l := ⟨by have := v.len; omega, v.at.g⟩
      simp only [bc_f, dt hq, bc_t, ne0 h2] at h ⊢
      exact .done h
    · simp only [bc_t] at h ⊢
      exact .done h
  · simp only [bc_t, h1] at h ⊢
    exact .done h
end RSm5
noncomputable def spSm5 : ZCT := fun ax => match ax with
  | [.agg [.v (.int .i64 n), .lst (.recs [.int .i64, .int .i64, .str] l)], .agg [.v (.int .i64 m), .lst (.recs [.int .i64, .int .i64, .str] k)]] => some ⟨decide (True), .tup [bv (sm5 n m l k), iv (both n m l k)], [], 0⟩
  | _ => none
theorem spSm5_ok : ZCtOk Try.prog 37 spSm5 := fun γ w us ax r hs hc hax hN hfz => by
  unfold spSm5 at hs
  split at hs
  case h_2 => cases hs
  rename_i n l m k
  obtain ⟨rfl⟩ := Option.some.inj hs
  have hc_0 : decide (True) = true := hc
  have hc := of_decide_eq_true hc_0
  exact EndZ.calls (RSm5.ends n m l k) ctS5_ok (by kernel_rfl) hax hN hfz

end Go.Proofs.Ytkbebiebaenbdaa.Ev
namespace Go.Proofs.Ytkbebiebaenbdaa.Ev
open Go.Proofs

theorem idxB_lt {s : ByteArray} {c : Int} : ∀ (k i : Nat), i + k = s.size → idxB s c i k < s.size
  | 0, i, h => by show (-1 : Int) < _; omega
  | k + 1, i, h => by
    unfold idxB
    cases byteAt s i == c
    · exact idxB_lt k (i + 1) (by omega)
    · show (i : Int) < _; omega
theorem idx_lt (s : ByteArray) (c : Int) : idx s c < s.size := idxB_lt _ _ (by omega)
noncomputable def chgB (t w : ByteArray) (i : Nat) (q : ByteArray) : Nat → ByteArray
  | 0 => q
  | k + 1 => chgB t w (i + 1) (q ++ t.extract (idx bLet (byteAt w i)).toNat ((idx bLet (byteAt w i)).toNat + 1)) k
noncomputable def chg (t w : ByteArray) : ByteArray := chgB t w 0 ByteArray.empty w.size
noncomputable def chgW (t w : ByteArray) : ByteArray := bc (chk3 w != 0) ByteArray.empty (chg t w)
namespace RChg
noncomputable def RUN (s : ES) : ZF := RZ 96 ctC (atS 0 96 6) [] [[(0,none),(1,none),(7,none),(8,none)]] false s

noncomputable def sG (w t : ByteArray) (i : Int) (q : ByteArray) : NS := ⟨[⟨96, 33, [(0, sv w), (1, sv t), (7, sv q), (8, iv i)], [.it (.code (nav [1, 1, 1, 1, 0, 1, 0, 0, 0] (bodyOf Try.f96))), .it (.code (nav [1, 1, 1, 1, 0, 1, 0, 0, 1] (bodyOf Try.f96))), .it (.inLoop (nav [1, 1, 1, 1, 0, 1, 0, 0] (bodyOf Try.f96))), .it (.inBlock 0), .it (.code (nav [1, 1, 1, 1, 1] (bodyOf Try.f96)))], [], Option.none⟩], [], 0⟩
theorem step_t (w t : ByteArray) (i : Int) (q : ByteArray) : RUN (stOf (sG w t i q)) = (bc (decide (i < Int.ofNat (ByteArray.size w))) (bc (bc (bc (decide ((0 : Int) ≤ i)) (Nat.blt (Int.toNat i) (ByteArray.size w)) false) true false) (bc (bc (bc (decide ((0 : Int) ≤ idx { data := #[(67 : UInt8), (84 : UInt8), (76 : UInt8), (82 : UInt8), (80 : UInt8), (99 : UInt8), (116 : UInt8), (108 : UInt8), (114 : UInt8)] } (byteAt w (Int.toNat i)))) (bc (decide (idx { data := #[(67 : UInt8), (84 : UInt8), (76 : UInt8), (82 : UInt8), (80 : UInt8), (99 : UInt8), (116 : UInt8), (108 : UInt8), (114 : UInt8)] } (byteAt w (Int.toNat i)) ≤ IntKind.wrap IntKind.i64 (idx { data := #[(67 : UInt8), (84 : UInt8), (76 : UInt8), (82 : UInt8), (80 : UInt8), (99 : UInt8), (116 : UInt8), (108 : UInt8), (114 : UInt8)] } (byteAt w (Int.toNat i)) + (1 : Int)))) (decide (IntKind.wrap IntKind.i64 (idx { data := #[(67 : UInt8), (84 : UInt8), (76 : UInt8), (82 : UInt8), (80 : UInt8), (99 : UInt8), (116 : UInt8), (108 : UInt8), (114 : UInt8)] } (byteAt w (Int.toNat i)) + (1 : Int)) ≤ Int.ofNat (ByteArray.size t))) false) false) true false) (bc (bc (Nat.blt (Nat.add (ByteArray.size q) (ByteArray.size (ByteArray.extract t (Int.toNat (idx { data := #[(67 : UInt8), (84 : UInt8), (76 : UInt8), (82 : UInt8), (80 : UInt8), (99 : UInt8), (116 : UInt8), (108 : UInt8), (114 : UInt8)] } (byteAt w (Int.toNat i)))) (Int.toNat (IntKind.wrap IntKind.i64 (idx { data := #[(67 : UInt8), (84 : UInt8), (76 : UInt8), (82 : UInt8), (80 : UInt8), (99 : UInt8), (116 : UInt8), (108 : UInt8), (114 : UInt8)] } (byteAt w (Int.toNat i)) + (1 : Int))))))) (9223372036854775808 : Nat)) true false) (.at (sG (w) (t) (IntKind.wrap IntKind.i64 (i + (1 : Int))) (q ++ ByteArray.extract t (Int.toNat (idx { data := #[(67 : UInt8), (84 : UInt8), (76 : UInt8), (82 : UInt8), (80 : UInt8), (99 : UInt8), (116 : UInt8), (108 : UInt8), (114 : UInt8)] } (byteAt w (Int.toNat i)))) (Int.toNat (IntKind.wrap IntKind.i64 (idx { data := #[(67 : UInt8), (84 : UInt8), (76 : UInt8), (82 : UInt8), (80 : UInt8), (99 : UInt8), (116 : UInt8), (108 : UInt8), (114 : UInt8)] } (byteAt w (Int.toNat i)) + (1 : Int))))))) .bad) .bad) .bad) (.done (EV.tup [(EV.v (Value.string (q))), (EV.v (Value.int IntKind.i64 (0)))]) [] 0)) := by kernel_rfl
theorem in_t (w t : ByteArray) : RUN (st0 96 [sv w, sv t]) = (bc (chk3 w != (0 : Int)) (.done (EV.tup [(EV.v (Value.string (ByteArray.mk #[]))), (EV.v (Value.int IntKind.i64 (chk3 w)))]) [] 0) (.at (sG (w) (t) ((0 : Int)) ({ data := #[] })))) := by kernel_rfl
theorem step {w t q : ByteArray} {i j : Nat} (hi : i < w.size) (hw : w.size ≤ 16) (ht : t.size = 9) (hj : idx bLet (byteAt w i) = (j : Int)) (hj9 : j < 9) (hq : q.size ≤ 1000) : RUN (stOf (sG w t i q)) = .at (sG w t (i + 1 : Nat) (q ++ t.extract j (j + 1))) := by
  rw [step_t]
  have e : idx (ByteArray.mk #[(67 : UInt8), (84 : UInt8), (76 : UInt8), (82 : UInt8), (80 : UInt8), (99 : UInt8), (116 : UInt8), (108 : UInt8), (114 : UInt8)]) (byteAt w (Int.toNat (i : Int))) = (j : Int) := hj
  have e2 : IntKind.wrap IntKind.i64 ((j : Int) + 1) = ((j + 1 : Nat) : Int) := by simp (disch := omega) only [wrap_in]; rfl
  simp only [e, e2]
  have e3 : (t.extract j (j + 1)).size = 1 := by rw [ByteArray.size_extract]; omega
  simp (disch := omega) only [Nat.add_eq, eqSy_self, eqN_self, bc_same, List.length_cons, ofn, wrap_in, dt, df, bltD, bltN, ble_of, bleN, beqD, bc_t, bc_f, nn_ok, Nat.zero_add, to_nat, Int.zero_add, Int.sub_zero, Int.sub_self, Int.cast_ofNat_Int, Int.natCast_zero, Int.toNat_zero, List.take_zero, List.nil_append, List.length_append, List.length_nil, e3, Int.toNat_natCast]
  rfl
theorem last {w t q : ByteArray} {i : Nat} (hi : w.size ≤ i) : RUN (stOf (sG w t i q)) = .done (.tup [sv q, iv 0]) [] 0 := by
  rw [step_t]
  simp (disch := omega) only [Nat.add_eq, eqSy_self, eqN_self, bc_same, List.length_cons, ofn, wrap_in, dt, df, bltD, bltN, ble_of, bleN, beqD, bc_t, bc_f, nn_ok, Nat.zero_add, to_nat, Int.zero_add, Int.sub_zero, Int.sub_self, Int.cast_ofNat_Int, Int.natCast_zero, Int.toNat_zero, List.take_zero, List.nil_append, List.length_append, List.length_nil]
theorem loop {w t : ByteArray} (hw : w.size ≤ 16) (ht : t.size = 9) : ∀ (k i : Nat) (q : ByteArray), i + k = w.size → q.size ≤ i → badF w i k = false → EndZ 96 ctC false (stOf (sG w t i q)) (.tup [sv (chgB t w i q k), iv 0]) [] 0
  | 0, i, q, h, hq, hb => .done (last (by omega))
  | k + 1, i, q, h, hq, hb => by
    unfold badF at hb
    have h0 : ¬ idx bLet (byteAt w i) < 0 := fun h => by rw [dt h, bc_t] at hb; cases hb
    rw [df h0, bc_f] at hb
    obtain ⟨j, hj⟩ := Int.eq_ofNat_of_zero_le (show 0 ≤ idx bLet (byteAt w i) by omega)
    have h9 : idx bLet (byteAt w i) < 9 := idx_lt bLet _
    have e3 : (t.extract j (j + 1)).size = 1 := by rw [ByteArray.size_extract]; omega
    unfold chgB
    rw [hj, Int.toNat_natCast]
    exact .at ctC_ok (step (by omega) hw ht hj (by omega) (by omega)) (loop hw ht k (i + 1) _ (by omega) (by rw [ByteArray.size_append, e3]; omega) hb)
end RChg
theorem chk3_0 {w : ByteArray} (h : chk3 w = 0) : w.size ≤ 16 ∧ badF w 0 w.size = false := by
  unfold chk3 at h
  by_cases h1 : 16 < (w.size : Int)
  · rw [dt h1, bc_t] at h; cases h
  rw [df h1, bc_f] at h
  refine ⟨by omega, ?_⟩
  cases hb : badF w 0 w.size
  · rfl
  · rw [hb, bc_t] at h; cases h
theorem RChg.ends (w t : ByteArray) (ht : t.size = 9) : EndZ 96 ctC false (st0 96 [sv w, sv t]) (.tup [sv (chgW t w), iv (chk3 w)]) [] 0 := by
  have h := RChg.in_t w t
  unfold chgW
  cases h1 : (chk3 w != 0) <;> rw [h1] at h
  · have e := ne0 h1
    rw [e]
    exact .at ctC_ok h (RChg.loop (chk3_0 e).1 ht w.size 0 _ (by omega) (Nat.le_refl _) (chk3_0 e).2)
  · exact .done h
noncomputable abbrev bFlip : ByteArray := ByteArray.mk #[67, 84, 82, 76, 80, 99, 116, 114, 108]
noncomputable abbrev bMir : ByteArray := ByteArray.mk #[99, 116, 114, 108, 80, 67, 84, 82, 76]
namespace RWFlip
end RWFlip
namespace RWMir
end RWMir
noncomputable def flR (t : ByteArray) (n : Int) (r : List U) : List U := mkR (rK r) (n - 2 - rA r) (chgW t (rW r))
noncomputable def flL (t : ByteArray) (n : Int) (l : List (List U)) : List (List U) := l.map (flR t n)
namespace RFlp
end RFlp
noncomputable def turP (n : Int) (l : List (List U)) : Int := bc (chk4 n l != 0) 0 n
noncomputable def turL (t : ByteArray) (n : Int) (l : List (List U)) : List (List U) := bc (chk4 n l != 0) [] (flL t n l)
namespace RFlip
end RFlip
namespace RMir
end RMir
noncomputable def plaE (n a b : Int) (l : List (List U)) : Int := bc (chk4 n l != 0) (chk4 n l) (bc (decide (b < 2)) 7 (bc (decide (24 < b)) 7 (bc (decide (a < 0)) 7 (bc (decide (b - n < a)) 7 0))))
noncomputable def plaP (n a b : Int) (l : List (List U)) : Int := bc (plaE n a b l != 0) 0 b
noncomputable def plaL (n a b : Int) (l : List (List U)) : List (List U) := bc (plaE n a b l != 0) [] (shL a l)
theorem plaV {n a b : Int} {l : List (List U)} {e : Int} (h : plaE n a b l = e) (he : (e != 0) = true) : plaP n a b l = 0 ∧ plaL n a b l = [] := by unfold plaP plaL; rw [h, he]; exact ⟨rfl, rfl⟩
theorem plaV0 {n a b : Int} {l : List (List U)} (h : plaE n a b l = 0) : plaP n a b l = b ∧ plaL n a b l = shL a l := by unfold plaP plaL; rw [h]; exact ⟨rfl, rfl⟩
namespace RPla
end RPla
end Go.Proofs.Ytkbebiebaenbdaa.Ev
namespace Go.Proofs.Ytkbebiebaenbdaa.Ev
open Go.Proofs
noncomputable abbrev l2 (l k : List (List U)) : EV := .lst (.recs [.list shW] [[.l l], [.l k]])
namespace POr
noncomputable def RUN (s : ES) : ZF := RZ 71 .nil (fun _ => false) [] [] false s
theorem in_t (a b : Int) : RUN (st0 71 [.lst (.ints .i64 [a, b])]) = (bc (List.getD [a, b] (Int.toNat (0 : Int)) (0 : Int) != (0 : Int)) (.done (EV.v (Value.int IntKind.i64 (List.getD [a, b] (Int.toNat (0 : Int)) (0 : Int)))) [] 0) (bc (List.getD [a, b] (Int.toNat (IntKind.wrap IntKind.i64 ((0 : Int) + (1 : Int)))) (0 : Int) != (0 : Int)) (.done (EV.v (Value.int IntKind.i64 (List.getD [a, b] (Int.toNat (IntKind.wrap IntKind.i64 ((0 : Int) + (1 : Int)))) (0 : Int)))) [] 0) (.done (EV.v (Value.int IntKind.i64 (0))) [] 0))) := by kernel_rfl
theorem ends (a b : Int) : EndZ 71 .nil false (st0 71 [.lst (.ints .i64 [a, b])]) (iv (bc (a != 0) a (bc (b != 0) b 0))) [] 0 := by
  have h := in_t a b
  have e1 : List.getD [a, b] (Int.toNat 0) 0 = a := rfl
  have e2 : List.getD [a, b] (Int.toNat (IntKind.wrap IntKind.i64 (0 + 1))) 0 = b := rfl
  rw [e1, e2] at h
  cases h1 : (a != 0) <;> rw [h1] at h
  · cases h2 : (b != 0) <;> rw [h2] at h
    · exact .done h
    · exact .done h
  · exact .done h
end POr
noncomputable def spOr : ZCT := fun ax => match ax with
  | [.lst (.ints .i64 [a, b])] => some ⟨decide (True), iv (bc (a != 0) a (bc (b != 0) b 0)), [], 0⟩
  | _ => none
theorem spOr_ok : ZCtOk Try.prog 71 spOr := fun γ w us ax r hs hc hax hN hfz => by
  unfold spOr at hs
  split at hs
  case h_2 => cases hs
  rename_i a b
  obtain ⟨rfl⟩ := Option.some.inj hs
  have hc_0 : decide (True) = true := hc
  have hc := of_decide_eq_true hc_0
  exact EndZ.calls (POr.ends a b) (.nil _) (by kernel_rfl) hax hN hfz
namespace PCat
noncomputable def RUN (s : ES) : ZF := RZ 72 .nil (fun _ => false) [] [] false s
theorem in_t (l k : List (List U)) : RUN (st0 72 [l2 l k]) = (bc (decide (IntKind.wrap IntKind.i64 ((0 : Int) + Int.ofNat (List.length (U.list (List.getD (List.getD [[U.l l], [U.l k]] (Int.toNat (0 : Int)) []) (0 : Nat) (U.i (0 : Int)))))) < (0 : Int))) .bad (bc (decide (IntKind.wrap IntKind.i64 (IntKind.wrap IntKind.i64 ((0 : Int) + Int.ofNat (List.length (U.list (List.getD (List.getD [[U.l l], [U.l k]] (Int.toNat (0 : Int)) []) (0 : Nat) (U.i (0 : Int)))))) + Int.ofNat (List.length (U.list (List.getD (List.getD [[U.l l], [U.l k]] (Int.toNat (IntKind.wrap IntKind.i64 ((0 : Int) + (1 : Int)))) []) (0 : Nat) (U.i (0 : Int)))))) < (0 : Int))) .bad (bc (decide (IntKind.wrap IntKind.i64 (IntKind.wrap IntKind.i64 ((0 : Int) + Int.ofNat (List.length (U.list (List.getD (List.getD [[U.l l], [U.l k]] (Int.toNat (0 : Int)) []) (0 : Nat) (U.i (0 : Int)))))) + Int.ofNat (List.length (U.list (List.getD (List.getD [[U.l l], [U.l k]] (Int.toNat (IntKind.wrap IntKind.i64 ((0 : Int) + (1 : Int)))) []) (0 : Nat) (U.i (0 : Int)))))) < (0 : Int))) .bad (bc (decide ((0 : Int) < IntKind.wrap IntKind.i64 (IntKind.wrap IntKind.i64 (IntKind.wrap IntKind.i64 ((0 : Int) + Int.ofNat (List.length (U.list (List.getD (List.getD [[U.l l], [U.l k]] (Int.toNat (0 : Int)) []) (0 : Nat) (U.i (0 : Int)))))) + Int.ofNat (List.length (U.list (List.getD (List.getD [[U.l l], [U.l k]] (Int.toNat (IntKind.wrap IntKind.i64 ((0 : Int) + (1 : Int)))) []) (0 : Nat) (U.i (0 : Int)))))) - IntKind.wrap IntKind.i64 ((Nat.cast (0 : Nat) : Int) - (Nat.cast (0 : Nat) : Int))))) (bc (bc (decide ((0 : Int) < IntKind.wrap IntKind.i64 (IntKind.wrap IntKind.i64 (IntKind.wrap IntKind.i64 ((0 : Int) + Int.ofNat (List.length (U.list (List.getD (List.getD [[U.l l], [U.l k]] (Int.toNat (0 : Int)) []) (0 : Nat) (U.i (0 : Int)))))) + Int.ofNat (List.length (U.list (List.getD (List.getD [[U.l l], [U.l k]] (Int.toNat (IntKind.wrap IntKind.i64 ((0 : Int) + (1 : Int)))) []) (0 : Nat) (U.i (0 : Int)))))) - IntKind.wrap IntKind.i64 ((Nat.cast (0 : Nat) : Int) - (Nat.cast (0 : Nat) : Int))))) (decide (IntKind.wrap IntKind.i64 (IntKind.wrap IntKind.i64 (IntKind.wrap IntKind.i64 ((0 : Int) + Int.ofNat (List.length (U.list (List.getD (List.getD [[U.l l], [U.l k]] (Int.toNat (0 : Int)) []) (0 : Nat) (U.i (0 : Int)))))) + Int.ofNat (List.length (U.list (List.getD (List.getD [[U.l l], [U.l k]] (Int.toNat (IntKind.wrap IntKind.i64 ((0 : Int) + (1 : Int)))) []) (0 : Nat) (U.i (0 : Int)))))) - IntKind.wrap IntKind.i64 ((Nat.cast (0 : Nat) : Int) - (Nat.cast (0 : Nat) : Int))) ≤ (4096 : Int))) false) (bc (Nat.beq (Int.toNat (IntKind.wrap IntKind.i64 (IntKind.wrap IntKind.i64 (IntKind.wrap IntKind.i64 ((0 : Int) + Int.ofNat (List.length (U.list (List.getD (List.getD [[U.l l], [U.l k]] (Int.toNat (0 : Int)) []) (0 : Nat) (U.i (0 : Int)))))) + Int.ofNat (List.length (U.list (List.getD (List.getD [[U.l l], [U.l k]] (Int.toNat (IntKind.wrap IntKind.i64 ((0 : Int) + (1 : Int)))) []) (0 : Nat) (U.i (0 : Int)))))) - IntKind.wrap IntKind.i64 ((Nat.cast (0 : Nat) : Int) - (Nat.cast (0 : Nat) : Int))))) (List.length (List.replicate (Int.toNat (IntKind.wrap IntKind.i64 (IntKind.wrap IntKind.i64 (IntKind.wrap IntKind.i64 ((0 : Int) + Int.ofNat (List.length (U.list (List.getD (List.getD [[U.l l], [U.l k]] (Int.toNat (0 : Int)) []) (0 : Nat) (U.i (0 : Int)))))) + Int.ofNat (List.length (U.list (List.getD (List.getD [[U.l l], [U.l k]] (Int.toNat (IntKind.wrap IntKind.i64 ((0 : Int) + (1 : Int)))) []) (0 : Nat) (U.i (0 : Int)))))) - IntKind.wrap IntKind.i64 ((Nat.cast (0 : Nat) : Int) - (Nat.cast (0 : Nat) : Int))))) [U.i (0 : Int), U.i (0 : Int), U.s { data := #[] }]))) (bc (bc (Nat.ble (List.length (List.take (Int.toNat (Nat.cast (0 : Nat) : Int)) (List.replicate (Int.toNat (IntKind.wrap IntKind.i64 (IntKind.wrap IntKind.i64 (IntKind.wrap IntKind.i64 ((0 : Int) + Int.ofNat (List.length (U.list (List.getD (List.getD [[U.l l], [U.l k]] (Int.toNat (0 : Int)) []) (0 : Nat) (U.i (0 : Int)))))) + Int.ofNat (List.length (U.list (List.getD (List.getD [[U.l l], [U.l k]] (Int.toNat (IntKind.wrap IntKind.i64 ((0 : Int) + (1 : Int)))) []) (0 : Nat) (U.i (0 : Int)))))) - IntKind.wrap IntKind.i64 ((Nat.cast (0 : Nat) : Int) - (Nat.cast (0 : Nat) : Int))))) [U.i (0 : Int), U.i (0 : Int), U.s { data := #[] }])) + List.length (U.list (List.getD (List.getD [[U.l l], [U.l k]] (Int.toNat (0 : Int)) []) (0 : Nat) (U.i (0 : Int))))) (65536 : Nat)) true false) (bc (bc (Nat.beq (List.length (List.take (Int.toNat (Nat.cast (0 : Nat) : Int)) (List.replicate (Int.toNat (IntKind.wrap IntKind.i64 (IntKind.wrap IntKind.i64 (IntKind.wrap IntKind.i64 ((0 : Int) + Int.ofNat (List.length (U.list (List.getD (List.getD [[U.l l], [U.l k]] (Int.toNat (0 : Int)) []) (0 : Nat) (U.i (0 : Int)))))) + Int.ofNat (List.length (U.list (List.getD (List.getD [[U.l l], [U.l k]] (Int.toNat (IntKind.wrap IntKind.i64 ((0 : Int) + (1 : Int)))) []) (0 : Nat) (U.i (0 : Int)))))) - IntKind.wrap IntKind.i64 ((Nat.cast (0 : Nat) : Int) - (Nat.cast (0 : Nat) : Int))))) [U.i (0 : Int), U.i (0 : Int), U.s { data := #[] }]) ++ U.list (List.getD (List.getD [[U.l l], [U.l k]] (Int.toNat (0 : Int)) []) (0 : Nat) (U.i (0 : Int))))) (List.length (List.take (Int.toNat (Nat.cast (0 : Nat) : Int)) (List.replicate (Int.toNat (IntKind.wrap IntKind.i64 (IntKind.wrap IntKind.i64 (IntKind.wrap IntKind.i64 ((0 : Int) + Int.ofNat (List.length (U.list (List.getD (List.getD [[U.l l], [U.l k]] (Int.toNat (0 : Int)) []) (0 : Nat) (U.i (0 : Int)))))) + Int.ofNat (List.length (U.list (List.getD (List.getD [[U.l l], [U.l k]] (Int.toNat (IntKind.wrap IntKind.i64 ((0 : Int) + (1 : Int)))) []) (0 : Nat) (U.i (0 : Int)))))) - IntKind.wrap IntKind.i64 ((Nat.cast (0 : Nat) : Int) - (Nat.cast (0 : Nat) : Int))))) [U.i (0 : Int), U.i (0 : Int), U.s { data := #[] }]) ++ U.list (List.getD (List.getD [[U.l l], [U.l k]] (Int.toNat (0 : Int)) []) (0 : Nat) (U.i (0 : Int)))))) (bc (Nat.ble (List.length (List.take (Int.toNat (Nat.cast (0 : Nat) : Int)) (List.replicate (Int.toNat (IntKind.wrap IntKind.i64 (IntKind.wrap IntKind.i64 (IntKind.wrap IntKind.i64 ((0 : Int) + Int.ofNat (List.length (U.list (List.getD (List.getD [[U.l l], [U.l k]] (Int.toNat (0 : Int)) []) (0 : Nat) (U.i (0 : Int)))))) + Int.ofNat (List.length (U.list (List.getD (List.getD [[U.l l], [U.l k]] (Int.toNat (IntKind.wrap IntKind.i64 ((0 : Int) + (1 : Int)))) []) (0 : Nat) (U.i (0 : Int)))))) - IntKind.wrap IntKind.i64 ((Nat.cast (0 : Nat) : Int) - (Nat.cast (0 : Nat) : Int))))) [U.i (0 : Int), U.i (0 : Int), U.s { data := #[] }]) ++ U.list (List.getD (List.getD [[U.l l], [U.l k]] (Int.toNat (0 : Int)) []) (0 : Nat) (U.i (0 : Int)))) + List.length (U.list (List.getD (List.getD [[U.l l], [U.l k]] (Int.toNat (IntKind.wrap IntKind.i64 ((0 : Int) + (1 : Int)))) []) (0 : Nat) (U.i (0 : Int))))) (65536 : Nat)) true false) false) (bc (Nat.beq (List.length (List.take (Int.toNat (Nat.cast (0 : Nat) : Int)) (List.replicate (Int.toNat (IntKind.wrap IntKind.i64 (IntKind.wrap IntKind.i64 (IntKind.wrap IntKind.i64 ((0 : Int) + Int.ofNat (List.length (U.list (List.getD (List.getD [[U.l l], [U.l k]] (Int.toNat (0 : Int)) []) (0 : Nat) (U.i (0 : Int)))))) + Int.ofNat (List.length (U.list (List.getD (List.getD [[U.l l], [U.l k]] (Int.toNat (IntKind.wrap IntKind.i64 ((0 : Int) + (1 : Int)))) []) (0 : Nat) (U.i (0 : Int)))))) - IntKind.wrap IntKind.i64 ((Nat.cast (0 : Nat) : Int) - (Nat.cast (0 : Nat) : Int))))) [U.i (0 : Int), U.i (0 : Int), U.s { data := #[] }]) ++ U.list (List.getD (List.getD [[U.l l], [U.l k]] (Int.toNat (0 : Int)) []) (0 : Nat) (U.i (0 : Int))) ++ U.list (List.getD (List.getD [[U.l l], [U.l k]] (Int.toNat (IntKind.wrap IntKind.i64 ((0 : Int) + (1 : Int)))) []) (0 : Nat) (U.i (0 : Int))))) (List.length (List.take (Int.toNat (Nat.cast (0 : Nat) : Int)) (List.replicate (Int.toNat (IntKind.wrap IntKind.i64 (IntKind.wrap IntKind.i64 (IntKind.wrap IntKind.i64 ((0 : Int) + Int.ofNat (List.length (U.list (List.getD (List.getD [[U.l l], [U.l k]] (Int.toNat (0 : Int)) []) (0 : Nat) (U.i (0 : Int)))))) + Int.ofNat (List.length (U.list (List.getD (List.getD [[U.l l], [U.l k]] (Int.toNat (IntKind.wrap IntKind.i64 ((0 : Int) + (1 : Int)))) []) (0 : Nat) (U.i (0 : Int)))))) - IntKind.wrap IntKind.i64 ((Nat.cast (0 : Nat) : Int) - (Nat.cast (0 : Nat) : Int))))) [U.i (0 : Int), U.i (0 : Int), U.s { data := #[] }]) ++ U.list (List.getD (List.getD [[U.l l], [U.l k]] (Int.toNat (0 : Int)) []) (0 : Nat) (U.i (0 : Int))) ++ U.list (List.getD (List.getD [[U.l l], [U.l k]] (Int.toNat (IntKind.wrap IntKind.i64 ((0 : Int) + (1 : Int)))) []) (0 : Nat) (U.i (0 : Int)))))) (.done (EV.lst (SyC.recs [(Sh.int IntKind.i64), (Sh.int IntKind.i64), Sh.str] (List.take (Int.toNat (Nat.cast (0 : Nat) : Int)) (List.replicate (Int.toNat (IntKind.wrap IntKind.i64 (IntKind.wrap IntKind.i64 (IntKind.wrap IntKind.i64 ((0 : Int) + Int.ofNat (List.length (U.list (List.getD (List.getD [[U.l l], [U.l k]] (Int.toNat (0 : Int)) []) (0 : Nat) (U.i (0 : Int)))))) + Int.ofNat (List.length (U.list (List.getD (List.getD [[U.l l], [U.l k]] (Int.toNat (IntKind.wrap IntKind.i64 ((0 : Int) + (1 : Int)))) []) (0 : Nat) (U.i (0 : Int)))))) - IntKind.wrap IntKind.i64 ((Nat.cast (0 : Nat) : Int) - (Nat.cast (0 : Nat) : Int))))) [U.i (0 : Int), U.i (0 : Int), U.s { data := #[] }]) ++ U.list (List.getD (List.getD [[U.l l], [U.l k]] (Int.toNat (0 : Int)) []) (0 : Nat) (U.i (0 : Int))) ++ U.list (List.getD (List.getD [[U.l l], [U.l k]] (Int.toNat (IntKind.wrap IntKind.i64 ((0 : Int) + (1 : Int)))) []) (0 : Nat) (U.i (0 : Int)))))) [] 0) .bad) .bad) .bad) .bad) .bad) (bc (bc (Nat.ble ((0 : Nat) + List.length (U.list (List.getD (List.getD [[U.l l], [U.l k]] (Int.toNat (0 : Int)) []) (0 : Nat) (U.i (0 : Int))))) (65536 : Nat)) true false) (bc (bc (Nat.beq (List.length ([] ++ U.list (List.getD (List.getD [[U.l l], [U.l k]] (Int.toNat (0 : Int)) []) (0 : Nat) (U.i (0 : Int))))) (List.length ([] ++ U.list (List.getD (List.getD [[U.l l], [U.l k]] (Int.toNat (0 : Int)) []) (0 : Nat) (U.i (0 : Int)))))) (bc (Nat.ble (List.length ([] ++ U.list (List.getD (List.getD [[U.l l], [U.l k]] (Int.toNat (0 : Int)) []) (0 : Nat) (U.i (0 : Int)))) + List.length (U.list (List.getD (List.getD [[U.l l], [U.l k]] (Int.toNat (IntKind.wrap IntKind.i64 ((0 : Int) + (1 : Int)))) []) (0 : Nat) (U.i (0 : Int))))) (65536 : Nat)) (bc (Nat.blt (0 : Nat) (List.length (U.list (List.getD (List.getD [[U.l l], [U.l k]] (Int.toNat (0 : Int)) []) (0 : Nat) (U.i (0 : Int)))))) true (bc (Nat.blt (0 : Nat) (List.length (U.list (List.getD (List.getD [[U.l l], [U.l k]] (Int.toNat (0 : Int)) []) (0 : Nat) (U.i (0 : Int)))))) false true)) false) false) (bc (Nat.beq (List.length ([] ++ U.list (List.getD (List.getD [[U.l l], [U.l k]] (Int.toNat (0 : Int)) []) (0 : Nat) (U.i (0 : Int))) ++ U.list (List.getD (List.getD [[U.l l], [U.l k]] (Int.toNat (IntKind.wrap IntKind.i64 ((0 : Int) + (1 : Int)))) []) (0 : Nat) (U.i (0 : Int))))) (List.length ([] ++ U.list (List.getD (List.getD [[U.l l], [U.l k]] (Int.toNat (0 : Int)) []) (0 : Nat) (U.i (0 : Int))) ++ U.list (List.getD (List.getD [[U.l l], [U.l k]] (Int.toNat (IntKind.wrap IntKind.i64 ((0 : Int) + (1 : Int)))) []) (0 : Nat) (U.i (0 : Int)))))) (.done (EV.lst (SyC.recs [(Sh.int IntKind.i64), (Sh.int IntKind.i64), Sh.str] ([] ++ U.list (List.getD (List.getD [[U.l l], [U.l k]] (Int.toNat (0 : Int)) []) (0 : Nat) (U.i (0 : Int))) ++ U.list (List.getD (List.getD [[U.l l], [U.l k]] (Int.toNat (IntKind.wrap IntKind.i64 ((0 : Int) + (1 : Int)))) []) (0 : Nat) (U.i (0 : Int)))))) [] 0) .bad) .bad) .bad))))) := by kernel_rfl
theorem ends (l k : List (List U)) (hl : l.length ≤ 1000) (hk : k.length ≤ 1000) : EndZ 72 .nil false (st0 72 [l2 l k]) (wl (l ++ k)) [] 0 := by
  have h := in_t l k
  have e1 : U.list (List.getD (List.getD [[U.l l], [U.l k]] (Int.toNat 0) []) 0 (U.i 0)) = l := rfl
  have e2 : U.list (List.getD (List.getD [[U.l l], [U.l k]] (Int.toNat (IntKind.wrap IntKind.i64 (0 + 1))) []) 0 (U.i 0)) = k := rfl
  have e3 : IntKind.wrap IntKind.i64 ((Nat.cast 0 : Int) - (Nat.cast 0 : Int)) = 0 := rfl
  have e4 : (Int.toNat (Nat.cast 0 : Int)) = 0 := rfl
  have w1 : IntKind.wrap IntKind.i64 (0 + (l.length : Int)) = l.length := by simp (disch := omega) only [Int.zero_add, wrap_in]
  have w2 : IntKind.wrap IntKind.i64 ((l.length : Int) + (k.length : Int)) = l.length + k.length := by simp (disch := omega) only [wrap_in]
  have w3 : IntKind.wrap IntKind.i64 ((l.length : Int) + (k.length : Int) - 0) = l.length + k.length := by simp (disch := omega) only [Int.sub_zero, wrap_in]
  simp only [e1, e2, e3, e4, ofn, w1, w2, w3] at h
  have d1 : ¬ (l.length : Int) < 0 := by omega
  have d2 : ¬ (l.length : Int) + (k.length : Int) < 0 := by omega
  simp only [df d1, df d2, bc_f] at h
  by_cases h0 : (0 : Int) < (l.length : Int) + (k.length : Int)
  · have d3 : (l.length : Int) + (k.length : Int) ≤ 4096 := by omega
    simp (disch := omega) only [Nat.add_eq, eqSy_self, eqN_self, bc_same, List.length_cons, ofn, wrap_in, dt, df, bltD, bltN, ble_of, bleN, beqD, bc_t, bc_f, nn_ok, Nat.zero_add, to_nat, Int.zero_add, Int.sub_zero, Int.sub_self, Int.cast_ofNat_Int, Int.natCast_zero, Int.toNat_zero, List.take_zero, List.nil_append, List.length_append, List.length_nil, dt h0, dt d3, bc_t, List.take_zero, List.length_nil, List.nil_append, List.length_replicate, Nat.zero_add] at h
    exact .done h
  · have z1 : l = [] := List.eq_nil_of_length_eq_zero (by omega)
    have z2 : k = [] := List.eq_nil_of_length_eq_zero (by omega)
    subst z1; subst z2
    exact .done h
end PCat
noncomputable def spCat : ZCT := fun ax => match ax with
  | [.lst (.recs [.list [.int .i64, .int .i64, .str]] [[.l l], [.l k]])] => some ⟨decide (l.length ≤ 1000 ∧ k.length ≤ 1000), .lst (.recs [.int .i64, .int .i64, .str] (l ++ k)), [], 0⟩
  | _ => none
theorem spCat_ok : ZCtOk Try.prog 72 spCat := fun γ w us ax r hs hc hax hN hfz => by
  unfold spCat at hs
  split at hs
  case h_2 => cases hs
  rename_i l k
  obtain ⟨rfl⟩ := Option.some.inj hs
  have hc_0 : decide (l.length ≤ 1000 ∧ k.length ≤ 1000) = true := hc
  have hc := of_decide_eq_true hc_0
  exact EndZ.calls (PCat.ends l k hc.1 hc.2) (.nil _) (by kernel_rfl) hax hN hfz
namespace PChg
noncomputable def RUN (s : ES) : ZF := RZ 58 .nil (atS 0 58 3) [] [[(2,none),(3,none),(4,none),(5,some (3, 81, .recs shW [])),(12,none),(13,none),(14,none)]] false s

noncomputable def sP (n a b : Int) (l : List (List U)) (i : Int) (q : List (List U)) (nn : Bool) : NS := ⟨[⟨58, 51, [(2, (EV.ptr 0 0)), (3, (EV.ptr 1 0)), (4, (EV.ptr 2 0)), (5, (EV.ptr 3 0)), (12, (EV.lst (SyC.recs [(Sh.int IntKind.i64), (Sh.int IntKind.i64), Sh.str] (l)))), (13, (EV.v (Value.int IntKind.i64 (Int.ofNat (List.length l))))), (14, iv i)], [.it (.code (nav [1, 1, 0, 1, 0, 0] (bodyOf Try.f58))), .it (.inLoop (nav [1, 1, 0, 1, 0, 0] (bodyOf Try.f58))), .it (.inBlock 0), .it (.code (nav [1, 1, 1] (bodyOf Try.f58)))], [], Option.none⟩], [(0, (EK.cells 24 [(EV.v (Value.int IntKind.i64 (n))), (EV.lst (SyC.recs [(Sh.int IntKind.i64), (Sh.int IntKind.i64), Sh.str] (l)))] true)), (1, (EK.cells 102 [(EV.v (Value.int IntKind.i64 (a))), (EV.v (Value.int IntKind.i64 (b))), (EV.v Value.nilFunc)] true)), (2, (EK.cells 24 [(EV.v (Value.int IntKind.i64 (0))), (EV.v (Value.slice Option.none 0 0))] true)), (3, EK.cells 24 [iv b, EV.slO 4 3 q.length nn] true), (4, EK.seq 81 (.recs shW q) nn)], 5⟩
theorem in_t (n a b : Int) (l : List (List U)) : RUN (st0 58 [.agg [iv n, wl l], .v (.agg ⟨[.int .i64 a, .int .i64 b, .nilFunc]⟩)]) = (.at (sP (n) (a) (b) (l) ((0 : Int)) ([]) (false))) := by kernel_rfl
theorem step_t (n a b : Int) (l : List (List U)) (i : Int) (q : List (List U)) (nn : Bool) : RUN (stOf (sP n a b l i q nn)) = (bc (decide (i < Int.ofNat (List.length l))) (bc (bc (bc (decide ((0 : Int) ≤ i)) (Nat.blt (Int.toNat i) (List.length l)) false) true false) (bc (bc (Nat.blt (Int.toNat i) (List.length l)) true false) (bc (bc (Nat.beq (List.length q) (List.length q)) (bc (Nat.ble (List.length q + List.length [[U.i (U.int (List.getD (List.getD l (Int.toNat i) []) (0 : Nat) (U.i (0 : Int)))), U.i (IntKind.wrap IntKind.i64 (U.int (List.getD (List.getD l (Int.toNat i) []) (Nat.succ (0 : Nat)) (U.i (0 : Int))) + a)), U.s (U.str (List.getD (List.getD l (Int.toNat i) []) (Nat.succ (Nat.succ (0 : Nat))) (U.i (0 : Int))))]]) (65536 : Nat)) (bc nn true (bc nn false true)) false) false) (.at (sP (n) (a) (b) (l) (IntKind.wrap IntKind.i64 (i + (1 : Int))) (q ++ [[U.i (U.int (List.getD (List.getD l (Int.toNat i) []) (0 : Nat) (U.i (0 : Int)))), U.i (IntKind.wrap IntKind.i64 (U.int (List.getD (List.getD l (Int.toNat i) []) (Nat.succ (0 : Nat)) (U.i (0 : Int))) + a)), U.s (U.str (List.getD (List.getD l (Int.toNat i) []) (Nat.succ (Nat.succ (0 : Nat))) (U.i (0 : Int))))]]) (bc nn true (Nat.blt (0 : Nat) (List.length [[U.i (U.int (List.getD (List.getD l (Int.toNat i) []) (0 : Nat) (U.i (0 : Int)))), U.i (IntKind.wrap IntKind.i64 (U.int (List.getD (List.getD l (Int.toNat i) []) (Nat.succ (0 : Nat)) (U.i (0 : Int))) + a)), U.s (U.str (List.getD (List.getD l (Int.toNat i) []) (Nat.succ (Nat.succ (0 : Nat))) (U.i (0 : Int))))]]))))) .bad) .bad) .bad) (bc (bc (Nat.beq (List.length q) (List.length q)) true false) (.done (EV.agg [(EV.v (Value.int IntKind.i64 (b))), (EV.lst (SyC.recs [(Sh.int IntKind.i64), (Sh.int IntKind.i64), Sh.str] (q)))]) [] 0) .bad)) := by kernel_rfl
theorem step {n a b : Int} {l : List (List U)} {i : Nat} {q : List (List U)} {nn : Bool} (hi : i < l.length) (hl : l.length ≤ 1000) (hq : q.length ≤ 1000) (ha : 0 ≤ rA l[i] ∧ rA l[i] ≤ 1000) (hk : -1000 ≤ a ∧ a ≤ 1000) : RUN (stOf (sP n a b l i q nn)) = .at (sP n a b l (i + 1 : Nat) (q ++ [shR a l[i]]) true) := by
  rw [step_t]
  have e : l.getD i [] = l[i] := getD_at hi
  simp (disch := omega) only [Nat.add_eq, eqSy_self, eqN_self, bc_same, List.length_cons, ofn, wrap_in, dt, df, bltD, bltN, ble_of, bleN, beqD, bc_t, bc_f, nn_ok, Nat.zero_add, to_nat, Int.zero_add, Int.sub_zero, Int.sub_self, Int.cast_ofNat_Int, Int.natCast_zero, Int.toNat_zero, List.take_zero, List.nil_append, List.length_append, List.length_nil, e, fK0, fK1, fA0, fA1, fA2, fW0, fW1, fW2]
  rfl
theorem last {n a b : Int} {l : List (List U)} {i : Nat} {q : List (List U)} {nn : Bool} (hi : l.length ≤ i) : RUN (stOf (sP n a b l i q nn)) = .done (.agg [iv b, wl q]) [] 0 := by
  rw [step_t]
  simp (disch := omega) only [Nat.add_eq, eqSy_self, eqN_self, bc_same, List.length_cons, ofn, wrap_in, dt, df, bltD, bltN, ble_of, bleN, beqD, bc_t, bc_f, nn_ok, Nat.zero_add, to_nat, Int.zero_add, Int.sub_zero, Int.sub_self, Int.cast_ofNat_Int, Int.natCast_zero, Int.toNat_zero, List.take_zero, List.nil_append, List.length_append, List.length_nil]
  rfl
theorem loop {n a b : Int} {l : List (List U)} (hl : l.length ≤ 1000) (ha : AtOk l) (hk : -1000 ≤ a ∧ a ≤ 1000) : ∀ (m i : Nat) (q : List (List U)) (nn : Bool), i + m = l.length → q.length ≤ i → EndZ 58 .nil false (stOf (sP n a b l i q nn)) (.agg [iv b, wl (q ++ shL a (l.drop i))]) [] 0
  | 0, i, q, nn, h, hq => by
    rw [List.drop_eq_nil_of_le (by omega)]
    show EndZ _ _ _ _ (.agg [iv b, wl (q ++ [])]) _ _
    rw [List.append_nil]
    exact .done (last (by omega))
  | m + 1, i, q, nn, h, hq => by
    have hi : i < l.length := by omega
    rw [List.drop_eq_getElem_cons hi]
    show EndZ _ _ _ _ (.agg [iv b, wl (q ++ (shR a l[i] :: shL a (l.drop (i + 1))))]) _ _
    rw [show q ++ (shR a l[i] :: shL a (l.drop (i + 1))) = (q ++ [shR a l[i]]) ++ shL a (l.drop (i + 1)) by simp]
    exact .at (.nil _) (step hi hl (by omega) (ha _ (List.getElem_mem hi)) hk) (loop hl ha hk m (i + 1) _ true (by omega) (by simp; omega))
end PChg
noncomputable def spChg : ZCT := fun ax => match ax with
  | [.agg [.v (.int .i64 n), .lst (.recs [.int .i64, .int .i64, .str] l)], .v (.agg ⟨[.int .i64 a, .int .i64 b, .nilFunc]⟩)] => some ⟨decide (l.length ≤ 1000 ∧ AtOk l ∧ -1000 ≤ a ∧ a ≤ 1000), .agg [iv b, wl (shL a l)], [], 0⟩
  | _ => none
theorem spChg_ok : ZCtOk Try.prog 58 spChg := fun γ w us ax r hs hc hax hN hfz => by
  unfold spChg at hs
  split at hs
  case h_2 => cases hs
  rename_i n l a b
  obtain ⟨rfl⟩ := Option.some.inj hs
  have hc_0 : decide (l.length ≤ 1000 ∧ AtOk l ∧ -1000 ≤ a ∧ a ≤ 1000) = true := hc
  have hc := of_decide_eq_true hc_0
  exact EndZ.calls (.at (.nil _) (PChg.in_t n a b l) (by have := PChg.loop (n := n) (b := b) hc.1 hc.2.1 hc.2.2 l.length 0 [] false (by omega) (by simp); rw [List.nil_append] at this; exact this)) (.nil _) (by kernel_rfl) hax hN hfz
noncomputable def ctJ1 : Tr ZCC := ((ctP3.put 69 (some (dC spPChk4))).put 71 (some (dC spOr))).put 72 (some (dC spCat)) |>.put 58 (some (dC spChg))
theorem ctJ1_ok : ZCtsOk Try.prog ctJ1 := (((ctP3_ok.add rfl spPChk4_ok).add rfl spOr_ok).add rfl spCat_ok).add rfl spChg_ok
theorem uH (x : Int) : U.int (List.headD [U.i x] (U.i 0)) = x := rfl
theorem orBoth (n m : Int) (l k : List (List U)) : bc (chk4 n l != 0) (chk4 n l) (bc (chk4 m k != 0) (chk4 m k) 0) = both n m l k := by
  unfold both
  cases h1 : (chk4 n l != 0)
  · cases h2 : (chk4 m k != 0)
    · simp only [bc_f]; exact (ne0 h2).symm
    · simp only [bc_f, bc_t]
  · simp only [bc_t]
theorem both0 {n m : Int} {l k : List (List U)} (h : (both n m l k != 0) = false) : chk4 n l = 0 ∧ chk4 m k = 0 := by
  have h := ne0 h
  unfold both at h
  cases h1 : (chk4 n l != 0) <;> rw [h1] at h
  · exact ⟨ne0 h1, h⟩
  · simp only [bc_t] at h
    rw [h] at h1; cases h1
namespace PBes
noncomputable def RUN (s : ES) : ZF := RZ 36 ctJ1 (fun _ => false) [] [] false s
theorem in_t (n m : Int) (l k : List (List U)) : RUN (st0 36 (as2 n m l k)) = (bc (bc (U.int (List.headD [U.i (chk4 n l)] (U.i (0 : Int))) != (0 : Int)) (U.int (List.headD [U.i (chk4 n l)] (U.i (0 : Int)))) (bc (U.int (List.headD [U.i (chk4 m k)] (U.i (0 : Int))) != (0 : Int)) (U.int (List.headD [U.i (chk4 m k)] (U.i (0 : Int)))) (0 : Int)) != (0 : Int)) (.done (EV.tup [(EV.v (Value.agg (Array.mk [(Value.int IntKind.i64 (0)), (Value.slice Option.none 0 0)]))), (EV.v (Value.int IntKind.i64 (bc (U.int (List.headD [U.i (chk4 n l)] (U.i (0 : Int))) != (0 : Int)) (U.int (List.headD [U.i (chk4 n l)] (U.i (0 : Int)))) (bc (U.int (List.headD [U.i (chk4 m k)] (U.i (0 : Int))) != (0 : Int)) (U.int (List.headD [U.i (chk4 m k)] (U.i (0 : Int)))) (0 : Int)))))]) [] 0) (bc (decide ((24 : Int) < IntKind.wrap IntKind.i64 (n + m))) (.done (EV.tup [(EV.v (Value.agg (Array.mk [(Value.int IntKind.i64 (0)), (Value.slice Option.none 0 0)]))), (EV.v (Value.int IntKind.i64 (3)))]) [] 0) (bc (decide ((400 : Int) < IntKind.wrap IntKind.i64 (Int.ofNat (List.length l) + Int.ofNat (List.length k)))) (.done (EV.tup [(EV.v (Value.agg (Array.mk [(Value.int IntKind.i64 (0)), (Value.slice Option.none 0 0)]))), (EV.v (Value.int IntKind.i64 (3)))]) [] 0) (bc (decide (List.length k ≤ (1000 : Nat) ∧ AtOk k ∧ (-1000 : Int) ≤ n ∧ n ≤ (1000 : Int))) (bc (bc (bc (decide (List.length l ≤ (1000 : Nat) ∧ List.length (shL n k) ≤ (1000 : Nat))) true false) (bc (bc (bc (decide (IntKind.wrap IntKind.i64 (n + m) = IntKind.wrap IntKind.i64 (n + m))) true false) true false) true false) false) (.done (EV.tup [(EV.agg [(EV.v (Value.int IntKind.i64 (IntKind.wrap IntKind.i64 (n + m)))), (EV.lst (SyC.recs [(Sh.int IntKind.i64), (Sh.int IntKind.i64), Sh.str] (l ++ shL n k)))]), (EV.v (Value.int IntKind.i64 (0)))]) [] 0) .bad) .bad)))) := by kernel_rfl
theorem ends (n m : Int) (l k : List (List U)) : EndZ 36 ctJ1 false (st0 36 (as2 n m l k)) (shE (besP n m l k) (besL n m l k) (besE n m l k)) [] 0 := by
  have h := in_t n m l k
  simp only [uH, orBoth] at h
  cases h1 : (both n m l k != 0) <;> rw [h1] at h
  · obtain ⟨e1, e2⟩ := both0 h1
    have v1 := chk4_ok e1
    have v2 := chk4_ok e2
    have g1 := v1.lo
    have g2 := v1.hi
    have g3 := v1.len
    have g4 := v2.lo
    have g5 := v2.hi
    have g6 := v2.len
    have e := besE0 e1 e2
    have hp := atS3 v2 n (by omega) (by omega)
    have hq : l.length ≤ 1000 ∧ (shL n k).length ≤ 1000 := ⟨by omega, by rw [shL_len]; omega⟩
    by_cases h3 : 24 < n + m
    · rw [dt h3, bc_t] at e
      simp (disch := omega) only [Nat.add_eq, eqSy_self, eqN_self, bc_same, List.length_cons, ofn, wrap_in, dt, df, bltD, bltN, ble_of, bleN, beqD, bc_t, bc_f, nn_ok, Nat.zero_add, to_nat, Int.zero_add, Int.sub_zero, Int.sub_self, Int.cast_ofNat_Int, Int.natCast_zero, Int.toNat_zero, List.take_zero, List.nil_append, List.length_append, List.length_nil] at h
      exact doneY h (besV e rfl).1.symm (besV e rfl).2.symm e.symm
    rw [df h3, bc_f] at e
    by_cases h4 : 400 < (l.length : Int) + (k.length : Int)
    · rw [dt h4, bc_t] at e
      simp (disch := omega) only [Nat.add_eq, eqSy_self, eqN_self, bc_same, List.length_cons, ofn, wrap_in, dt, df, bltD, bltN, ble_of, bleN, beqD, bc_t, bc_f, nn_ok, Nat.zero_add, to_nat, Int.zero_add, Int.sub_zero, Int.sub_self, Int.cast_ofNat_Int, Int.natCast_zero, Int.toNat_zero, List.take_zero, List.nil_append, List.length_append, List.length_nil] at h
      exact doneY h (besV e rfl).1.symm (besV e rfl).2.symm e.symm
    rw [df h4, bc_f] at e
    simp (disch := omega) only [Nat.add_eq, eqSy_self, eqN_self, bc_same, List.length_cons, ofn, wrap_in, dt, df, bltD, bltN, ble_of, bleN, beqD, bc_t, bc_f, nn_ok, Nat.zero_add, to_nat, Int.zero_add, Int.sub_zero, Int.sub_self, Int.cast_ofNat_Int, Int.natCast_zero, Int.toNat_zero, List.take_zero, List.nil_append, List.length_append, List.length_nil, dt hp, dt hq] at h
    exact doneX h (besV0 e).1.symm (besV0 e).2.symm e.symm
  · have e := besE1 (rfl : both n m l k = _) h1
    simp only [bc_t] at h
    exact doneY h (besV e h1).1.symm (besV e h1).2.symm e.symm
end PBes
noncomputable def spPBes : ZCT := fun ax => match ax with
  | [.agg [.v (.int .i64 n), .lst (.recs [.int .i64, .int .i64, .str] l)], .agg [.v (.int .i64 m), .lst (.recs [.int .i64, .int .i64, .str] k)]] => some ⟨decide (True), shE (besP n m l k) (besL n m l k) (besE n m l k), [], 0⟩
  | _ => none
theorem spPBes_ok : ZCtOk Try.prog 36 spPBes := fun γ w us ax r hs hc hax hN hfz => by
  unfold spPBes at hs
  split at hs
  case h_2 => cases hs
  rename_i n l m k
  obtain ⟨rfl⟩ := Option.some.inj hs
  have hc_0 : decide (True) = true := hc
  have hc := of_decide_eq_true hc_0
  exact EndZ.calls (PBes.ends n m l k) ctJ1_ok (by kernel_rfl) hax hN hfz
namespace PBel
noncomputable def RUN (s : ES) : ZF := RZ 35 ctJ1 (fun _ => false) [] [] false s
theorem in_t (n m : Int) (l k : List (List U)) : RUN (st0 35 (as2 n m l k)) = (bc (bc (U.int (List.headD [U.i (chk4 n l)] (U.i (0 : Int))) != (0 : Int)) (U.int (List.headD [U.i (chk4 n l)] (U.i (0 : Int)))) (bc (U.int (List.headD [U.i (chk4 m k)] (U.i (0 : Int))) != (0 : Int)) (U.int (List.headD [U.i (chk4 m k)] (U.i (0 : Int)))) (0 : Int)) != (0 : Int)) (.done (EV.tup [(EV.v (Value.agg (Array.mk [(Value.int IntKind.i64 (0)), (Value.slice Option.none 0 0)]))), (EV.v (Value.int IntKind.i64 (bc (U.int (List.headD [U.i (chk4 n l)] (U.i (0 : Int))) != (0 : Int)) (U.int (List.headD [U.i (chk4 n l)] (U.i (0 : Int)))) (bc (U.int (List.headD [U.i (chk4 m k)] (U.i (0 : Int))) != (0 : Int)) (U.int (List.headD [U.i (chk4 m k)] (U.i (0 : Int)))) (0 : Int)))))]) [] 0) (bc (n != m) (.done (EV.tup [(EV.v (Value.agg (Array.mk [(Value.int IntKind.i64 (0)), (Value.slice Option.none 0 0)]))), (EV.v (Value.int IntKind.i64 (2)))]) [] 0) (bc (decide ((400 : Int) < IntKind.wrap IntKind.i64 (Int.ofNat (List.length l) + Int.ofNat (List.length k)))) (.done (EV.tup [(EV.v (Value.agg (Array.mk [(Value.int IntKind.i64 (0)), (Value.slice Option.none 0 0)]))), (EV.v (Value.int IntKind.i64 (3)))]) [] 0) (bc (bc (bc (decide (List.length l ≤ (1000 : Nat) ∧ List.length k ≤ (1000 : Nat))) true false) (bc (bc (bc (decide (n = n)) true false) true false) true false) false) (.done (EV.tup [(EV.agg [(EV.v (Value.int IntKind.i64 (n))), (EV.lst (SyC.recs [(Sh.int IntKind.i64), (Sh.int IntKind.i64), Sh.str] (l ++ k)))]), (EV.v (Value.int IntKind.i64 (0)))]) [] 0) .bad)))) := by kernel_rfl
theorem ends (n m : Int) (l k : List (List U)) : EndZ 35 ctJ1 false (st0 35 (as2 n m l k)) (shE (belP n m l k) (belL n m l k) (belE n m l k)) [] 0 := by
  have h := in_t n m l k
  simp only [uH, orBoth] at h
  cases h1 : (both n m l k != 0) <;> rw [h1] at h
  · obtain ⟨e1, e2⟩ := both0 h1
    have v1 := chk4_ok e1
    have v2 := chk4_ok e2
    have g3 := v1.len
    have g6 := v2.len
    have e := belE0 e1 e2
    have hq : l.length ≤ 1000 ∧ k.length ≤ 1000 := ⟨by omega, by omega⟩
    cases h3 : (n != m) <;> rw [h3] at e h
    · rw [bc_f] at e
      by_cases h4 : 400 < (l.length : Int) + (k.length : Int)
      · rw [dt h4, bc_t] at e
        simp (disch := omega) only [Nat.add_eq, eqSy_self, eqN_self, bc_same, List.length_cons, ofn, wrap_in, dt, df, bltD, bltN, ble_of, bleN, beqD, bc_t, bc_f, nn_ok, Nat.zero_add, to_nat, Int.zero_add, Int.sub_zero, Int.sub_self, Int.cast_ofNat_Int, Int.natCast_zero, Int.toNat_zero, List.take_zero, List.nil_append, List.length_append, List.length_nil] at h
        exact doneY h (belV e rfl).1.symm (belV e rfl).2.symm e.symm
      rw [df h4, bc_f] at e
      simp (disch := omega) only [Nat.add_eq, eqSy_self, eqN_self, bc_same, List.length_cons, ofn, wrap_in, dt, df, bltD, bltN, ble_of, bleN, beqD, bc_t, bc_f, nn_ok, Nat.zero_add, to_nat, Int.zero_add, Int.sub_zero, Int.sub_self, Int.cast_ofNat_Int, Int.natCast_zero, Int.toNat_zero, List.take_zero, List.nil_append, List.length_append, List.length_nil, dt hq] at h
      exact doneX h (belV0 e).1.symm (belV0 e).2.symm e.symm
    · rw [bc_t] at e
      exact doneY h (belV e rfl).1.symm (belV e rfl).2.symm e.symm
  · have e := belE1 (rfl : both n m l k = _) h1
    simp only [bc_t] at h
    exact doneY h (belV e h1).1.symm (belV e h1).2.symm e.symm
end PBel
noncomputable def spPBel : ZCT := fun ax => match ax with
  | [.agg [.v (.int .i64 n), .lst (.recs [.int .i64, .int .i64, .str] l)], .agg [.v (.int .i64 m), .lst (.recs [.int .i64, .int .i64, .str] k)]] => some ⟨decide (True), shE (belP n m l k) (belL n m l k) (belE n m l k), [], 0⟩
  | _ => none
theorem spPBel_ok : ZCtOk Try.prog 35 spPBel := fun γ w us ax r hs hc hax hN hfz => by
  unfold spPBel at hs
  split at hs
  case h_2 => cases hs
  rename_i n l m k
  obtain ⟨rfl⟩ := Option.some.inj hs
  have hc_0 : decide (True) = true := hc
  have hc := of_decide_eq_true hc_0
  exact EndZ.calls (PBel.ends n m l k) ctJ1_ok (by kernel_rfl) hax hN hfz
end Go.Proofs.Ytkbebiebaenbdaa.Ev
namespace Go.Proofs.Ytkbebiebaenbdaa.Ev
open Go.Proofs
noncomputable def trB (t : ByteArray) (c : Int) : Int := byteAt t (idx bLet c).toNat
theorem bytesL_len (w : ByteArray) : (bytesL w).length = w.size := by unfold bytesL; rw [List.length_map, Array.length_toList]; rfl
theorem bytesL_at {w : ByteArray} {i : Nat} (hi : i < w.size) : (bytesL w)[i]'(by rw [bytesL_len]; exact hi) = byteAt w i := by
  have hl : i < w.data.toList.length := by rw [Array.length_toList]; exact hi
  unfold bytesL byteAt
  rw [List.getElem_map, getD_at hl]
theorem strOfNums_snoc (p : List Int) (t : ByteArray) (j : Nat) (h : j < t.size) : strOfNums p ++ t.extract j (j + 1) = strOfNums (p ++ [byteAt t j]) := by
  have hl : j < t.data.toList.length := by rw [Array.length_toList]; exact h
  apply ByteArray.ext
  apply Array.ext'
  rw [ByteArray.data_append, Array.toList_append, ByteArray.data_extract, Array.toList_extract, strOfNums_data, strOfNums_data, List.map_append]
  congr 1
  unfold byteAt
  rw [getD_at hl, List.extract_eq_take_drop]
  rw [show j + 1 - j = 1 by omega, List.drop_eq_getElem_cons hl]
  simp
theorem chgB_eq {t w : ByteArray} (ht : t.size = 9) : ∀ (k i : Nat) (p : List Int), i + k = w.size → badF w i k = false → chgB t w i (strOfNums p) k = strOfNums (p ++ ((bytesL w).drop i).map (trB t))
  | 0, i, p, h, hb => by
    rw [List.drop_eq_nil_of_le (by rw [bytesL_len]; omega)]
    show strOfNums p = strOfNums (p ++ [])
    rw [List.append_nil]
  | k + 1, i, p, h, hb => by
    unfold badF at hb
    have h0 : ¬ idx bLet (byteAt w i) < 0 := fun h => by rw [dt h, bc_t] at hb; cases hb
    rw [df h0, bc_f] at hb
    have h9 : idx bLet (byteAt w i) < 9 := idx_lt bLet _
    have hi : i < w.size := by omega
    rw [List.drop_eq_getElem_cons (show i < (bytesL w).length by rw [bytesL_len]; exact hi), bytesL_at hi, List.map_cons]
    unfold chgB
    rw [strOfNums_snoc p t _ (by omega), chgB_eq ht k (i + 1) _ (by omega) hb, List.append_assoc]
    rfl
namespace PExc
noncomputable def RUN (s : ES) : ZF := RZ 94 ctP2 (atS 0 94 6) [] [[(1,none),(7,none),(17,none),(18,none),(19,none)]] false s

noncomputable def sX (t : ByteArray) (m : Nat) (i : Int) (q : List Int) : NS := ⟨[⟨94, 34, [(1, sv t), (7, EV.slO 0 1 m true), (17, EV.slO 0 1 m true), (18, iv m), (19, iv i)], [.it (.code (nav [1, 1, 1, 0, 1, 0, 0] (bodyOf Try.f94))), .it (.inLoop (nav [1, 1, 1, 0, 1, 0, 0] (bodyOf Try.f94))), .it (.inBlock 0), .it (.code (nav [1, 1, 1, 1] (bodyOf Try.f94)))], [], Option.none⟩], [(0, EK.seq 5 (.ints .u8 q) true)], 1⟩
theorem step_t (t : ByteArray) (m : Nat) (i : Int) (q : List Int) : RUN (stOf (sX t m i q)) = (bc (decide (i < (Nat.cast m : Int))) (bc (bc (bc (decide ((0 : Int) ≤ i)) (Nat.blt (Int.toNat i) m) false) true false) (bc (bc (Nat.blt (Int.toNat i) (List.length q)) true false) (bc (bc (bc (decide ((0 : Int) ≤ List.getD q (Int.toNat i) (0 : Int))) (decide (List.getD q (Int.toNat i) (0 : Int) < (256 : Int))) false) true false) (bc (bc (bc (decide ((0 : Int) ≤ idx { data := #[(67 : UInt8), (84 : UInt8), (76 : UInt8), (82 : UInt8), (80 : UInt8), (99 : UInt8), (116 : UInt8), (108 : UInt8), (114 : UInt8)] } (List.getD q (Int.toNat i) (0 : Int)))) (Nat.blt (Int.toNat (idx { data := #[(67 : UInt8), (84 : UInt8), (76 : UInt8), (82 : UInt8), (80 : UInt8), (99 : UInt8), (116 : UInt8), (108 : UInt8), (114 : UInt8)] } (List.getD q (Int.toNat i) (0 : Int)))) (ByteArray.size t)) false) true false) (bc (bc (bc (decide ((0 : Int) ≤ i)) (Nat.blt (Int.toNat i) m) false) true false) (bc (Nat.blt (Int.toNat i) (List.length q)) (.at (sX (t) (m) (IntKind.wrap IntKind.i64 (i + (1 : Int))) (List.set q (Int.toNat i) (byteAt t (Int.toNat (idx { data := #[(67 : UInt8), (84 : UInt8), (76 : UInt8), (82 : UInt8), (80 : UInt8), (99 : UInt8), (116 : UInt8), (108 : UInt8), (114 : UInt8)] } (List.getD q (Int.toNat i) (0 : Int)))))))) .bad) .bad) .bad) .bad) .bad) .bad) (bc (bc (Nat.beq m (List.length q)) true false) (.done (EV.tup [(EV.v (Value.string (strOfNums q))), (EV.v (Value.int IntKind.i64 (0)))]) [] 0) .bad)) := by kernel_rfl
theorem in_t (w t : ByteArray) : RUN (st0 94 [sv w, sv t]) = (bc (chk3 w != (0 : Int)) (.done (EV.tup [(EV.v (Value.string (ByteArray.mk #[]))), (EV.v (Value.int IntKind.i64 (chk3 w)))]) [] 0) (bc (Nat.ble (ByteArray.size w) (65536 : Nat)) (.at (sX (t) (ByteArray.size w) ((0 : Int)) (List.map (fun b => Int.ofNat (UInt8.toNat b)) (Array.toList (ByteArray.data w))))) .bad)) := by kernel_rfl
theorem step {t : ByteArray} {m i j : Nat} {q : List Int} {c : Int} (hi : i < m) (hm : q.length = m) (hmm : m ≤ 16) (ht : t.size = 9) (hc : q.getD i 0 = c) (c0 : 0 ≤ c) (c1 : c < 256) (hj : idx bLet c = (j : Int)) (hj9 : j < 9) : RUN (stOf (sX t m i q)) = .at (sX t m (i + 1 : Nat) (q.set i (byteAt t j))) := by
  rw [step_t]
  have e0 : List.getD q (Int.toNat (i : Int)) 0 = c := hc
  have e : idx (ByteArray.mk #[(67 : UInt8), (84 : UInt8), (76 : UInt8), (82 : UInt8), (80 : UInt8), (99 : UInt8), (116 : UInt8), (108 : UInt8), (114 : UInt8)]) c = (j : Int) := hj
  simp only [e0, e]
  simp (disch := omega) only [Nat.add_eq, eqSy_self, eqN_self, bc_same, List.length_cons, ofn, wrap_in, dt, df, bltD, bltN, ble_of, bleN, beqD, bc_t, bc_f, nn_ok, Nat.zero_add, to_nat, Int.zero_add, Int.sub_zero, Int.sub_self, Int.cast_ofNat_Int, Int.natCast_zero, Int.toNat_zero, List.take_zero, List.nil_append, List.length_append, List.length_nil, Int.toNat_natCast, ht]
  rfl
theorem last {t : ByteArray} {m i : Nat} {q : List Int} (hi : m ≤ i) (hm : q.length = m) : RUN (stOf (sX t m i q)) = .done (.tup [sv (strOfNums q), iv 0]) [] 0 := by
  rw [step_t]
  subst hm
  simp (disch := omega) only [Nat.add_eq, eqSy_self, eqN_self, bc_same, List.length_cons, ofn, wrap_in, dt, df, bltD, bltN, ble_of, bleN, beqD, bc_t, bc_f, nn_ok, Nat.zero_add, to_nat, Int.zero_add, Int.sub_zero, Int.sub_self, Int.cast_ofNat_Int, Int.natCast_zero, Int.toNat_zero, List.take_zero, List.nil_append, List.length_append, List.length_nil]
theorem loop {w t : ByteArray} (hw : w.size ≤ 16) (ht : t.size = 9) : ∀ (k i : Nat) (p : List Int), i + k = w.size → p.length = i → badF w i k = false → EndZ 94 ctP2 false (stOf (sX t w.size i (p ++ (bytesL w).drop i))) (.tup [sv (strOfNums (p ++ ((bytesL w).drop i).map (trB t))), iv 0]) [] 0
  | 0, i, p, h, hp, hb => by
    rw [List.drop_eq_nil_of_le (by rw [bytesL_len]; omega)]
    exact .done (last (by omega) (by rw [List.length_append, List.length_nil]; omega))
  | k + 1, i, p, h, hp, hb => by
    unfold badF at hb
    have h0 : ¬ idx bLet (byteAt w i) < 0 := fun h => by rw [dt h, bc_t] at hb; cases hb
    rw [df h0, bc_f] at hb
    obtain ⟨j, hj⟩ := Int.eq_ofNat_of_zero_le (show 0 ≤ idx bLet (byteAt w i) by omega)
    have h9 : idx bLet (byteAt w i) < 9 := idx_lt bLet _
    have hi : i < w.size := by omega
    have hbl := bytesL_len w
    have hd : (bytesL w).drop i = byteAt w i :: (bytesL w).drop (i + 1) := by rw [List.drop_eq_getElem_cons (by omega), bytesL_at hi]
    have hlen : (p ++ (bytesL w).drop i).length = w.size := by rw [List.length_append, List.length_drop]; omega
    have hg : (p ++ (bytesL w).drop i).getD i 0 = byteAt w i := by
      rw [hd, List.getD_eq_getElem?_getD, List.getElem?_append_right (by omega), hp, Nat.sub_self]; rfl
    have hset : (p ++ (bytesL w).drop i).set i (byteAt t j) = (p ++ [byteAt t j]) ++ (bytesL w).drop (i + 1) := by
      rw [hd, List.set_append_right _ _ (by omega), hp, Nat.sub_self, List.set_cons_zero, List.append_assoc]; rfl
    have htr : trB t (byteAt w i) = byteAt t j := by unfold trB; rw [hj]; rfl
    have hs := step hi hlen hw ht hg (byteAt_lo w i) (byteAt_hi w i) hj (by omega)
    rw [hset] at hs
    have key := loop hw ht k (i + 1) (p ++ [byteAt t j]) (by omega) (by rw [List.length_append, hp]; rfl) hb
    rw [show p ++ ((bytesL w).drop i).map (trB t) = (p ++ [byteAt t j]) ++ ((bytesL w).drop (i + 1)).map (trB t) by rw [hd, List.map_cons, htr, List.append_assoc]; rfl]
    exact .at ctP2_ok hs key
theorem ends (w t : ByteArray) (ht : t.size = 9) : EndZ 94 ctP2 false (st0 94 [sv w, sv t]) (.tup [sv (chgW t w), iv (chk3 w)]) [] 0 := by
  have h := in_t w t
  unfold chgW
  cases h1 : (chk3 w != 0) <;> rw [h1] at h
  · have e := ne0 h1
    obtain ⟨h3, h4⟩ := chk3_0 e
    rw [bc_f, ble_of (by omega), bc_t] at h
    rw [e]
    have key := loop h3 ht w.size 0 [] (by omega) rfl h4
    have e2 : chg t w = strOfNums ([] ++ ((bytesL w).drop 0).map (trB t)) := chgB_eq ht w.size 0 [] (by omega) h4
    rw [← e2] at key
    exact .at ctP2_ok h key
  · exact .done h
end PExc
noncomputable def spExc : ZCT := fun ax => match ax with
  | [.v (.string w), .v (.string t)] => some ⟨decide (t.size = 9), .tup [sv (chgW t w), iv (chk3 w)], [], 0⟩
  | _ => none
theorem spExc_ok : ZCtOk Try.prog 94 spExc := fun γ w us ax r hs hc hax hN hfz => by
  unfold spExc at hs
  split at hs
  case h_2 => cases hs
  rename_i w t
  obtain ⟨rfl⟩ := Option.some.inj hs
  have hc_0 : decide (t.size = 9) = true := hc
  have hc := of_decide_eq_true hc_0
  exact EndZ.calls (PExc.ends w t hc) ctP2_ok (by kernel_rfl) hax hN hfz
noncomputable def ctE : Tr ZCC := ctP2.put 94 (some (dC spExc))
theorem ctE_ok : ZCtsOk Try.prog ctE := ctP2_ok.add rfl spExc_ok
namespace PWFlip
noncomputable def RUN (s : ES) : ZF := RZ 65 ctE (fun _ => false) [] [] false s
theorem in_t (w : ByteArray) : RUN (st0 65 [sv w]) = (.done (EV.tup [(EV.v (Value.string (chgW { data := #[(67 : UInt8), (84 : UInt8), (82 : UInt8), (76 : UInt8), (80 : UInt8), (99 : UInt8), (116 : UInt8), (114 : UInt8), (108 : UInt8)] } w))), (EV.v (Value.int IntKind.i64 (chk3 w)))]) [] 0) := by kernel_rfl
end PWFlip
namespace PWMir
noncomputable def RUN (s : ES) : ZF := RZ 67 ctE (fun _ => false) [] [] false s
theorem in_t (w : ByteArray) : RUN (st0 67 [sv w]) = (.done (EV.tup [(EV.v (Value.string (chgW { data := #[(99 : UInt8), (116 : UInt8), (114 : UInt8), (108 : UInt8), (80 : UInt8), (67 : UInt8), (84 : UInt8), (82 : UInt8), (76 : UInt8)] } w))), (EV.v (Value.int IntKind.i64 (chk3 w)))]) [] 0) := by kernel_rfl
end PWMir
noncomputable def spPWF : ZCT := fun ax => match ax with
  | [.v (.string w)] => some ⟨decide (True), .tup [sv (chgW bFlip w), iv (chk3 w)], [], 0⟩
  | _ => none
theorem spPWF_ok : ZCtOk Try.prog 65 spPWF := fun γ w us ax r hs hc hax hN hfz => by
  unfold spPWF at hs
  split at hs
  case h_2 => cases hs
  rename_i w
  obtain ⟨rfl⟩ := Option.some.inj hs
  have hc_0 : decide (True) = true := hc
  have hc := of_decide_eq_true hc_0
  exact EndZ.calls (.done (PWFlip.in_t w)) ctE_ok (by kernel_rfl) hax hN hfz
noncomputable def spPWM : ZCT := fun ax => match ax with
  | [.v (.string w)] => some ⟨decide (True), .tup [sv (chgW bMir w), iv (chk3 w)], [], 0⟩
  | _ => none
theorem spPWM_ok : ZCtOk Try.prog 67 spPWM := fun γ w us ax r hs hc hax hN hfz => by
  unfold spPWM at hs
  split at hs
  case h_2 => cases hs
  rename_i w
  obtain ⟨rfl⟩ := Option.some.inj hs
  have hc_0 : decide (True) = true := hc
  have hc := of_decide_eq_true hc_0
  exact EndZ.calls (.done (PWMir.in_t w)) ctE_ok (by kernel_rfl) hax hN hfz
noncomputable def ctH : Tr ZCC := (ctJ1.put 65 (some (dC spPWF))).put 67 (some (dC spPWM))
theorem ctH_ok : ZCtsOk Try.prog ctH := (ctJ1_ok.add rfl spPWF_ok).add rfl spPWM_ok
namespace PChF
noncomputable def RUN (s : ES) : ZF := RZ 58 ctH (atS 0 58 3) [] [[(2,none),(3,none),(4,none),(5,some (3, 81, .recs shW [])),(12,none),(13,none),(14,none)]] false s

noncomputable def sP (n a b : Int) (l : List (List U)) (i : Int) (q : List (List U)) (nn : Bool) : NS := ⟨[⟨58, 51, [(2, (EV.ptr 0 0)), (3, (EV.ptr 1 0)), (4, (EV.ptr 2 0)), (5, (EV.ptr 3 0)), (12, (EV.lst (SyC.recs [(Sh.int IntKind.i64), (Sh.int IntKind.i64), Sh.str] (l)))), (13, (EV.v (Value.int IntKind.i64 (Int.ofNat (List.length l))))), (14, iv i)], [.it (.code (nav [1, 1, 0, 1, 0, 0] (bodyOf Try.f58))), .it (.inLoop (nav [1, 1, 0, 1, 0, 0] (bodyOf Try.f58))), .it (.inBlock 0), .it (.code (nav [1, 1, 1] (bodyOf Try.f58)))], [], Option.none⟩], [(0, (EK.cells 24 [(EV.v (Value.int IntKind.i64 (n))), (EV.lst (SyC.recs [(Sh.int IntKind.i64), (Sh.int IntKind.i64), Sh.str] (l)))] true)), (1, (EK.cells 102 [(EV.v (Value.int IntKind.i64 (a))), (EV.v (Value.int IntKind.i64 (b))), (EV.fn 65 [])] true)), (2, (EK.cells 24 [(EV.v (Value.int IntKind.i64 (0))), (EV.v (Value.slice Option.none 0 0))] true)), (3, EK.cells 24 [iv b, EV.slO 4 3 q.length nn] true), (4, EK.seq 81 (.recs shW q) nn)], 5⟩
theorem in_t (n a b : Int) (l : List (List U)) : RUN (st0 58 [.agg [iv n, wl l], .agg [iv a, iv b, .fn 65 []]]) = (.at (sP (n) (a) (b) (l) ((0 : Int)) ([]) (false))) := by kernel_rfl
theorem step_t (n a b : Int) (l : List (List U)) (i : Int) (q : List (List U)) (nn : Bool) : RUN (stOf (sP n a b l i q nn)) = (bc (decide (i < Int.ofNat (List.length l))) (bc (bc (bc (decide ((0 : Int) ≤ i)) (Nat.blt (Int.toNat i) (List.length l)) false) true false) (bc (bc (Nat.blt (Int.toNat i) (List.length l)) true false) (bc (bc (Nat.beq (List.length q) (List.length q)) (bc (Nat.ble (List.length q + List.length [[U.i (U.int (List.getD (List.getD l (Int.toNat i) []) (0 : Nat) (U.i (0 : Int)))), U.i (IntKind.wrap IntKind.i64 (IntKind.wrap IntKind.i64 (n - (2 : Int)) - U.int (List.getD (List.getD l (Int.toNat i) []) (Nat.succ (0 : Nat)) (U.i (0 : Int))))), U.s (chgW bFlip (U.str (List.getD (List.getD l (Int.toNat i) []) (Nat.succ (Nat.succ (0 : Nat))) (U.i (0 : Int)))))]]) (65536 : Nat)) (bc nn true (bc nn false true)) false) false) (.at (sP (n) (a) (b) (l) (IntKind.wrap IntKind.i64 (i + (1 : Int))) (q ++ [[U.i (U.int (List.getD (List.getD l (Int.toNat i) []) (0 : Nat) (U.i (0 : Int)))), U.i (IntKind.wrap IntKind.i64 (IntKind.wrap IntKind.i64 (n - (2 : Int)) - U.int (List.getD (List.getD l (Int.toNat i) []) (Nat.succ (0 : Nat)) (U.i (0 : Int))))), U.s (chgW bFlip (U.str (List.getD (List.getD l (Int.toNat i) []) (Nat.succ (Nat.succ (0 : Nat))) (U.i (0 : Int)))))]]) (bc nn true (Nat.blt (0 : Nat) (List.length [[U.i (U.int (List.getD (List.getD l (Int.toNat i) []) (0 : Nat) (U.i (0 : Int)))), U.i (IntKind.wrap IntKind.i64 (IntKind.wrap IntKind.i64 (n - (2 : Int)) - U.int (List.getD (List.getD l (Int.toNat i) []) (Nat.succ (0 : Nat)) (U.i (0 : Int))))), U.s (chgW bFlip (U.str (List.getD (List.getD l (Int.toNat i) []) (Nat.succ (Nat.succ (0 : Nat))) (U.i (0 : Int)))))]]))))) .bad) .bad) .bad) (bc (bc (Nat.beq (List.length q) (List.length q)) true false) (.done (EV.agg [(EV.v (Value.int IntKind.i64 (b))), (EV.lst (SyC.recs [(Sh.int IntKind.i64), (Sh.int IntKind.i64), Sh.str] (q)))]) [] 0) .bad)) := by kernel_rfl
theorem step {n a b : Int} {l : List (List U)} {i : Nat} {q : List (List U)} {nn : Bool} (hi : i < l.length) (hl : l.length ≤ 1000) (hq : q.length ≤ 1000) (ha : 0 ≤ rA l[i] ∧ rA l[i] ≤ 1000) (hk : -1000 ≤ n ∧ n ≤ 1000) : RUN (stOf (sP n a b l i q nn)) = .at (sP n a b l (i + 1 : Nat) (q ++ [flR bFlip n l[i]]) true) := by
  rw [step_t]
  have e : l.getD i [] = l[i] := getD_at hi
  simp (disch := omega) only [Nat.add_eq, eqSy_self, eqN_self, bc_same, List.length_cons, ofn, wrap_in, dt, df, bltD, bltN, ble_of, bleN, beqD, bc_t, bc_f, nn_ok, Nat.zero_add, to_nat, Int.zero_add, Int.sub_zero, Int.sub_self, Int.cast_ofNat_Int, Int.natCast_zero, Int.toNat_zero, List.take_zero, List.nil_append, List.length_append, List.length_nil, e, fK0, fK1, fA0, fA1, fA2, fW0, fW1, fW2]
  rfl
theorem last {n a b : Int} {l : List (List U)} {i : Nat} {q : List (List U)} {nn : Bool} (hi : l.length ≤ i) : RUN (stOf (sP n a b l i q nn)) = .done (.agg [iv b, wl q]) [] 0 := by
  rw [step_t]
  simp (disch := omega) only [Nat.add_eq, eqSy_self, eqN_self, bc_same, List.length_cons, ofn, wrap_in, dt, df, bltD, bltN, ble_of, bleN, beqD, bc_t, bc_f, nn_ok, Nat.zero_add, to_nat, Int.zero_add, Int.sub_zero, Int.sub_self, Int.cast_ofNat_Int, Int.natCast_zero, Int.toNat_zero, List.take_zero, List.nil_append, List.length_append, List.length_nil]
  rfl
theorem loop {n a b : Int} {l : List (List U)} (hl : l.length ≤ 1000) (ha : AtOk l) (hk : -1000 ≤ n ∧ n ≤ 1000) : ∀ (m i : Nat) (q : List (List U)) (nn : Bool), i + m = l.length → q.length ≤ i → EndZ 58 ctH false (stOf (sP n a b l i q nn)) (.agg [iv b, wl (q ++ flL bFlip n (l.drop i))]) [] 0
  | 0, i, q, nn, h, hq => by
    rw [List.drop_eq_nil_of_le (by omega)]
    show EndZ _ _ _ _ (.agg [iv b, wl (q ++ [])]) _ _
    rw [List.append_nil]
    exact .done (last (by omega))
  | m + 1, i, q, nn, h, hq => by
    have hi : i < l.length := by omega
    rw [List.drop_eq_getElem_cons hi]
    show EndZ _ _ _ _ (.agg [iv b, wl (q ++ (flR bFlip n l[i] :: flL bFlip n (l.drop (i + 1))))]) _ _
    rw [show q ++ (flR bFlip n l[i] :: flL bFlip n (l.drop (i + 1))) = (q ++ [flR bFlip n l[i]]) ++ flL bFlip n (l.drop (i + 1)) by simp]
    exact .at ctH_ok (step hi hl (by omega) (ha _ (List.getElem_mem hi)) hk) (loop hl ha hk m (i + 1) _ true (by omega) (by simp; omega))
theorem ends (n a b : Int) (l : List (List U)) (hc : l.length ≤ 1000 ∧ AtOk l ∧ -1000 ≤ n ∧ n ≤ 1000) : EndZ 58 ctH false (st0 58 [.agg [iv n, wl l], .agg [iv a, iv b, .fn 65 []]]) (.agg [iv b, wl (flL bFlip n l)]) [] 0 := .at ctH_ok (in_t n a b l) (by have := loop (n := n) (a := a) (b := b) hc.1 hc.2.1 hc.2.2 l.length 0 [] false (by omega) (by simp); rw [List.nil_append] at this; exact this)
end PChF
namespace PChM
noncomputable def RUN (s : ES) : ZF := RZ 58 ctH (atS 0 58 3) [] [[(2,none),(3,none),(4,none),(5,some (3, 81, .recs shW [])),(12,none),(13,none),(14,none)]] false s

noncomputable def sP (n a b : Int) (l : List (List U)) (i : Int) (q : List (List U)) (nn : Bool) : NS := ⟨[⟨58, 51, [(2, (EV.ptr 0 0)), (3, (EV.ptr 1 0)), (4, (EV.ptr 2 0)), (5, (EV.ptr 3 0)), (12, (EV.lst (SyC.recs [(Sh.int IntKind.i64), (Sh.int IntKind.i64), Sh.str] (l)))), (13, (EV.v (Value.int IntKind.i64 (Int.ofNat (List.length l))))), (14, iv i)], [.it (.code (nav [1, 1, 0, 1, 0, 0] (bodyOf Try.f58))), .it (.inLoop (nav [1, 1, 0, 1, 0, 0] (bodyOf Try.f58))), .it (.inBlock 0), .it (.code (nav [1, 1, 1] (bodyOf Try.f58)))], [], Option.none⟩], [(0, (EK.cells 24 [(EV.v (Value.int IntKind.i64 (n))), (EV.lst (SyC.recs [(Sh.int IntKind.i64), (Sh.int IntKind.i64), Sh.str] (l)))] true)), (1, (EK.cells 102 [(EV.v (Value.int IntKind.i64 (a))), (EV.v (Value.int IntKind.i64 (b))), (EV.fn 67 [])] true)), (2, (EK.cells 24 [(EV.v (Value.int IntKind.i64 (0))), (EV.v (Value.slice Option.none 0 0))] true)), (3, EK.cells 24 [iv b, EV.slO 4 3 q.length nn] true), (4, EK.seq 81 (.recs shW q) nn)], 5⟩
theorem in_t (n a b : Int) (l : List (List U)) : RUN (st0 58 [.agg [iv n, wl l], .agg [iv a, iv b, .fn 67 []]]) = (.at (sP (n) (a) (b) (l) ((0 : Int)) ([]) (false))) := by kernel_rfl
theorem step_t (n a b : Int) (l : List (List U)) (i : Int) (q : List (List U)) (nn : Bool) : RUN (stOf (sP n a b l i q nn)) = (bc (decide (i < Int.ofNat (List.length l))) (bc (bc (bc (decide ((0 : Int) ≤ i)) (Nat.blt (Int.toNat i) (List.length l)) false) true false) (bc (bc (Nat.blt (Int.toNat i) (List.length l)) true false) (bc (bc (Nat.beq (List.length q) (List.length q)) (bc (Nat.ble (List.length q + List.length [[U.i (U.int (List.getD (List.getD l (Int.toNat i) []) (0 : Nat) (U.i (0 : Int)))), U.i (IntKind.wrap IntKind.i64 (IntKind.wrap IntKind.i64 (n - (2 : Int)) - U.int (List.getD (List.getD l (Int.toNat i) []) (Nat.succ (0 : Nat)) (U.i (0 : Int))))), U.s (chgW bMir (U.str (List.getD (List.getD l (Int.toNat i) []) (Nat.succ (Nat.succ (0 : Nat))) (U.i (0 : Int)))))]]) (65536 : Nat)) (bc nn true (bc nn false true)) false) false) (.at (sP (n) (a) (b) (l) (IntKind.wrap IntKind.i64 (i + (1 : Int))) (q ++ [[U.i (U.int (List.getD (List.getD l (Int.toNat i) []) (0 : Nat) (U.i (0 : Int)))), U.i (IntKind.wrap IntKind.i64 (IntKind.wrap IntKind.i64 (n - (2 : Int)) - U.int (List.getD (List.getD l (Int.toNat i) []) (Nat.succ (0 : Nat)) (U.i (0 : Int))))), U.s (chgW bMir (U.str (List.getD (List.getD l (Int.toNat i) []) (Nat.succ (Nat.succ (0 : Nat))) (U.i (0 : Int)))))]]) (bc nn true (Nat.blt (0 : Nat) (List.length [[U.i (U.int (List.getD (List.getD l (Int.toNat i) []) (0 : Nat) (U.i (0 : Int)))), U.i (IntKind.wrap IntKind.i64 (IntKind.wrap IntKind.i64 (n - (2 : Int)) - U.int (List.getD (List.getD l (Int.toNat i) []) (Nat.succ (0 : Nat)) (U.i (0 : Int))))), U.s (chgW bMir (U.str (List.getD (List.getD l (Int.toNat i) []) (Nat.succ (Nat.succ (0 : Nat))) (U.i (0 : Int)))))]]))))) .bad) .bad) .bad) (bc (bc (Nat.beq (List.length q) (List.length q)) true false) (.done (EV.agg [(EV.v (Value.int IntKind.i64 (b))), (EV.lst (SyC.recs [(Sh.int IntKind.i64), (Sh.int IntKind.i64), Sh.str] (q)))]) [] 0) .bad)) := by kernel_rfl
theorem step {n a b : Int} {l : List (List U)} {i : Nat} {q : List (List U)} {nn : Bool} (hi : i < l.length) (hl : l.length ≤ 1000) (hq : q.length ≤ 1000) (ha : 0 ≤ rA l[i] ∧ rA l[i] ≤ 1000) (hk : -1000 ≤ n ∧ n ≤ 1000) : RUN (stOf (sP n a b l i q nn)) = .at (sP n a b l (i + 1 : Nat) (q ++ [flR bMir n l[i]]) true) := by
  rw [step_t]
  have e : l.getD i [] = l[i] := getD_at hi
  simp (disch := omega) only [Nat.add_eq, eqSy_self, eqN_self, bc_same, List.length_cons, ofn, wrap_in, dt, df, bltD, bltN, ble_of, bleN, beqD, bc_t, bc_f, nn_ok, Nat.zero_add, to_nat, Int.zero_add, Int.sub_zero, Int.sub_self, Int.cast_ofNat_Int, Int.natCast_zero, Int.toNat_zero, List.take_zero, List.nil_append, List.length_append, List.length_nil, e, fK0, fK1, fA0, fA1, fA2, fW0, fW1, fW2]
  rfl
theorem last {n a b : Int} {l : List (List U)} {i : Nat} {q : List (List U)} {nn : Bool} (hi : l.length ≤ i) : RUN (stOf (sP n a b l i q nn)) = .done (.agg [iv b, wl q]) [] 0 := by
  rw [step_t]
  simp (disch := omega) only [Nat.add_eq, eqSy_self, eqN_self, bc_same, List.length_cons, ofn, wrap_in, dt, df, bltD, bltN, ble_of, bleN, beqD, bc_t, bc_f, nn_ok, Nat.zero_add, to_nat, Int.zero_add, Int.sub_zero, Int.sub_self, Int.cast_ofNat_Int, Int.natCast_zero, Int.toNat_zero, List.take_zero, List.nil_append, List.length_append, List.length_nil]
  rfl
theorem loop {n a b : Int} {l : List (List U)} (hl : l.length ≤ 1000) (ha : AtOk l) (hk : -1000 ≤ n ∧ n ≤ 1000) : ∀ (m i : Nat) (q : List (List U)) (nn : Bool), i + m = l.length → q.length ≤ i → EndZ 58 ctH false (stOf (sP n a b l i q nn)) (.agg [iv b, wl (q ++ flL bMir n (l.drop i))]) [] 0
  | 0, i, q, nn, h, hq => by
    rw [List.drop_eq_nil_of_le (by omega)]
    show EndZ _ _ _ _ (.agg [iv b, wl (q ++ [])]) _ _
    rw [List.append_nil]
    exact .done (last (by omega))
  | m + 1, i, q, nn, h, hq => by
    have hi : i < l.length := by omega
    rw [List.drop_eq_getElem_cons hi]
    show EndZ _ _ _ _ (.agg [iv b, wl (q ++ (flR bMir n l[i] :: flL bMir n (l.drop (i + 1))))]) _ _
    rw [show q ++ (flR bMir n l[i] :: flL bMir n (l.drop (i + 1))) = (q ++ [flR bMir n l[i]]) ++ flL bMir n (l.drop (i + 1)) by simp]
    exact .at ctH_ok (step hi hl (by omega) (ha _ (List.getElem_mem hi)) hk) (loop hl ha hk m (i + 1) _ true (by omega) (by simp; omega))
theorem ends (n a b : Int) (l : List (List U)) (hc : l.length ≤ 1000 ∧ AtOk l ∧ -1000 ≤ n ∧ n ≤ 1000) : EndZ 58 ctH false (st0 58 [.agg [iv n, wl l], .agg [iv a, iv b, .fn 67 []]]) (.agg [iv b, wl (flL bMir n l)]) [] 0 := .at ctH_ok (in_t n a b l) (by have := loop (n := n) (a := a) (b := b) hc.1 hc.2.1 hc.2.2 l.length 0 [] false (by omega) (by simp); rw [List.nil_append] at this; exact this)
end PChM
noncomputable def spChF_0 : ZCT := fun ax => match ax with
  | [.agg [.v (.int .i64 n), .lst (.recs [.int .i64, .int .i64, .str] l)], .agg [.v (.int .i64 a), .v (.int .i64 b), .fn 65 []]] => some ⟨decide (l.length ≤ 1000 ∧ AtOk l ∧ -1000 ≤ n ∧ n ≤ 1000), .agg [iv b, wl (flL bFlip n l)], [], 0⟩
  | _ => none
theorem spChF_0_ok : ZCtOk Try.prog 58 spChF_0 := fun γ w us ax r hs hc hax hN hfz => by
  unfold spChF_0 at hs
  split at hs
  case h_2 => cases hs
  rename_i n l a b
  obtain ⟨rfl⟩ := Option.some.inj hs
  have hc_0 : decide (l.length ≤ 1000 ∧ AtOk l ∧ -1000 ≤ n ∧ n ≤ 1000) = true := hc
  have hc := of_decide_eq_true hc_0
  exact EndZ.calls (PChF.ends n a b l hc) ctH_ok (by kernel_rfl) hax hN hfz
noncomputable def spChF_1 : ZCT := fun ax => match ax with
  | [.agg [.v (.int .i64 n), .lst (.recs [.int .i64, .int .i64, .str] l)], .agg [.v (.int .i64 a), .v (.int .i64 b), .fn 67 []]] => some ⟨decide (l.length ≤ 1000 ∧ AtOk l ∧ -1000 ≤ n ∧ n ≤ 1000), .agg [iv b, wl (flL bMir n l)], [], 0⟩
  | _ => none
theorem spChF_1_ok : ZCtOk Try.prog 58 spChF_1 := fun γ w us ax r hs hc hax hN hfz => by
  unfold spChF_1 at hs
  split at hs
  case h_2 => cases hs
  rename_i n l a b
  obtain ⟨rfl⟩ := Option.some.inj hs
  have hc_0 : decide (l.length ≤ 1000 ∧ AtOk l ∧ -1000 ≤ n ∧ n ≤ 1000) = true := hc
  have hc := of_decide_eq_true hc_0
  exact EndZ.calls (PChM.ends n a b l hc) ctH_ok (by kernel_rfl) hax hN hfz
noncomputable def spChF : ZCT := ZCT.or spChF_0 (spChF_1)
theorem spChF_ok : ZCtOk Try.prog 58 spChF := spChF_0_ok.or (spChF_1_ok)
noncomputable def ctT : Tr ZCC := ctH.put 58 (some (dC spChF))
theorem ctT_ok : ZCtsOk Try.prog ctT := ctH_ok.add rfl spChF_ok
namespace PFlip
noncomputable def RUN (s : ES) : ZF := RZ 27 ctT (fun _ => false) [] [] false s
theorem in_t (n : Int) (l : List (List U)) : RUN (st0 27 [.agg [iv n, wl l]]) = (bc (chk4 n l != (0 : Int)) (.done (EV.tup [(EV.v (Value.agg (Array.mk [(Value.int IntKind.i64 (0)), (Value.slice Option.none 0 0)]))), (EV.v (Value.int IntKind.i64 (chk4 n l)))]) [] 0) (bc (decide (List.length l ≤ (1000 : Nat) ∧ AtOk l ∧ (-1000 : Int) ≤ n ∧ n ≤ (1000 : Int))) (.done (EV.tup [(EV.agg [(EV.v (Value.int IntKind.i64 (n))), (EV.lst (SyC.recs [(Sh.int IntKind.i64), (Sh.int IntKind.i64), Sh.str] (flL bFlip n l)))]), (EV.v (Value.int IntKind.i64 (0)))]) [] 0) .bad)) := by kernel_rfl
theorem ends (n : Int) (l : List (List U)) : EndZ 27 ctT false (st0 27 [.agg [iv n, wl l]]) (shE (turP n l) (turL bFlip n l) (chk4 n l)) [] 0 := by
  have h := in_t n l
  unfold turP turL
  cases h1 : (chk4 n l != 0) <;> rw [h1] at h
  · have e := ne0 h1
    have v := chk4_ok e
    have g1 := v.lo
    have g2 := v.hi
    have hq : l.length ≤ 1000 ∧ AtOk l ∧ -1000 ≤ n ∧ n ≤ 1000 := ⟨by have := v.len; omega, v.at, by omega, by omega⟩
    simp (disch := omega) only [Nat.add_eq, eqSy_self, eqN_self, bc_same, List.length_cons, ofn, wrap_in, dt, df, bltD, bltN, ble_of, bleN, beqD, bc_t, bc_f, nn_ok, Nat.zero_add, to_nat, Int.zero_add, Int.sub_zero, Int.sub_self, Int.cast_ofNat_Int, Int.natCast_zero, Int.toNat_zero, List.take_zero, List.nil_append, List.length_append, List.length_nil, dt hq] at h
    exact doneX h rfl rfl e.symm
  · exact doneY h rfl rfl rfl
end PFlip
noncomputable def spPFlip : ZCT := fun ax => match ax with
  | [.agg [.v (.int .i64 n), .lst (.recs [.int .i64, .int .i64, .str] l)]] => some ⟨decide (True), shE (turP n l) (turL bFlip n l) (chk4 n l), [], 0⟩
  | _ => none
theorem spPFlip_ok : ZCtOk Try.prog 27 spPFlip := fun γ w us ax r hs hc hax hN hfz => by
  unfold spPFlip at hs
  split at hs
  case h_2 => cases hs
  rename_i n l
  obtain ⟨rfl⟩ := Option.some.inj hs
  have hc_0 : decide (True) = true := hc
  have hc := of_decide_eq_true hc_0
  exact EndZ.calls (PFlip.ends n l) ctT_ok (by kernel_rfl) hax hN hfz
namespace PMir
end PMir
namespace PPla
noncomputable def RUN (s : ES) : ZF := RZ 31 ctJ1 (fun _ => false) [] [] false s
theorem in_t (n a b : Int) (l : List (List U)) : RUN (st0 31 [.agg [iv n, wl l], iv a, iv b]) = (bc (chk4 n l != (0 : Int)) (.done (EV.tup [(EV.v (Value.agg (Array.mk [(Value.int IntKind.i64 (0)), (Value.slice Option.none 0 0)]))), (EV.v (Value.int IntKind.i64 (chk4 n l)))]) [] 0) (bc (decide (b < (2 : Int))) (.done (EV.tup [(EV.v (Value.agg (Array.mk [(Value.int IntKind.i64 (0)), (Value.slice Option.none 0 0)]))), (EV.v (Value.int IntKind.i64 (7)))]) [] 0) (bc (decide ((24 : Int) < b)) (.done (EV.tup [(EV.v (Value.agg (Array.mk [(Value.int IntKind.i64 (0)), (Value.slice Option.none 0 0)]))), (EV.v (Value.int IntKind.i64 (7)))]) [] 0) (bc (decide (a < (0 : Int))) (.done (EV.tup [(EV.v (Value.agg (Array.mk [(Value.int IntKind.i64 (0)), (Value.slice Option.none 0 0)]))), (EV.v (Value.int IntKind.i64 (7)))]) [] 0) (bc (decide (IntKind.wrap IntKind.i64 (b - n) < a)) (.done (EV.tup [(EV.v (Value.agg (Array.mk [(Value.int IntKind.i64 (0)), (Value.slice Option.none 0 0)]))), (EV.v (Value.int IntKind.i64 (7)))]) [] 0) (bc (decide (List.length l ≤ (1000 : Nat) ∧ AtOk l ∧ (-1000 : Int) ≤ a ∧ a ≤ (1000 : Int))) (.done (EV.tup [(EV.agg [(EV.v (Value.int IntKind.i64 (b))), (EV.lst (SyC.recs [(Sh.int IntKind.i64), (Sh.int IntKind.i64), Sh.str] (shL a l)))]), (EV.v (Value.int IntKind.i64 (0)))]) [] 0) .bad)))))) := by kernel_rfl
theorem ends (n a b : Int) (l : List (List U)) : EndZ 31 ctJ1 false (st0 31 [.agg [iv n, wl l], iv a, iv b]) (shE (plaP n a b l) (plaL n a b l) (plaE n a b l)) [] 0 := by
  have h := in_t n a b l
  have he : plaE n a b l = bc (chk4 n l != 0) (chk4 n l) (bc (decide (b < 2)) 7 (bc (decide (24 < b)) 7 (bc (decide (a < 0)) 7 (bc (decide (b - n < a)) 7 0)))) := rfl
  cases h1 : (chk4 n l != 0) <;> rw [h1] at h he
  · have v := chk4_ok (ne0 h1)
    have g1 := v.lo
    have g2 := v.hi
    have g3 := v.len
    simp only [bc_f] at h he
    by_cases h2 : b < 2
    · simp only [dt h2, bc_t] at h he
      exact doneY h (plaV he rfl).1.symm (plaV he rfl).2.symm he.symm
    by_cases h3 : 24 < b
    · simp only [df h2, dt h3, bc_t, bc_f] at h he
      exact doneY h (plaV he rfl).1.symm (plaV he rfl).2.symm he.symm
    by_cases h4 : a < 0
    · simp only [df h2, df h3, dt h4, bc_t, bc_f] at h he
      exact doneY h (plaV he rfl).1.symm (plaV he rfl).2.symm he.symm
    by_cases h5 : b - n < a
    · simp (disch := omega) only [df h2, df h3, df h4, dt h5, bc_t, bc_f, wrap_in] at h he
      exact doneY h (plaV he rfl).1.symm (plaV he rfl).2.symm he.symm
    have hq : l.length ≤ 1000 ∧ AtOk l ∧ -1000 ≤ a ∧ a ≤ 1000 := ⟨by omega, v.at, by omega, by omega⟩
    simp (disch := omega) only [df h2, df h3, df h4, df h5, dt hq, bc_t, bc_f, wrap_in] at h he
    exact doneX h (plaV0 he).1.symm (plaV0 he).2.symm he.symm
  · simp only [bc_t] at h he
    exact doneY h (plaV he h1).1.symm (plaV he h1).2.symm he.symm
end PPla
noncomputable def spPPla : ZCT := fun ax => match ax with
  | [.agg [.v (.int .i64 n), .lst (.recs [.int .i64, .int .i64, .str] l)], .v (.int .i64 a), .v (.int .i64 b)] => some ⟨decide (True), shE (plaP n a b l) (plaL n a b l) (plaE n a b l), [], 0⟩
  | _ => none
theorem spPPla_ok : ZCtOk Try.prog 31 spPPla := fun γ w us ax r hs hc hax hN hfz => by
  unfold spPPla at hs
  split at hs
  case h_2 => cases hs
  rename_i n l a b
  obtain ⟨rfl⟩ := Option.some.inj hs
  have hc_0 : decide (True) = true := hc
  have hc := of_decide_eq_true hc_0
  exact EndZ.calls (PPla.ends n a b l) ctJ1_ok (by kernel_rfl) hax hN hfz
end Go.Proofs.Ytkbebiebaenbdaa.Ev
namespace Go.Proofs.Ytkbebiebaenbdaa.Ev
open Go.Proofs
theorem ValS.app {n : Int} {l k : List (List U)} (h : ValS n l) (g : ValS n k) (hl : l.length + k.length ≤ 400) : ValS n (l ++ k) :=
  ⟨h.lo, h.hi, by rw [List.length_append]; exact hl, fun r hr => by
    rcases List.mem_append.1 hr with e | e
    · exact h.val r e
    · exact g.val r e⟩
theorem ValS.bes {n m : Int} {l k : List (List U)} (h : ValS n l) (g : ValS m k) (h24 : n + m ≤ 24) (hl : l.length + k.length ≤ 400) : ValS (n + m) (l ++ shL n k) :=
  ⟨by have := h.lo; have := g.lo; omega, h24, by rw [List.length_append, shL_len]; exact hl, fun r hr => by
    have := h.lo
    have := g.lo
    rcases List.mem_append.1 hr with e | e
    · exact (h.val r e).mono (by omega)
    · unfold shL at e
      obtain ⟨x, hx, rfl⟩ := List.mem_map.1 e
      exact (g.val x hx).sh (by omega) (by omega)⟩

end Go.Proofs.Ytkbebiebaenbdaa.Ev
namespace Go.Proofs.Ytkbebiebaenbdaa.Ev
open Go.Proofs
noncomputable def spMul : ZCT := fun ax => match ax with
  | [.v (.int .u64 a), .v (.int .u64 b)] => some ⟨decide (0 ≤ a ∧ a ≤ 65536 ∧ 0 ≤ b ∧ b ≤ 65536), .tup [.v (.int .u64 0), .v (.int .u64 (a * b))], [], 0⟩
  | _ => none
theorem spMul_ok : ZCtOk Try.prog 79 spMul := fun γ w us ax r hs hc hax hN hfz => by
  unfold spMul at hs
  split at hs
  case h_2 => cases hs
  rename_i a b
  obtain ⟨rfl⟩ := Option.some.inj hs
  obtain ⟨h1, h2, h3, h4⟩ := of_decide_eq_true (show decide (0 ≤ a ∧ a ≤ 65536 ∧ 0 ≤ b ∧ b ≤ 65536) = true from hc)
  obtain ⟨x, r1, e1, hx, hc1⟩ := ECL.inv hax
  obtain ⟨y, r2, e2, hy, hc2⟩ := ECL.inv hc1
  have e3 : r2 = [] := by apply List.eq_nil_of_length_eq_zero; have := hc2.1; simpa using this.symm
  have hx := ec_v hx
  have hy := ec_v hy
  subst hx; subst hy; subst e3; subst e2
  obtain ⟨a, rfl⟩ := Int.eq_ofNat_of_zero_le h1
  obtain ⟨b, rfl⟩ := Int.eq_ofNat_of_zero_le h3
  have eu : us = #[.int .u64 (a : Int), .int .u64 (b : Int)] := by apply Array.ext'; simpa using e1
  rw [eu]
  have hm : a * b ≤ 65536 * 65536 := Nat.mul_le_mul (by omega) (by omega)
  refine (Try.bits_Mul a b (by omega) (by omega) w).mono ?_
  rintro e w' ⟨rfl, rfl⟩
  rw [Nat.div_eq_of_lt (by omega), Nat.mod_eq_of_lt (by omega), Int.natCast_mul]
  exact ⟨γ, _, rfl, .tup _ [.int .u64 0, .int .u64 ((a : Int) * b)] rfl (ECL.cons (.v _) (.cons (.v _) (.nil _))).2, HR.start hN hfz⟩
noncomputable def ctR : Tr ZCC := Tr.nil.put 79 (some (dC spMul))
theorem ctR_ok : ZCtsOk Try.prog ctR := (ZCtsOk.nil _).add rfl spMul_ok
theorem repL_add (l : List (List U)) : ∀ a b, repL l (a + b) = repL l a ++ repL l b
  | 0, b => by rw [Nat.zero_add]; rfl
  | a + 1, b => by rw [Nat.succ_add]; show l ++ repL l (a + b) = (l ++ repL l a) ++ repL l b; rw [repL_add l a b, List.append_assoc]
theorem repL_pre (l : List (List U)) (a b : Nat) (h : a ≤ b) (k : Nat) (hk : k ≤ a * l.length) : (repL l b).take k = (repL l a).take k := by
  obtain ⟨d, rfl⟩ := Nat.exists_eq_add_of_le h
  rw [repL_add, List.take_append_of_le_length (by rw [repL_len]; exact hk)]
theorem repL_same (l : List (List U)) (a b k : Nat) (h1 : k ≤ a * l.length) (h2 : k ≤ b * l.length) : (repL l b).take k = (repL l a).take k := by
  rcases Nat.le_total a b with h | h
  · exact repL_pre l a b h k h1
  · exact (repL_pre l b a h k h2).symm
namespace PRep
noncomputable def RUN (s : ES) : ZF := RZ 76 ctR (atS 0 76 8) [] [[(7,none),(8,none)]] false s

noncomputable def sR (tot : Nat) (i : Int) (q : List (List U)) : NS := ⟨[⟨76, 48, [(7, EV.sl 0 3 0 tot none), (8, iv i)], [.it (.code (nav [1, 1, 1, 1, 1, 1, 0, 0, 0, 0] (bodyOf Try.f76))), .it (.code (nav [1, 1, 1, 1, 1, 1, 0, 0, 0, 1] (bodyOf Try.f76))), .it (.inLoop (nav [1, 1, 1, 1, 1, 1, 0, 0, 0] (bodyOf Try.f76))), .it (.inBlock 0), .it (.code (nav [1, 1, 1, 1, 1, 1, 1] (bodyOf Try.f76)))], [], Option.none⟩], [(0, EK.seq 81 (.recs shW q) true)], 1⟩
theorem step_t (tot : Nat) (i : Int) (q : List (List U)) : RUN (stOf (sR tot i q)) = (bc (decide (i < Int.ofNat tot)) (bc (bc (bc (bc (bc (bc (decide ((0 : Int) ≤ i)) (bc (decide (i ≤ Int.ofNat tot)) (decide (Int.ofNat tot ≤ Int.ofNat tot)) false) false) (decide (i < Int.ofNat tot)) false) true false) (bc (bc (bc (bc (decide ((0 : Int) ≤ i)) (decide (i ≤ Int.ofNat tot)) false) (decide ((0 : Int) < Int.ofNat tot)) false) true false) (bc (bc (Nat.ble (((0 : Nat) + Int.toNat (0 : Int) * (3 : Nat)) / (3 : Nat) + (Int.toNat i - Int.toNat (0 : Int))) (List.length q)) (bc (Nat.beq (((0 : Nat) + Int.toNat i * (3 : Nat)) / (3 : Nat) * (3 : Nat)) ((0 : Nat) + Int.toNat i * (3 : Nat))) (Nat.ble (((0 : Nat) + Int.toNat i * (3 : Nat)) / (3 : Nat) + Min.min (Int.toNat i - Int.toNat (0 : Int)) (Int.toNat (Int.ofNat tot) - Int.toNat i)) (List.length q)) false) false) true false) false) false) true false) (.at (sR (tot) (IntKind.wrap IntKind.i64 (i + Int.ofNat (Min.min (Int.toNat i - Int.toNat (0 : Int)) (Int.toNat (Int.ofNat tot) - Int.toNat i)))) (List.take (((0 : Nat) + Int.toNat i * (3 : Nat)) / (3 : Nat)) q ++ List.take (Min.min (Int.toNat i - Int.toNat (0 : Int)) (Int.toNat (Int.ofNat tot) - Int.toNat i)) (List.take (Int.toNat i - Int.toNat (0 : Int)) (List.drop (((0 : Nat) + Int.toNat (0 : Int) * (3 : Nat)) / (3 : Nat)) q)) ++ List.drop (((0 : Nat) + Int.toNat i * (3 : Nat)) / (3 : Nat) + Min.min (Int.toNat i - Int.toNat (0 : Int)) (Int.toNat (Int.ofNat tot) - Int.toNat i)) q))) .bad) (bc (Nat.beq tot (List.length q)) (.done (EV.lst (SyC.recs [(Sh.int IntKind.i64), (Sh.int IntKind.i64), Sh.str] (q))) [] 0) .bad)) := by kernel_rfl
theorem in_t (l : List (List U)) (t : Int) : RUN (st0 76 [wl l, iv t]) = (bc (decide (t < (0 : Int))) .bad (bc (bc (decide ((0 : Int) ≤ IntKind.wrap IntKind.u64 (Int.ofNat (List.length l)) ∧ IntKind.wrap IntKind.u64 (Int.ofNat (List.length l)) ≤ (65536 : Int) ∧ (0 : Int) ≤ IntKind.wrap IntKind.u64 t ∧ IntKind.wrap IntKind.u64 t ≤ (65536 : Int))) true false) (bc (decide ((9223372036854775807 : Int) < IntKind.wrap IntKind.u64 (Int.ofNat (List.length l)) * IntKind.wrap IntKind.u64 t)) .bad (bc (bc (decide ((0 : Int) ≤ IntKind.wrap IntKind.i64 (IntKind.wrap IntKind.u64 (Int.ofNat (List.length l)) * IntKind.wrap IntKind.u64 t))) (bc (decide (IntKind.wrap IntKind.i64 (IntKind.wrap IntKind.u64 (Int.ofNat (List.length l)) * IntKind.wrap IntKind.u64 t) = IntKind.wrap IntKind.i64 (IntKind.wrap IntKind.u64 (Int.ofNat (List.length l)) * IntKind.wrap IntKind.u64 t))) (decide (IntKind.wrap IntKind.i64 (IntKind.wrap IntKind.u64 (Int.ofNat (List.length l)) * IntKind.wrap IntKind.u64 t) ≤ (65536 : Int))) false) false) (bc (Nat.ble ((0 / 3 : Nat) + Min.min (List.length l) (Int.toNat (IntKind.wrap IntKind.i64 (IntKind.wrap IntKind.u64 (Int.ofNat (List.length l)) * IntKind.wrap IntKind.u64 t)))) (List.length (List.replicate (Int.toNat (IntKind.wrap IntKind.i64 (IntKind.wrap IntKind.u64 (Int.ofNat (List.length l)) * IntKind.wrap IntKind.u64 t))) [U.i (0 : Int), U.i (0 : Int), U.s { data := #[] }]))) (.at (sR (Int.toNat (IntKind.wrap IntKind.i64 (IntKind.wrap IntKind.u64 (Int.ofNat (List.length l)) * IntKind.wrap IntKind.u64 t))) (Int.ofNat (Min.min (List.length l) (Int.toNat (IntKind.wrap IntKind.i64 (IntKind.wrap IntKind.u64 (Int.ofNat (List.length l)) * IntKind.wrap IntKind.u64 t))))) (List.take (0 / 3 : Nat) (List.replicate (Int.toNat (IntKind.wrap IntKind.i64 (IntKind.wrap IntKind.u64 (Int.ofNat (List.length l)) * IntKind.wrap IntKind.u64 t))) [U.i (0 : Int), U.i (0 : Int), U.s { data := #[] }]) ++ List.take (Min.min (List.length l) (Int.toNat (IntKind.wrap IntKind.i64 (IntKind.wrap IntKind.u64 (Int.ofNat (List.length l)) * IntKind.wrap IntKind.u64 t)))) l ++ List.drop ((0 / 3 : Nat) + Min.min (List.length l) (Int.toNat (IntKind.wrap IntKind.i64 (IntKind.wrap IntKind.u64 (Int.ofNat (List.length l)) * IntKind.wrap IntKind.u64 t)))) (List.replicate (Int.toNat (IntKind.wrap IntKind.i64 (IntKind.wrap IntKind.u64 (Int.ofNat (List.length l)) * IntKind.wrap IntKind.u64 t))) [U.i (0 : Int), U.i (0 : Int), U.s { data := #[] }])))) .bad) .bad)) .bad)) := by kernel_rfl
theorem step {tot i : Nat} {q : List (List U)} (hi : i < tot) (h0 : 0 < i) (ht : tot ≤ 65536) (hq : q.length = tot) : RUN (stOf (sR tot i q)) = .at (sR tot (i + min i (tot - i) : Nat) (q.take i ++ (q.take i).take (min i (tot - i)) ++ q.drop (i + min i (tot - i)))) := by
  rw [step_t]
  have e1 : (0 + Int.toNat (i : Int) * 3) = i * 3 := by omega
  have e2 : (0 + Int.toNat 0 * 3) / 3 = 0 := rfl
  have e3 : Int.toNat (i : Int) - Int.toNat 0 = i := by omega
  have e4 : Int.toNat (Int.ofNat tot) - Int.toNat (i : Int) = tot - i := by show tot - i = tot - i; rfl
  have e5 : i * 3 / 3 = i := by omega
  have e6 : Int.toNat (i : Int) = i := rfl
  simp only [e1, e2, e3, e4, e5]
  simp (disch := omega) only [Nat.add_eq, eqSy_self, eqN_self, bc_same, List.length_cons, ofn, wrap_in, dt, df, bltD, bltN, ble_of, bleN, beqD, bc_t, bc_f, nn_ok, Nat.zero_add, to_nat, Int.zero_add, Int.sub_zero, Int.sub_self, Int.cast_ofNat_Int, Int.natCast_zero, Int.toNat_zero, List.take_zero, List.nil_append, List.length_append, List.length_nil, List.drop_zero, hq]
  rfl
theorem last {tot i : Nat} {q : List (List U)} (hi : tot ≤ i) (hq : q.length = tot) : RUN (stOf (sR tot i q)) = .done (wl q) [] 0 := by
  rw [step_t]
  subst hq
  simp (disch := omega) only [Nat.add_eq, eqSy_self, eqN_self, bc_same, List.length_cons, ofn, wrap_in, dt, df, bltD, bltN, ble_of, bleN, beqD, bc_t, bc_f, nn_ok, Nat.zero_add, to_nat, Int.zero_add, Int.sub_zero, Int.sub_self, Int.cast_ofNat_Int, Int.natCast_zero, Int.toNat_zero, List.take_zero, List.nil_append, List.length_append, List.length_nil]
  rfl
theorem loop {l : List (List U)} {t tot : Nat} (ht : tot = t * l.length) (hs : tot ≤ 65536) : ∀ (d i : Nat) (q : List (List U)), tot - i ≤ d → i ≤ tot → (i = tot ∨ ∃ a, i = a * l.length ∧ 0 < i) → q.length = tot → q.take i = (repL l t).take i → EndZ 76 ctR false (stOf (sR tot i q)) (wl (repL l t)) [] 0 := by
  have fin : ∀ (q : List (List U)), q.length = tot → q.take tot = (repL l t).take tot → EndZ 76 ctR false (stOf (sR tot tot q)) (wl (repL l t)) [] 0 := fun q hq he => by
    rw [List.take_of_length_le (by omega), List.take_of_length_le (by rw [repL_len]; omega)] at he
    rw [← he]
    exact .done (last (Nat.le_refl _) hq)
  intro d
  induction d with
  | zero =>
    intro i q hd hi _ hq he
    have : i = tot := by omega
    subst this
    exact fin q hq he
  | succ d ih =>
    intro i q hd hi ha hq he
    rcases ha with rfl | ⟨a, hia, h0⟩
    · exact fin q hq he
    by_cases hlt : i < tot
    · refine .at ctR_ok (step hlt h0 hs hq) (ih _ _ (by omega) (by omega) ?_ ?_ ?_)
      · by_cases hc : i ≤ tot - i
        · right; exact ⟨a + a, by rw [Nat.min_eq_left hc, Nat.add_mul]; omega, by omega⟩
        · left; rw [Nat.min_eq_right (by omega)]; omega
      · simp only [List.length_append, List.length_take, List.length_drop, hq]; omega
      · have hat : a ≤ t := by
          rcases Nat.lt_or_ge t a with h | h
          · have := Nat.mul_le_mul_right l.length (Nat.le_of_lt h); omega
          · exact h
        have hsub : (t - a) * l.length = tot - i := by rw [Nat.sub_mul]; omega
        have hP : repL l t = repL l a ++ repL l (t - a) := by rw [← repL_add]; congr 1; omega
        have hlen : (q.take i ++ (q.take i).take (min i (tot - i))).length = i + min i (tot - i) := by
          simp only [List.length_append, List.length_take, hq]; omega
        rw [List.take_left' hlen, he, hP]
        have hla : (repL l a).length = i := by rw [repL_len]; exact hia.symm
        have h9 : (repL l a).take (i + min i (tot - i)) = repL l a := List.take_of_length_le (by omega)
        have h10 : i + min i (tot - i) - i = min i (tot - i) := by omega
        rw [List.take_left' hla, List.take_append, hla, h9, h10]
        congr 1
        symm
        exact repL_same _ _ _ _ (by rw [← hia]; omega) (by rw [hsub]; omega)
    · have : i = tot := by omega
      subst this
      exact fin q hq he
theorem ends (l : List (List U)) (k : Nat) (hk : k ≤ 400) (hl : l.length ≤ 400) (hm : k * l.length ≤ 65536) : EndZ 76 ctR false (st0 76 [wl l, iv k]) (wl (repL l k)) [] 0 := by
  have h := in_t l k
  have wu : ∀ n : Nat, n ≤ 65536 → IntKind.wrap IntKind.u64 (n : Int) = n := fun n hn => by rw [IntKind.wrap_u64]; omega
  have w1 : IntKind.wrap IntKind.u64 (Int.ofNat l.length) = (l.length : Int) := wu _ (by omega)
  have w2 : IntKind.wrap IntKind.u64 (k : Int) = (k : Int) := wu _ (by omega)
  have w3 : (l.length : Int) * (k : Int) = ((k * l.length : Nat) : Int) := by rw [Int.natCast_mul, Int.mul_comm]
  have w4 : IntKind.wrap IntKind.i64 ((k * l.length : Nat) : Int) = ((k * l.length : Nat) : Int) := by simp (disch := omega) only [wrap_in]
  simp only [w1, w2, w3, w4] at h
  generalize htot : k * l.length = tot at *
  have d1 : ¬ (k : Int) < 0 := by omega
  have d2 : (0 : Int) ≤ (l.length : Int) ∧ (l.length : Int) ≤ 65536 ∧ (0 : Int) ≤ (k : Int) ∧ (k : Int) ≤ 65536 := by omega
  have d3 : ¬ (9223372036854775807 : Int) < (tot : Int) := by omega
  have d4 : (0 : Int) ≤ (tot : Int) := by omega
  have d5 : (tot : Int) ≤ 65536 := by omega
  have z3 : (0 / 3 : Nat) = 0 := rfl
  have t1 : Int.toNat (tot : Int) = tot := rfl
  simp only [df d1, dt d2, df d3, dt d4, dt d5, bc_t, bc_f, decide_true, z3, t1, Nat.zero_add, List.length_replicate, List.take_zero, List.nil_append] at h
  rw [ble_of (by omega), bc_t] at h
  refine .at ctR_ok h (loop htot.symm hm tot (min l.length tot) _ (by omega) (by omega) ?_ ?_ ?_)
  · rcases Nat.eq_zero_or_pos k with rfl | hk0
    · left; omega
    · rcases Nat.eq_zero_or_pos l.length with h0 | h0
      · left; rw [← htot, h0]; omega
      · have : 1 * l.length ≤ k * l.length := Nat.mul_le_mul_right _ hk0
        right; exact ⟨1, by omega, by omega⟩
  · simp only [List.length_append, List.length_take, List.length_drop, List.length_replicate]; omega
  · rw [List.take_left' (by rw [List.length_take]; omega)]
    rcases Nat.eq_zero_or_pos k with rfl | hk0
    · have : tot = 0 := by omega
      subst this; simp
    · have e := repL_pre l 1 k hk0 (min l.length tot) (by omega)
      rw [e, show repL l 1 = l from List.append_nil l]
end PRep
noncomputable def spRep : ZCT := fun ax => match ax with
  | [.lst (.recs [.int .i64, .int .i64, .str] l), .v (.int .i64 k)] => some ⟨decide (0 ≤ k ∧ k ≤ 400 ∧ l.length ≤ 400 ∧ k * (l.length : Int) ≤ 65536), .lst (.recs [.int .i64, .int .i64, .str] (repL l k.toNat)), [], 0⟩
  | _ => none
theorem spRep_ok : ZCtOk Try.prog 76 spRep := fun γ w us ax r hs hc hax hN hfz => by
  unfold spRep at hs
  split at hs
  case h_2 => cases hs
  rename_i l k
  obtain ⟨rfl⟩ := Option.some.inj hs
  have hc_0 : decide (0 ≤ k ∧ k ≤ 400 ∧ l.length ≤ 400 ∧ k * (l.length : Int) ≤ 65536) = true := hc
  have hc := of_decide_eq_true hc_0
  exact EndZ.calls (by obtain ⟨k, rfl⟩ := Int.eq_ofNat_of_zero_le hc.1; exact PRep.ends l k (by omega) hc.2.2.1 (by have h9 := hc.2.2.2; rw [← Int.natCast_mul] at h9; omega)) ctR_ok (by kernel_rfl) hax hN hfz
noncomputable def ctJ2 : Tr ZCC := ctJ1.put 76 (some (dC spRep))
theorem ctJ2_ok : ZCtsOk Try.prog ctJ2 := ctJ1_ok.add rfl spRep_ok
namespace PTim
noncomputable def RUN (s : ES) : ZF := RZ 40 ctJ2 (fun _ => false) [] [] false s
theorem in_t (n t : Int) (l : List (List U)) : RUN (st0 40 [.agg [iv n, wl l], iv t]) = (bc (chk4 n l != (0 : Int)) (.done (EV.tup [(EV.v (Value.agg (Array.mk [(Value.int IntKind.i64 (0)), (Value.slice Option.none 0 0)]))), (EV.v (Value.int IntKind.i64 (chk4 n l)))]) [] 0) (bc (decide (t < (0 : Int))) (.done (EV.tup [(EV.v (Value.agg (Array.mk [(Value.int IntKind.i64 (0)), (Value.slice Option.none 0 0)]))), (EV.v (Value.int IntKind.i64 (7)))]) [] 0) (bc (decide ((400 : Int) < t)) (.done (EV.tup [(EV.v (Value.agg (Array.mk [(Value.int IntKind.i64 (0)), (Value.slice Option.none 0 0)]))), (EV.v (Value.int IntKind.i64 (7)))]) [] 0) (bc (decide ((400 : Int) < IntKind.wrap IntKind.i64 (t * Int.ofNat (List.length l)))) (.done (EV.tup [(EV.v (Value.agg (Array.mk [(Value.int IntKind.i64 (0)), (Value.slice Option.none 0 0)]))), (EV.v (Value.int IntKind.i64 (3)))]) [] 0) (bc (bc (bc (decide ((0 : Int) ≤ t ∧ t ≤ (400 : Int) ∧ List.length l ≤ (400 : Nat) ∧ t * (Nat.cast (List.length l) : Int) ≤ (65536 : Int))) true false) (bc (bc (bc (decide (n = n)) true false) true false) true false) false) (.done (EV.tup [(EV.agg [(EV.v (Value.int IntKind.i64 (n))), (EV.lst (SyC.recs [(Sh.int IntKind.i64), (Sh.int IntKind.i64), Sh.str] (repL l (Int.toNat t))))]), (EV.v (Value.int IntKind.i64 (0)))]) [] 0) .bad))))) := by kernel_rfl
theorem ends (n t : Int) (l : List (List U)) : EndZ 40 ctJ2 false (st0 40 [.agg [iv n, wl l], iv t]) (shE (timP n t l) (timL n t l) (timE n t l)) [] 0 := by
  have h := in_t n t l
  have he : timE n t l = bc (chk4 n l != 0) (chk4 n l) (bc (decide (t < 0)) 7 (bc (decide (400 < t)) 7 (bc (decide (400 < t * (l.length : Int))) 3 0))) := rfl
  cases h1 : (chk4 n l != 0) <;> rw [h1] at h he
  · have v := chk4_ok (ne0 h1)
    have g3 := v.len
    simp only [bc_f] at h he
    by_cases h2 : t < 0
    · simp only [dt h2, bc_t] at h he
      exact doneY h (timV he rfl).1.symm (timV he rfl).2.symm he.symm
    by_cases h3 : 400 < t
    · simp only [df h2, dt h3, bc_t, bc_f] at h he
      exact doneY h (timV he rfl).1.symm (timV he rfl).2.symm he.symm
    have b1 : 0 ≤ t * (l.length : Int) := Int.mul_nonneg (by omega) (by omega)
    have b2 : t * (l.length : Int) ≤ 400 * 400 := Int.mul_le_mul (by omega) (by omega) (by omega) (by omega)
    by_cases h4 : 400 < t * (l.length : Int)
    · simp (disch := omega) only [df h2, df h3, dt h4, bc_t, bc_f, ofn, wrap_in] at h he
      exact doneY h (timV he rfl).1.symm (timV he rfl).2.symm he.symm
    have hq : 0 ≤ t ∧ t ≤ 400 ∧ l.length ≤ 400 ∧ t * (l.length : Int) ≤ 65536 := ⟨by omega, by omega, g3, by omega⟩
    simp (disch := omega) only [df h2, df h3, df h4, dt hq, bc_t, bc_f, ofn, wrap_in, decide_true] at h he
    exact doneX h (timV0 he).1.symm (timV0 he).2.symm he.symm
  · simp only [bc_t] at h he
    exact doneY h (timV he h1).1.symm (timV he h1).2.symm he.symm
end PTim
noncomputable def spPTim : ZCT := fun ax => match ax with
  | [.agg [.v (.int .i64 n), .lst (.recs [.int .i64, .int .i64, .str] l)], .v (.int .i64 t)] => some ⟨decide (True), shE (timP n t l) (timL n t l) (timE n t l), [], 0⟩
  | _ => none
theorem spPTim_ok : ZCtOk Try.prog 40 spPTim := fun γ w us ax r hs hc hax hN hfz => by
  unfold spPTim at hs
  split at hs
  case h_2 => cases hs
  rename_i n l t
  obtain ⟨rfl⟩ := Option.some.inj hs
  have hc_0 : decide (True) = true := hc
  have hc := of_decide_eq_true hc_0
  exact EndZ.calls (PTim.ends n t l) ctJ2_ok (by kernel_rfl) hax hN hfz
end Go.Proofs.Ytkbebiebaenbdaa.Ev
namespace Go.Proofs.Ytkbebiebaenbdaa.Ev
open Go.Proofs
theorem awake_run : endsB (exClosed Try.prog ft (drD Try.prog ft 16 4) 22 18) = true := by kernel_rfl
theorem awakeC (w : World) : Calls Try.prog 22 #[] w fun e w' => e = .returned (.bool true) ∧ Stays w w' := closedTrue ftOk (drD_ok mix ftOk 16 4) awake_run w
theorem spAwake_ok : ZCtOk Try.prog 22 spTrue := spTrue_ok awakeC
end Go.Proofs.Ytkbebiebaenbdaa.Ev
namespace Go.Proofs.Ytkbebiebaenbdaa
open Go.ChangeShapes Go.WideShapes Go.ChangeAt Go.RowKit

theorem kept_of_stays {W W' : World} (h : Ev.Stays W W') (may : MemPlace → Prop) : W.keptBut W' may := by
  refine ⟨h.os, h.output, fun i hi => ?_⟩
  have e := h.block i hi
  rw [e]
  cases hb : W.heap[i]? with
  | none => simp
  | some o =>
    cases o <;> first | exact ⟨rfl, rfl, rfl, fun _ _ => rfl⟩ | exact .inr ⟨rfl, rfl⟩ | rfl
theorem frozen_of_stays {W W' : World} (h : Ev.Stays W W') (a : Addr) (ha : a.block < W.heap.size) : W'.frozen? a = W.frozen? a := by
  unfold World.frozen?
  rw [h.block _ ha]
section
variable {H : Type} {enc : TypeId × Value → H} {P : Program}

theorem post_of_stays {f : Func} {s : ChangeSpec} {apart fresh handsOn again : Bool} {W W' : World} {args : Array Value} {v : Value} {ds gs : List (DataW H)} {before pa pv : List MemPlace}
    (hW : DataW.Whole enc P f.params.toList s.vars apart W args.toList ds gs before)
    (hres : ∀ (b : Nat) (sp : Nat → Bool) (hd : Bool), DataW.TrodAll enc P W' b sp hd f.resultTypes.toList (v.resultList f.resultTypes.size) (s.fn H (ds ++ gs)).results [])
    (hargs : ∀ sp : Nat → Bool, (∀ p ∈ before, sp p.block = true) → DataW.TrodAll enc P W' 0 sp true f.params.toList args.toList (s.fn H (ds ++ gs)).args pa)
    (hvars : ∀ sp : Nat → Bool, (∀ p ∈ before, sp p.block = true) → DataW.TrodVars enc P W' sp s.vars (s.fn H (ds ++ gs)).vars pv)
    (hps : before = pa ++ pv) (hst : Ev.Stays W W')
    (hok : ∀ (j : Nat) (t : TypeId) (r : Value), f.resultTypes[j]? = some t → (v.resultList f.resultTypes.size)[j]? = some r → Value.okWide P W' .any 0 t r) :
    s.post enc P f apart fresh handsOn again W args v W' := by
  have hk : W.keptBut W' (· ∈ before) := kept_of_stays hst _
  have hold : ∀ p ∈ before, (fun b => decide (b < W.heap.size)) p.block = true := fun p hp => by simpa using hW.lt p hp
  have hlt := fun p hp => hW.lt p hp
  refine ⟨ds, gs, before, [], pa, pv, hW, hres _ _ _, hargs _ hold, hvars _ hold, World.keptBut_mono (fun p hp => ⟨hp, ?_⟩) hk, fun _ => ?_⟩
  · rw [hps, List.mem_append] at hp
    exact Or.inr hp
  · obtain ⟨_, _, _, _, _, hz, hn⟩ := hW
    refine ⟨hok, _, _, ([] ++ pa) ++ pv, ⟨[] ++ pa, pv, trodAll_append (hargs _ (fun _ _ => rfl)) (hres _ _ _), hvars _ (fun _ _ => rfl), rfl, ?_, ?_⟩, ?_⟩
    · intro b off hp
      have hp2 : MemPlace.cell b off ∈ before := by rw [hps]; simpa using hp
      rw [frozen_of_stays hst _ (hlt _ hp2)]
      exact hz b off hp2
    · intro ha
      have := hn ha
      rw [hps] at this
      simpa using this
    · intro p hp _
      rw [hps]
      simpa using hp
end
end Go.Proofs.Ytkbebiebaenbdaa
namespace Go.Proofs.Ytkbebiebaenbdaa
open Go.ChangeShapes Go.WideShapes Go.ChangeAt Go.RowKit
section
variable {H : Type} {enc : TypeId × Value → H} {P : Program}
theorem same_of_stays {W W' : World} (h : Ev.Stays W W') {p : MemPlace} (hp : p.block < W.heap.size) : W.sameAt W' p := by
  cases p with
  | cell b off =>
    show W'.cell? _ = W.cell? _
    unfold World.cell?
    rw [h.block b hp]
  | map b => exact h.block b hp
theorem args_carry {W W' : World} {base : Nat} {sp : Nat → Bool} {hd : Bool} : ∀ {ts : List TypeId} {vs : List Value} {ds : List (DataW H)} {ps : List MemPlace}, DataW.TrodAll enc P W base sp hd ts vs ds ps → (∀ p ∈ ps, W.sameAt W' p) → DataW.TrodAll enc P W' base sp hd ts vs ds ps
  | [], [], [], _, h, _ => h
  | _ :: _, _ :: _, _ :: _, _, ⟨p, q, ⟨n, h⟩, hs, e⟩, k => ⟨p, q, ⟨n, DataW.trod_carry n _ _ _ h fun x hx => k x (by rw [e]; exact List.mem_append_left _ hx)⟩, args_carry hs fun x hx => k x (by rw [e]; exact List.mem_append_right _ hx), e⟩
  | [], [], _ :: _, _, h, _ => h.elim
  | [], _ :: _, _, _, h, _ => h.elim
  | _ :: _, [], _, _, h, _ => h.elim
  | _ :: _, _ :: _, [], _, h, _ => h.elim

theorem post_law {f : Func} {s : ChangeSpec} {apart fresh handsOn again : Bool} {W W' : World} {args : Array Value} {ds : List (DataW H)} {p : List MemPlace} {bt : TypeId} {T : TypeId → Prop} (K : Kids P T) (hz : ∀ t e, T t → P.underlying t = some (.slice e) → 0 < P.cellsOf e)
    (hbt : P.underlying bt = some .bool) (hrt : f.resultTypes.toList = [bt]) (hsz : f.resultTypes.size = 1) (hvs : s.vars = []) (hfn : s.fn H (ds ++ []) = { results := [.lit (.bool true)], args := ds })
    (hpt : ∀ t ∈ f.params.toList, T t)
    (hW : DataW.Whole enc P f.params.toList s.vars apart W args.toList ds [] (p ++ [])) (hA : DataW.TrodAll enc P W 0 (fun _ => true) true f.params.toList args.toList ds p) (hst : Ev.Stays W W')
    (hok : ∀ (j : Nat) (t : TypeId) (r : Value), f.resultTypes[j]? = some t → ((Value.bool true).resultList f.resultTypes.size)[j]? = some r → Value.okWide P W' .any 0 t r) :
    s.post enc P f apart fresh handsOn again W args (.bool true) W' := by
  have hlt := fun q hq => hW.lt q hq
  refine post_of_stays (pa := p) (pv := []) hW (fun b sp hd => ?_) (fun sp hsp => ?_) (fun sp _ => ?_) rfl hst hok
  · rw [hrt, hfn, hsz]
    exact trodAll_mk1 (shut_bool hbt _)
  · rw [hfn]
    exact DataW.TrodAll.respare K hz hpt (args_carry hA fun q hq => same_of_stays hst (hlt q (by simpa using hq))) fun q hq => hsp q (by simpa using hq)
  · rw [hfn, hvs]
    rfl
end
namespace Ev


inductive UFit : Sh → U → Prop where
  | int (k : IntKind) (n : Int) (h : (Lit.int k n).wf = true) : UFit (.int k) (.i n)
  | bool (b : Bool) : UFit .bool (.b b)
  | str (s : ByteArray) (h : s.size ≤ maxLen) : UFit .str (.s s)
  | list (sh : List Sh) (l : List (List U)) (hl : l.length ≤ maxLen) (hr : ∀ j, j < l.length → (l.getD j []).length = sh.length) (h : ∀ (j f : Nat) (s : Sh), j < l.length → sh[f]? = some s → UFit s ((l.getD j []).getD f (.i 0))) : UFit (.list sh) (.l l)
structure RowFit (sh : List Sh) (r : List U) : Prop where
  len : r.length = sh.length
  fit : ∀ (f : Nat) (s : Sh), sh[f]? = some s → UFit s (r.getD f (.i 0))
theorem RowFit.nil : RowFit [] [] := ⟨rfl, fun f s h => by simp at h⟩
theorem RowFit.append {sh1 sh2 : List Sh} {r1 r2 : List U} (h1 : RowFit sh1 r1) (h2 : RowFit sh2 r2) : RowFit (sh1 ++ sh2) (r1 ++ r2) := by
  refine ⟨by simp [h1.len, h2.len], fun f s h => ?_⟩
  rw [List.getD_eq_getElem?_getD]
  by_cases hf : f < sh1.length
  · rw [List.getElem?_append_left hf] at h
    rw [List.getElem?_append_left (by rw [h1.len]; exact hf), ← List.getD_eq_getElem?_getD]
    exact h1.fit f s h
  · rw [List.getElem?_append_right (by omega)] at h
    rw [List.getElem?_append_right (by rw [h1.len]; omega), h1.len, ← List.getD_eq_getElem?_getD]
    exact h2.fit _ s h
theorem recE_app : ∀ {sh1 sh2 : List Sh} {r1 r2 : List U}, r1.length = sh1.length → recE (sh1 ++ sh2) (r1 ++ r2) = recE sh1 r1 ++ recE sh2 r2
  | [], sh2, r1, r2, h => by
    have : r1 = [] := List.eq_nil_of_length_eq_zero h
    subst this; rfl
  | s :: sh1, sh2, [], r2, h => by cases h
  | s :: sh1, sh2, u :: r1, r2, h => by
    show s.ev u :: recE (sh1 ++ sh2) (r1 ++ r2) = s.ev u :: (recE sh1 r1 ++ recE sh2 r2)
    rw [recE_app (by simpa using h)]

def shFs (P : Program) (f : TypeId → Option (List Sh)) : List Field → Nat → Option (List Sh)
  | [], _ => some []
  | fd :: r, off => match f fd.type with
    | some sh => if fd.offset = off ∧ P.cellsOf fd.type = sh.length then match shFs P f r (off + sh.length) with
      | some l => some (sh ++ l)
      | none => none else none
    | none => none
def shB (P : Program) : Nat → TypeId → Option (List Sh)
  | 0, _ => none
  | k + 1, t => match P.underlying t with
    | some (.int κ) => some [.int κ]
    | some .bool => some [.bool]
    | some .string => some [.str]
    | some (.slice e) => match shB P k e with
      | some sh => if P.cellsOf e = sh.length ∧ 0 < sh.length then some [.list sh] else none
      | none => none
    | some (.struct fs) => match shFs P (shB P k) fs.toList 0 with
      | some sh => if P.cellsOf t = sh.length then some sh else none
      | none => none
    | some (.array m e) => match shB P k e with
      | some sh => if P.cellsOf e = sh.length ∧ P.cellsOf t = m * sh.length then some (List.replicate m sh).flatten else none
      | none => none
    | _ => none
noncomputable def fzAll (W : World) : Nat → Option (Array Value) := fun k => match W.heap[k]? with
  | some (.cells a _ _) => some a
  | _ => none
noncomputable def gAll (W : World) : G := ⟨fun _ => none, fzAll W⟩
theorem fzAll_at (W : World) : FzAt (gAll W) W := fun k a hk => by
  have hk : fzAll W k = some a := hk
  unfold fzAll at hk
  split at hk
  · rename_i a' ty fz h
    injection hk with hk; subst hk
    exact ⟨ty, fz, h⟩
  · cases hk
theorem list_of {Q : Nat → List U → Prop} : ∀ (n : Nat), (∀ i, i < n → ∃ r, Q i r) → ∃ l : List (List U), l.length = n ∧ ∀ i, i < n → Q i (l.getD i [])
  | 0, _ => ⟨[], rfl, fun i hi => absurd hi (by omega)⟩
  | n + 1, h => by
    obtain ⟨l, h1, h2⟩ := list_of n fun i hi => h i (by omega)
    obtain ⟨r, hr⟩ := h n (by omega)
    refine ⟨l ++ [r], by simp [h1], fun i hi => ?_⟩
    rw [List.getD_eq_getElem?_getD]
    by_cases e : i < n
    · rw [List.getElem?_append_left (by omega), ← List.getD_eq_getElem?_getD]; exact h2 i e
    · have : i = n := by omega
      subst this
      rw [List.getElem?_append_right (by omega), h1, Nat.sub_self]; exact hr
variable {H : Type} {enc : TypeId × Value → H} {P : Program} {W : World} {base : Nat} {sp : Nat → Bool} {hd : Bool}
def OpenAt (enc : TypeId × Value → H) (P : Program) (W : World) (base : Nat) (sp : Nat → Bool) (hd : Bool) (k : Nat) : Prop := ∀ (t : TypeId) (sh : List Sh) (fuel : Nat) (cs : List Value) (x : DataW H × List MemPlace), shB P k t = some sh → DataW.trod enc P W base sp hd fuel t cs = some x → ∃ r, RowFit sh r ∧ ∀ γ : G, γ.fz = fzAll W → ECL γ (recE sh r) cs
theorem fields_open {k : Nat} (ih : OpenAt enc P W base sp hd k) {cs : List Value} {n : Nat} : ∀ (fs : List Field) (off : Nat) (sh : List Sh), shFs P (shB P k) fs off = some sh → (∀ f, f ∈ fs → ∃ y, DataW.trod enc P W base sp hd n f.type ((cs.drop f.offset).take (P.cellsOf f.type)) = some y) → ∃ r, RowFit sh r ∧ ∀ γ : G, γ.fz = fzAll W → ECL γ (recE sh r) ((cs.drop off).take sh.length)
  | [], off, sh, h, _ => by
    injection (show some [] = some sh from h) with h; subst h
    exact ⟨[], .nil, fun γ _ => by
      rw [show ([] : List Sh).length = 0 from rfl, List.take_zero]; exact ECL.nil γ⟩
  | fd :: fs, off, sh, h, hall => by
    unfold shFs at h
    split at h
    case h_2 => cases h
    rename_i s1 hs1
    split at h
    case isFalse => cases h
    rename_i hc
    split at h
    case h_2 => cases h
    rename_i s2 hs2
    injection h with h; subst h
    obtain ⟨y, hy⟩ := hall fd (by simp)
    rw [hc.1, hc.2] at hy
    obtain ⟨r1, h1, h2⟩ := ih fd.type s1 n _ y hs1 hy
    obtain ⟨r2, h3, h4⟩ := fields_open ih fs (off + s1.length) s2 hs2 fun f hf => hall f (by simp [hf])
    refine ⟨r1 ++ r2, h1.append h3, fun γ hγ => ?_⟩
    rw [recE_app h1.len, List.length_append]
    have e : (cs.drop off).take (s1.length + s2.length) = (cs.drop off).take s1.length ++ (cs.drop (off + s1.length)).take s2.length := by
      rw [List.take_add, List.drop_drop]
    rw [e]
    exact (h2 γ hγ).append (h4 γ hγ)
theorem elems_open {k : Nat} (ih : OpenAt enc P W base sp hd k) {cs : List Value} {n : Nat} {e : TypeId} {sh : List Sh} (hsh : shB P k e = some sh) (hc : P.cellsOf e = sh.length) : ∀ (m i0 : Nat), (∀ i, i < m → ∃ y, DataW.trod enc P W base sp hd n e ((cs.drop ((i0 + i) * P.cellsOf e)).take (P.cellsOf e)) = some y) → ∃ r, RowFit (List.replicate m sh).flatten r ∧ ∀ γ : G, γ.fz = fzAll W → ECL γ (recE (List.replicate m sh).flatten r) ((cs.drop (i0 * sh.length)).take (m * sh.length))
  | 0, i0, _ => ⟨[], .nil, fun γ _ => by
      rw [Nat.zero_mul, List.take_zero]; exact ECL.nil γ⟩
  | m + 1, i0, h => by
    obtain ⟨y, hy⟩ := h 0 (by omega)
    rw [hc, Nat.add_zero] at hy
    obtain ⟨r1, h1, h2⟩ := ih e sh n _ y hsh hy
    obtain ⟨r2, h3, h4⟩ := elems_open ih hsh hc m (i0 + 1) fun i hi => by
      have := h (i + 1) (by omega)
      rwa [show i0 + (i + 1) = i0 + 1 + i by omega] at this
    refine ⟨r1 ++ r2, by rw [List.replicate_succ, List.flatten_cons]; exact h1.append h3, fun γ hγ => ?_⟩
    rw [List.replicate_succ, List.flatten_cons, recE_app h1.len, Nat.succ_mul, Nat.add_comm, List.take_add, List.drop_drop]
    have := h4 γ hγ
    rw [Nat.succ_mul] at this
    exact (h2 γ hγ).append this
theorem open_cells : ∀ k, OpenAt enc P W base sp hd k
  | 0 => fun t sh fuel cs x h => by cases h
  | k + 1 => fun t sh fuel cs x h ht => by
    have ih : OpenAt enc P W base sp hd k := open_cells k
    unfold shB at h
    split at h
    · rename_i κ hu
      injection h with h; subst h
      obtain ⟨n, rfl, _, hw⟩ := DataW.trod_int hu ht
      refine ⟨[.i n], ⟨rfl, fun f s hf => ?_⟩, fun γ _ => .cons (.v _) (.nil _)⟩
      obtain ⟨rfl, rfl⟩ := one_f hf
      exact .int κ n hw
    · rename_i hu
      injection h with h; subst h
      obtain ⟨b, rfl, _⟩ := DataW.trod_bool hu ht
      refine ⟨[.b b], ⟨rfl, fun f s hf => ?_⟩, fun γ _ => .cons (.v _) (.nil _)⟩
      obtain ⟨rfl, rfl⟩ := one_f hf
      exact .bool b
    · rename_i hu
      injection h with h; subst h
      obtain ⟨s, rfl, _, hs⟩ := DataW.trod_string hu ht
      refine ⟨[.s s], ⟨rfl, fun f s hf => ?_⟩, fun γ _ => .cons (.v _) (.nil _)⟩
      obtain ⟨rfl, rfl⟩ := one_f hf
      exact .str _ hs
    · rename_i e hu
      split at h
      case h_2 => cases h
      rename_i sh' hsh
      split at h
      case isFalse => cases h
      rename_i hc
      injection h with h; subst h
      rcases DataW.trod_slice hu ht with ⟨rfl, _⟩ | ⟨a, len, cap, elems, rest, n, _, rfl, _, hb, hlc, hcm, hel, hall, _⟩
      · refine ⟨[.l []], ⟨rfl, fun f s hf => ?_⟩, fun γ _ => .cons ?_ (.nil _)⟩
        · obtain ⟨rfl, rfl⟩ := one_f hf
          exact .list sh' [] (Nat.zero_le _) (fun j hj => by simp at hj) (fun j f s hj => by simp at hj)
        · exact UOk.ec (s := .list sh') (.empty sh' (.l []) none 0 rfl (Nat.zero_le _) fun _ => rfl)
      · have each : ∀ i, i < len → ∃ r, RowFit sh' r ∧ ∃ ys, W.cells? base (a.add (i * sh'.length)) sh'.length = some ys ∧ ∀ γ : G, γ.fz = fzAll W → ECL γ (recE sh' r) ys := fun i hi => by
          have h1 := hall i hi
          rw [hc.1] at h1
          have h2 : i < elems.length := by omega
          rw [List.getElem?_eq_getElem h2] at h1
          obtain ⟨ys, h3, h4⟩ := Option.bind_eq_some_iff.1 h1
          obtain ⟨r, h5, h6⟩ := ih e sh' n ys _ hsh h4
          exact ⟨r, h5, ys, h3, h6⟩
        obtain ⟨l, hl, hQ⟩ := list_of len each
        refine ⟨[.l l], ⟨rfl, fun f s hf => ?_⟩, fun γ hγ => .cons ?_ (.nil _)⟩
        · obtain ⟨rfl, rfl⟩ := one_f hf
          exact .list sh' l (by omega) (fun j hj => (hQ j (by omega)).1.len) fun j f s hj hf => (hQ j (by omega)).1.fit f s hf
        · refine UOk.ec (s := .list sh') ?_
          by_cases h0 : len = 0
          · have : l = [] := List.eq_nil_of_length_eq_zero (by omega)
            subst this; subst h0
            exact .empty sh' (.l []) (some a) cap rfl hcm fun e => by cases e
          · obtain ⟨b, off, spot⟩ := a
            have hblk : spot = none ∧ ∃ arr ty fz, W.heap[b]? = some (.cells arr ty fz) := by
              obtain ⟨h1, ys, h2, h3⟩ := hQ 0 (by omega)
              obtain ⟨_, h4, h5⟩ := World.cells?_some h2
              have h6 := h5 0 hc.2
              rw [List.getElem?_eq_getElem (show 0 < ys.length by omega)] at h6
              have h6 : W.cell? ⟨b, off, spot⟩ = some ys[0] := by
                have e : ((⟨b, off, spot⟩ : Addr).add (0 * sh'.length)).add 0 = ⟨b, off, spot⟩ := by simp [Addr.add]
                rw [e] at h6; exact h6
              unfold World.cell? at h6
              split at h6
              · rename_i arr ty fz hb'
                split at h6
                · cases h6
                · rename_i hs
                  exact ⟨by cases spot <;> simp_all, arr, ty, fz, hb'⟩
              · cases h6
            obtain ⟨rfl, arr, ty, fz, hblk⟩ := hblk
            have cellAt : ∀ i f, i < len → f < sh'.length → ∃ y, W.cell? ⟨b, off + (i * sh'.length + f), none⟩ = some y ∧ ∀ s, sh'[f]? = some s → UOk γ.fz s ((l.getD i []).getD f (.i 0)) y := fun i f hi hf => by
              obtain ⟨h1, ys, h2, h3⟩ := hQ i hi
              obtain ⟨_, h4, h5⟩ := World.cells?_some h2
              have h6 := h5 f hf
              have h7 : f < ys.length := by omega
              rw [List.getElem?_eq_getElem h7] at h6
              refine ⟨ys[f], ?_, fun s hs => ?_⟩
              · have e : ((⟨b, off, none⟩ : Addr).add (i * sh'.length)).add f = ⟨b, off + (i * sh'.length + f), none⟩ := by
                  unfold Addr.add
                  split <;> split <;> simp_all [Nat.add_assoc]
                rw [← h6, e]
              · have h8 := recE_get (s := s) (f := f) (sh := sh') (l.getD i []) hs
                have h9 := (h3 γ hγ).2 f _ ys[f] h8 (List.getElem?_eq_getElem h7)
                exact UOk.of_ec h9
            have getA : ∀ i f, i < len → f < sh'.length → ∃ y, arr[off + (i * sh'.length + f)]? = some y ∧ ∀ s, sh'[f]? = some s → UOk γ.fz s ((l.getD i []).getD f (.i 0)) y := fun i f hi hf => by
              obtain ⟨y, h1, h2⟩ := cellAt i f hi hf
              refine ⟨y, ?_, h2⟩
              unfold World.cell? at h1
              simpa [hblk] using h1
            have hk : γ.fz b = some arr := by
              rw [hγ]; unfold fzAll; rw [hblk]
            subst hl
            refine .list sh' (.l l) b off cap arr hk hlc hcm ?_ fun j f s x hj hf hx => ?_
            · show off + l.length * sh'.length ≤ arr.size
              obtain ⟨y, h1, _⟩ := getA (l.length - 1) (sh'.length - 1) (by omega) (by omega)
              have := (Array.getElem?_eq_some_iff.1 h1).1
              have e : l.length * sh'.length = (l.length - 1) * sh'.length + sh'.length := by rw [← Nat.succ_mul]; congr 1; omega
              omega
            · obtain ⟨y, h1, h2⟩ := getA j f hj (List.getElem?_eq_some_iff.1 hf).1
              rw [h1] at hx; injection hx with hx; subst hx
              exact h2 s hf
    · rename_i fs hu
      split at h
      case h_2 => cases h
      rename_i sh' hsh
      split at h
      case isFalse => cases h
      rename_i hc
      injection h with h; subst h
      obtain ⟨xs, n, _, _, hl, hlen, hf⟩ := DataW.trod_struct hu ht
      obtain ⟨r, h1, h2⟩ := fields_open (cs := cs) (n := n) ih fs.toList 0 sh' hsh fun f hm => by
        obtain ⟨i, hi, rfl⟩ := List.getElem_of_mem hm
        have hi2 : i < fs.size := by simpa using hi
        have := hf i fs.toList[i] (by simp [hi2])
        rw [List.getElem?_eq_getElem (by omega)] at this
        exact ⟨_, this⟩
      refine ⟨r, h1, fun γ hγ => ?_⟩
      have := h2 γ hγ
      rwa [List.drop_zero, List.take_of_length_le (by omega)] at this
    · rename_i m e hu
      split at h
      case h_2 => cases h
      rename_i sh' hsh
      split at h
      case isFalse => cases h
      rename_i hc
      injection h with h; subst h
      obtain ⟨xs, n, _, _, hl, hlen, hf⟩ := DataW.trod_array hu ht
      obtain ⟨r, h1, h2⟩ := elems_open (cs := cs) (n := n) ih hsh hc.1 m 0 fun i hi => by
        have := hf i hi
        rw [List.getElem?_eq_getElem (by omega)] at this
        rw [Nat.zero_add]
        exact ⟨_, this⟩
      refine ⟨r, h1, fun γ hγ => ?_⟩
      have := h2 γ hγ
      rwa [Nat.zero_mul, List.drop_zero, List.take_of_length_le (by omega)] at this
    · cases h

theorem open_agg {t : TypeId} {fs : Array Field} {v : Value} {d : DataW H} {ps : List MemPlace} {k b0 : Nat} {rc : Reach} {sh : List Sh} (hu : P.underlying t = some (.struct fs)) (hs : shB P k t = some sh) (hv : Value.okWide P W rc b0 t v) (h : DataW.Trod enc P W base sp hd t v d ps) : ∃ r, RowFit sh r ∧ EC (gAll W) (.agg (recE sh r)) v := by
  obtain ⟨cs, rfl, _⟩ := okWide_struct hu hv
  obtain ⟨fuel, hf⟩ := h
  obtain ⟨r, h1, h2⟩ := open_cells k t sh fuel _ _ hs hf
  have h3 := h2 (gAll W) rfl
  refine ⟨r, h1, ?_⟩
  have := EC.agg (γ := gAll W) (recE sh r) cs.toList h3.1 h3.2
  simpa using this

end Ev
end Go.Proofs.Ytkbebiebaenbdaa
namespace Go.Proofs.Ytkbebiebaenbdaa.Ev
open Go.Proofs
noncomputable def farB (l : List (List U)) (m : Int) : Bool := bc (bc (decide (m < (l.length : Int))) (decide ((l.length : Int) ≤ 400)) false) true (decide (450 < (l.length : Int)))
namespace LFar
noncomputable def RUN (s : ES) : ZF := RZ 26 .nil (fun _ => false) [] [] false s
theorem in_t (n m : Int) (l : List (List U)) : RUN (st0 26 [.agg [iv n, wl l], iv m]) = (bc (decide (m < Int.ofNat (List.length l))) (bc (decide (Int.ofNat (List.length l) ≤ (400 : Int))) (.done (EV.v (Value.bool true)) [] 0) (.done (EV.v (Value.bool (decide ((450 : Int) < Int.ofNat (List.length l))))) [] 0)) (.done (EV.v (Value.bool (decide ((450 : Int) < Int.ofNat (List.length l))))) [] 0)) := by kernel_rfl
theorem ends (n m : Int) (l : List (List U)) : EndZ 26 .nil false (st0 26 [.agg [iv n, wl l], iv m]) (bv (farB l m)) [] 0 := by
  have h := in_t n m l
  unfold farB
  rw [bc_bc]
  cases h1 : decide (m < (l.length : Int)) <;> simp only [ofn, h1, bc_t, bc_f] at h ⊢
  · exact .done h
  · cases h2 : decide ((l.length : Int) ≤ 400) <;> simp only [h2, bc_t, bc_f] at h ⊢ <;> exact .done h
end LFar
noncomputable def spFar : ZCT := fun ax => match ax with
  | [.agg [.v (.int .i64 n), .lst (.recs [.int .i64, .int .i64, .str] l)], .v (.int .i64 m)] => some ⟨decide (True), bv (farB l m), [], 0⟩
  | _ => none
theorem spFar_ok : ZCtOk Try.prog 26 spFar := fun γ w us ax r hs hc hax hN hfz => by
  unfold spFar at hs
  split at hs
  case h_2 => cases hs
  rename_i n l m
  obtain ⟨rfl⟩ := Option.some.inj hs
  have hc_0 : decide (True) = true := hc
  have hc := of_decide_eq_true hc_0
  exact EndZ.calls (LFar.ends n m l) (.nil _) (by kernel_rfl) hax hN hfz
noncomputable def ctEx : Tr ZCC := (((((Tr.nil.put 36 (some (dC spPBes))).put 35 (some (dC spPBel))).put 27 (some (dC spPFlip))).put 37 (some (dC spSm5))).put 26 (some (dC spFar))).put 22 (some (dC spTrue))
theorem ctEx_ok : ZCtsOk Try.prog ctEx := ((((((ZCtsOk.nil _).add rfl spPBes_ok).add rfl spPBel_ok).add rfl spPFlip_ok).add rfl spSm5_ok).add rfl spFar_ok).add rfl spAwake_ok
namespace AExc
end AExc
theorem bothZ {n m : Int} {l k : List (List U)} (h : both n m l k = 0) : chk4 n l = 0 ∧ chk4 m k = 0 := by
  unfold both at h
  by_cases h1 : chk4 n l = 0
  · rw [show (chk4 n l != 0) = false by rw [h1]; rfl] at h
    exact ⟨h1, h⟩
  · rw [show (chk4 n l != 0) = true by simp [h1]] at h
    exact absurd h h1
theorem besE_0 {n m : Int} {l k : List (List U)} (h : besE n m l k = 0) : chk4 n l = 0 ∧ chk4 m k = 0 ∧ n + m ≤ 24 ∧ (l.length : Int) + k.length ≤ 400 := by
  have hb : both n m l k = 0 := by
    by_cases hb : both n m l k = 0
    · exact hb
    · rw [besE1 rfl (by simp [hb])] at h; exact h
  obtain ⟨h1, h2⟩ := bothZ hb
  rw [besE0 h1 h2] at h
  refine ⟨h1, h2, ?_⟩
  by_cases h3 : 24 < n + m
  · rw [dt h3, bc_t] at h; cases h
  rw [df h3, bc_f] at h
  by_cases h4 : 400 < (l.length : Int) + k.length
  · rw [dt h4, bc_t] at h; cases h
  exact ⟨by omega, by omega⟩
theorem belE_0 {n m : Int} {l k : List (List U)} (h : belE n m l k = 0) : chk4 n l = 0 ∧ chk4 m k = 0 ∧ n = m ∧ (l.length : Int) + k.length ≤ 400 := by
  have hb : both n m l k = 0 := by
    by_cases hb : both n m l k = 0
    · exact hb
    · rw [belE1 rfl (by simp [hb])] at h; exact h
  obtain ⟨h1, h2⟩ := bothZ hb
  rw [belE0 h1 h2] at h
  refine ⟨h1, h2, ?_⟩
  by_cases h3 : n = m
  · rw [show (n != m) = false by simp [h3], bc_f] at h
    by_cases h4 : 400 < (l.length : Int) + k.length
    · rw [dt h4, bc_t] at h; cases h
    exact ⟨h3, by omega⟩
  · rw [show (n != m) = true by simp [h3], bc_t] at h; cases h
theorem belE_of {n : Int} {l k : List (List U)} (h1 : chk4 n l = 0) (h2 : chk4 n k = 0) (h4 : (l.length : Int) + k.length ≤ 400) : belE n n l k = 0 := by
  rw [belE0 h1 h2, show (n != n) = false by simp, bc_f, df (by omega), bc_f]
theorem far_len {l : List (List U)} {m : Int} (h : farB l m = false) (h4 : (l.length : Int) ≤ 400) : (l.length : Int) ≤ m := by
  unfold farB at h
  by_cases h1 : m < (l.length : Int)
  · rw [dt h1, bc_t, dt h4, bc_t] at h; cases h
  · omega
theorem shL_app (d : Int) (l k : List (List U)) : shL d (l ++ k) = shL d l ++ shL d k := by unfold shL; rw [List.map_append]
namespace AExc
end AExc
end Go.Proofs.Ytkbebiebaenbdaa.Ev
