/- The reckoner: long calls in parts: a state in few words, and what lies between two of them. No program is named. -/
import Derived.Test.YtcgopcfbgkhpgaaEv23
namespace Go.Proofs.Ytcgopcfbgkhpgaa.Ev
open Go.RowKit
variable {P : Program} {γ γ' : G} {w0 : Bs} {w : World} {H H' : Tr EK} {n n' : Nat} {T : Tr EV} {cs : List Frame} {fid : FuncId} {FT : Tr FI}

/-- from each machine of the one state a machine of the other is reached -/
def Leads (P : Program) (s s' : ES) : Prop := ∀ (γ : G) (w0 : Bs) (cs : List Frame) (m : Machine), MR γ w0 cs s m → ∃ γ' m', GLe γ γ' ∧ Steps P m m' ∧ MR γ' w0 cs s' m'
theorem Leads.trans {a b c : ES} (h : Leads P a b) (k : Leads P b c) : Leads P a c := fun γ w0 cs m hm => by
  obtain ⟨γ1, m1, h1, h2, h3⟩ := h γ w0 cs m hm
  obtain ⟨γ2, m2, k1, k2, k3⟩ := k γ1 w0 cs m1 h3
  exact ⟨γ2, m2, h1.trans k1, h2.trans k2, k3⟩
/-! ### a run until a place -/
noncomputable def exUntil (st : ES → EO) (p : ES → Bool) (k : Nat) : ES → EO := Nat.rec (fun s => st s) (fun _ ih s => EO.rec (fun s' => Bool.rec (ih s') (.go s') (p s')) (fun a H n => .done a H n) (fun b H n => .doneR b H n) .fail (ih s)) k
theorem exUntil_ok {st : ES → EO} {p : ES → Bool} (hst : ∀ (γ : G) (s : ES) (m : Machine), MR γ w0 cs s m → SOk P γ w0 cs fid m (st s)) : ∀ (k : Nat) (γ : G) (s : ES) (m : Machine), MR γ w0 cs s m → SOk P γ w0 cs fid m (exUntil st p k s)
  | 0, γ, s, m, h => hst γ s m h
  | k + 1, γ, s, m, h => by
    have h1 := exUntil_ok (p := p) hst k γ s m h
    show SOk P γ w0 cs fid m (EO.rec (fun s' => Bool.rec (exUntil st p k s') (.go s') (p s')) (fun a H n => .done a H n) (fun b H n => .doneR b H n) .fail (exUntil st p k s))
    cases hr : exUntil st p k s with
    | go s' =>
      rw [hr] at h1
      show SOk P γ w0 cs fid m (Bool.rec (exUntil st p k s') (.go s') (p s'))
      cases p s' with
      | true => exact h1
      | false =>
        obtain ⟨γ', m', hle, hs, hm⟩ := h1
        exact SOk.trans hle hs (exUntil_ok hst k γ' s' m' hm)
    | done a H n => rw [hr] at h1; exact h1
    | doneR b H n => rw [hr] at h1; exact h1
    | fail => trivial
/-- so many frames beneath, a function on top, ahead of a region -/
noncomputable def atR (d f id : Nat) (s : ES) : Bool := bc (Nat.beq (llen s.rest) d) (bc (Nat.beq s.top.fn f) (match s.top.todo with
  | .it (.code (.seq (.region i _ _) _)) :: _ => Nat.beq i id
  | .it (.code (.region i _ _)) :: _ => Nat.beq i id
  | _ => false) false) false
/-! ### a state in few words -/
noncomputable def mkT {α : Type} (l : List (Nat × α)) : Tr α := List.rec .nil (fun p _ ih => bc (Nat.ble p.1 65535) (ih.put p.1 (some p.2)) ih) l
theorem mkT_get {α : Type} : ∀ {l : List (Nat × α)} {s : Nat} {a : α}, (mkT l).get s = some a → (s, a) ∈ l
  | [], s, a, h => by cases h
  | p :: l, s, a, h => by
    have h' : (bc (Nat.ble p.1 65535) ((mkT l).put p.1 (some p.2)) (mkT l)).get s = some a := h
    rw [bc_eq] at h'
    split at h'
    · rename_i hp
      rw [Tr.get_put hp] at h'
      by_cases e : s = p.1
      · rw [if_pos e] at h'; injection h' with h'; subst h'; subst e; simp
      · rw [if_neg e] at h'; exact List.mem_cons_of_mem _ (mkT_get h')
    · exact List.mem_cons_of_mem _ (mkT_get h')
noncomputable def pick {α : Type} (t : Tr α) (l : List Nat) : List (Nat × α) := List.rec [] (fun s _ ih => match t.get s with
  | some a => (s, a) :: ih
  | none => ih) l
theorem pick_mem {α : Type} {t : Tr α} : ∀ {l : List Nat} {s : Nat} {a : α}, (s, a) ∈ pick t l → t.get s = some a
  | [], s, a, h => by cases h
  | q :: l, s, a, h => by
    have h' : (s, a) ∈ (match t.get q with
      | some a => (q, a) :: pick t l
      | none => pick t l) := h
    split at h'
    · rename_i b hb
      rcases List.mem_cons.1 h' with h' | h'
      · injection h' with e1 e2; subst e1; subst e2; exact hb
      · exact pick_mem h'
    · exact pick_mem h'
noncomputable def upto (k : Nat) : List Nat → List Nat := Nat.rec (fun acc => acc) (fun k ih acc => ih (k :: acc)) k
/-! the numbers that values speak of -/
noncomputable def flatN {α : Type} (f : α → List Nat) (l : List α) : List Nat := List.rec [] (fun a _ ih => f a ++ ih) l
noncomputable def numsE (k : Nat) : EV → List Nat := Nat.rec (fun _ => []) (fun _ ih a => match a with
  | .ptr i _ => [i]
  | .sl i _ _ _ _ => [i]
  | .slE i _ _ => [i]
  | .agg l => flatN ih l
  | .tup l => flatN ih l
  | .fn _ l => flatN ih l
  | .mt _ l => flatN ih l
  | .yl i => [i]
  | .mp i => [i]
  | _ => []) k
noncomputable def numsK (k : EK) : List Nat := match k with
  | .cells _ l _ => flatN (numsE 6) l
  | .arr _ T len => match lstT T len [] with
    | some l => flatN (numsE 6) l
    | none => []
  | _ => []
noncomputable def memN (i : Nat) (l : List Nat) : Bool := List.rec false (fun a _ ih => Bool.rec ih true (Nat.beq a i)) l
noncomputable def reachN (H : Tr EK) (k : Nat) : List Nat → List Nat → List Nat := Nat.rec (fun _ seen => seen) (fun _ ih todo seen => match todo with
  | [] => seen
  | i :: todo => bc (memN i seen) (ih todo seen) (match H.get i with
    | some e => ih (numsK e ++ todo) (i :: seen)
    | none => ih todo seen)) k
/-- a frame, and a state, in few words -/
structure FS where
  fn : FuncId
  N : Nat
  T : List (Nat × EV)
  todo : List IM
structure NS where
  fs : List FS
  H : List (Nat × EK)
  n : Nat
noncomputable def frOf (f : FS) : EF := ⟨f.fn, f.N, mkT f.T, f.todo, [], none, false⟩
noncomputable def frsOf (l : List FS) : List EF := List.rec [] (fun f _ ih => frOf f :: ih) l
noncomputable def stOf (r : NS) : ES := match r.fs with
  | f :: l => ⟨frOf f, frsOf l, mkT r.H, r.n⟩
  | [] => ⟨⟨0, 0, .nil, [], [], none, false⟩, [], .nil, 0⟩
noncomputable def normF (f : EF) : Option FS := match f.ret with
  | false => match f.dfs with
    | [] => match f.round with
      | none => some ⟨f.fn, f.N, pick f.T (upto f.N []), f.todo⟩
      | _ => none
    | _ => none
  | _ => none
noncomputable def normFs (l : List EF) : Option (List FS) := List.rec (some []) (fun f _ ih => match normF f with
  | some a => match ih with
    | some r => some (a :: r)
    | none => none
  | none => none) l
noncomputable def normS (s : ES) : Option NS := match normFs (s.top :: s.rest) with
  | some l => some ⟨l, pick s.H (reachN s.H 4000 (flatN (fun f => flatN (fun p => numsE 6 p.2) f.T) l) []), s.n⟩
  | none => none
noncomputable def normE (e : EO) : Option NS := match e with
  | .go s => normS s
  | _ => none
theorem normF_ok {f : EF} {a : FS} {fr : Frame} (h : normF f = some a) (hf : FR γ f fr) : FR γ (frOf a) fr := by
  unfold normF at h
  split at h
  case h_2 => cases h
  rename_i hret
  split at h
  case h_2 => cases h
  rename_i hdfs
  split at h
  case h_2 => cases h
  rename_i hround
  injection h with h; subst h
  obtain ⟨tmps, todo, ds, ro, rfl, h1, h2, h3, h4, h5⟩ := hf
  rw [hdfs] at h4
  rw [hround] at h5
  exact ⟨tmps, todo, ds, ro, by rw [hret]; rfl, h1, fun sl a hs => h2 sl a (pick_mem (mkT_get hs)), h3, h4, h5⟩
theorem normFs_ok : ∀ {l : List EF} {r : List FS} {frs : List Frame}, normFs l = some r → All2 (FR γ) l frs → All2 (FR γ) (frsOf r) frs
  | [], r, frs, h, hf => by
    have h' : some [] = some r := h
    injection h' with h'; subst h'
    cases hf; exact .nil
  | f :: l, r, frs, h, hf => by
    have h' : (match normF f with
      | some a => match normFs l with
        | some r => some (a :: r)
        | none => none
      | none => none) = some r := h
    split at h'
    case h_2 => cases h'
    rename_i a ha
    split at h'
    case h_2 => cases h'
    rename_i r' hr'
    injection h' with h'; subst h'
    cases hf with
    | cons h1 h2 => exact .cons (normF_ok ha h1) (normFs_ok hr' h2)
theorem normS_ok {s : ES} {r : NS} (h : normS s = some r) {m : Machine} (hm : MR γ w0 cs s m) : MR γ w0 cs (stOf r) m := by
  unfold normS at h
  split at h
  case h_2 => cases h
  rename_i l hl
  injection h with h; subst h
  obtain ⟨fr, frs, w, rfl, h1, hfs, hH⟩ := hm
  have h2 := normFs_ok hl (.cons h1 hfs)
  cases l with
  | nil => cases h2
  | cons f l =>
    cases h2 with
    | cons h3 h4 => exact ⟨fr, frs, w, rfl, h3, h4, hH.congr fun b k hb => pick_mem (mkT_get hb)⟩
theorem leads_until (hF : FTok P FT) {dr : ES → Nat → Array Oper → List IM → EO} (hdr : DrOk P dr) {f k : Nat} {p : ES → Bool} {s : ES} {r : NS} (h : normE (exUntil (exStep P FT f dr) p k s) = some r) : Leads P s (stOf r) := fun γ w0 cs m hm => by
  have := exUntil_ok (p := p) (fid := f) (fun γ s m hm => exStep_ok hF hdr hm) k γ s m hm
  unfold normE at h
  split at h
  case h_2 => cases h
  rename_i s' hs'
  rw [hs'] at this
  obtain ⟨γ', m', h1, h2, h3⟩ := this
  exact ⟨γ', m', h1, h2, normS_ok h h3⟩
/-- the way into a body -/
def nav : List Nat → Code → Code
  | [], c => c
  | b :: l, .seq x y => nav l (if b = 0 then x else y)
  | b :: l, .cond _ x y => nav l (if b = 0 then x else y)
  | _ :: l, .block _ x => nav l x
  | _ :: l, .loop x => nav l x
  | _ :: l, .scope x => nav l x
  | b :: l, .rangeFunc _ _ x y => nav l (if b = 0 then x else y)
  | _ :: _, c => c
def opsOf : Code → Array Oper
  | .region _ ops _ => ops
  | _ => #[]
def bodyOf (f : Func) : Code := f.body.getD .skip
noncomputable def entry (FT : Tr FI) (f : FuncId) : ES := match exEnter FT f [] with
  | some e => ⟨e, [], .nil, 0⟩
  | none => ⟨⟨f, 0, .nil, [], [], none, false⟩, [], .nil, 0⟩
noncomputable def entersB (FT : Tr FI) (f : FuncId) : Bool := match exEnter FT f [] with
  | some _ => true
  | none => false
theorem partsTrue (hF : FTok P FT) {dr : ES → Nat → Array Oper → List IM → EO} (hdr : DrOk P dr) {f : FuncId} {k : Nat} {s : ES} (he : entersB FT f = true) (hl : Leads P (entry FT f) s) (h : endsB (exRun (exStep P FT f dr) k s) = true) (w : World) :
    Calls P f #[] w fun e w' => e = .returned (.bool true) ∧ Stays w w' := by
  intro cs
  obtain ⟨H, n, hd⟩ := endsB_ok h
  unfold entersB at he
  split at he
  case h_2 => cases he
  rename_i e hent
  have hE := exEnter_ok (γ := fun _ => none) hF (args := []) (vs := #[]) (ECL.nil _) hent
  have hM : MR (fun _ => none) (Bs.of w) cs (entry FT f) (lone (Frame.enter P f #[] .normal) cs w) := by
    unfold entry
    rw [hent]
    exact ⟨_, [], w, rfl, hE.1, .nil, ⟨(fun i k hk => by cases hk), (fun i j ki kj hi => by cases hi), (fun _ _ => rfl), (fun i hi => hi.elim), (fun i p hp => by cases hp), ⟨rfl, rfl, rfl, Nat.le_refl _, fun _ _ => rfl⟩⟩⟩
  obtain ⟨γ1, m1, g1, g2, g3⟩ := hl _ _ _ _ hM
  have := exRun_ok (fid := f) (fun γ s m hm => exStep_ok hF hdr hm) k _ _ _ g3
  rw [hd] at this
  obtain ⟨γ', fr', w', v, _, h2, h3, h4, h5, h6⟩ := this
  exact ⟨.returned v, w', fr', ⟨by rw [ec_v h5], staysOf h6.stays⟩, g2.trans h2, h3, h4⟩
end Go.Proofs.Ytcgopcfbgkhpgaa.Ev
