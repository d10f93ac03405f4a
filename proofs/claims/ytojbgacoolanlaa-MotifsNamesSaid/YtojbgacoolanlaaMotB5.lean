/- Laid together: Runs of a call whose arguments lead to memory that it changes: the first k numbers stay what they are. No program is named. The reckoner: what calls of strings.Join and strings.Repeat come to. No program is named. Contracts of the library, laid at this program by the kit's tool. The reckoner: calls of strings.Join and strings.Repeat of this program. The table of functions for the reckoner. What all functions of a seat share: runs, leads, calls. motifs.Plait. torchonref09: Same, letters, body, Plait. torchonref09: Picot, Windmill, Spider, Fan, Footside. Contracts of strings.Repeat, strings.Join over data. No program is named. motifs: way, Picot, Windmill. motifs: (*piece).with. motifs.Spider: its closures, itself. motifs.Spider. Plain facts: strings by both ways. Plain facts: the spider of the program is that of the reference. Plain facts: Picot and Windmill of the program. slices.Reverse of ints. slices.Clone of ints; (*piece).there. -/
import Derived.Below
import Derived.Lib.Join
import Derived.Lib.Repeat
import Derived.Shelf.Strings.Builder1
import Derived.Shelf.Strings.Builder2
import Derived.Shelf.Strings.OnBuilder
import Derived.Shelf.Strings.BuilderF
import Derived.Shelf.Strings.BuilderK
import Derived.Shelf.Strings.Builder2Cap
import Derived.Shelf.Strings.Prefix
import Derived.Shelf.Bits.Mul64
import Derived.Shelf.Strings.Repeat
import Derived.Shelf.Strings.BuilderCap
import Derived.Shelf.Slices.Reverse
import Derived.Shelf.Slices.Clone
import Derived.Shelf.Slices.Cells
import Derived.Shelf.SlicesE.Reverse
import Derived.Shelf.SlicesE.Clone
import Derived.Test.YtojbgacoolanlaaProg
import Derived.Test.YtojbgacoolanlaaChecked
import Derived.Test.YtojbgacoolanlaaMotB4
set_option linter.unusedSimpArgs false
set_option linter.unusedVariables false
namespace Go.Proofs.Ytojbgacoolanlaa.Ev
open Go.RowKit
variable {P : Program} {γ γ' : G} {w0 : Bs} {w : World} {H H' : Tr EK} {n n' : Nat} {T : Tr EV} {cs : List Frame} {fid : FuncId} {FT : Tr FI} {tmps : Array Value} {o : Oper} {α : Type}
noncomputable def idL (k : Nat) : List (Nat × Nat) := Nat.rec [] (fun j ih => ih ++ [(j, j)]) k
theorem idL_mem : ∀ {k j : Nat}, j < k → (j, j) ∈ idL k
  | k + 1, j, h => by
    show (j, j) ∈ idL k ++ [(k, k)]
    by_cases e : j = k
    · subst e; simp
    · exact List.mem_append.2 (.inl (idL_mem (by omega)))
noncomputable def pinsB (k : Nat) (ρ : List (Nat × Nat)) : Bool := allL (fun p => isSomeN (lookN ρ p.1) p.2) (idL k)
theorem pinsB_ok {k : Nat} {ρ : List (Nat × Nat)} (h : pinsB k ρ = true) {j : Nat} (hj : j < k) : lookN ρ j = some j := isSomeN_ok (allL_ok h (j, j) (idL_mem hj))
noncomputable def normK (k : Nat) (lk : List Nat) (ls : List SZ) (e : EO) : Option NS := match e with
  | .go s => match framesN (s.top :: s.rest) ls ⟨idL k, [], k⟩ with
    | (q0, sl) => match closeN lk s.H 60 0 q0 with
      | q => bc (pinsB k q.ρ) (normR lk sl q.ρ (keepN s.H q.ρ) q.nils q.N (.go s)) none
  | _ => none
noncomputable def doneM (k : Nat) (a : EV) (H : Tr EK) : ZF := match closeN [] H 60 0 (addL (numsE 6 a) ⟨idL k, [], k⟩) with
  | q => match renE q.ρ 8 a with
    | some a' => match pickK q.ρ H [] (keepN H q.ρ) with
      | some K => bc (okN q.ρ q.N) (bc (allL (fun p => isSomeN (lookN q.ρ p.1) p.2) (keepN H q.ρ)) (bc (pinsB k q.ρ) (.done a' (sortK K) q.N) .bad) .bad) .bad
      | none => .bad
    | none => .bad
/-- nil slices of some blocks, laid as sequences (block, size, type, contents) -/
abbrev NLs := List (Nat × Nat × TypeId × SyC)
noncomputable def nilD (nl : NLs) : Tr EK × Nat → Tr EK × Nat := List.rec (fun q => q) (fun p _ ih q => match q.1.get p.1 with
  | some (.cells _ l _) => ih (nilL p.2.1 p.2.2.1 p.2.2.2 p.1 (nilJ l 0) q)
  | _ => ih q) nl
theorem nilD_ok : ∀ {nl : NLs} {q : Tr EK × Nat}, HR γ w0 q.1 q.2 w → HR γ w0 (nilD nl q).1 (nilD nl q).2 w
  | [], _, h => h
  | p :: nl, q, h => by
    show HR γ w0 (match q.1.get p.1 with
      | some (.cells _ l _) => nilD nl (nilL p.2.1 p.2.2.1 p.2.2.2 p.1 (nilJ l 0) q)
      | _ => nilD nl q).1 (match q.1.get p.1 with
      | some (.cells _ l _) => nilD nl (nilL p.2.1 p.2.2.1 p.2.2.2 p.1 (nilJ l 0) q)
      | _ => nilD nl q).2 w
    split
    · exact nilD_ok (nilL_ok h)
    · exact nilD_ok h
noncomputable def endM (k : Nat) (lk : List Nat) (ps : PLs) (nl : NLs) (e : EO) : ZF := match e with
  | .go s => match normK k lk (lsAt ps s) (.go (nilS (lsAt ps s) s)) with
    | some r => .at r
    | none => .bad
  | .done a H n => doneM k a (nilD nl (H, n)).1
  | _ => .bad
def LeadsM (P : Program) (k : Nat) (s s' : ES) : Prop := ∀ (γ : G) (w0 : Bs) (cs : List Frame) (m : Machine), (∀ i, ¬ w0.res i) → MR γ w0 cs s m → ∃ γ' m', Steps P m m' ∧ MR γ' w0 cs s' m' ∧ ∀ j p, j < k → γ j = some p → γ' j = some p
theorem LeadsM.trans {k : Nat} {a b c : ES} (h : LeadsM P k a b) (g : LeadsM P k b c) : LeadsM P k a c := fun γ w0 cs m hr hm => by
  obtain ⟨γ1, m1, h1, h2, h3⟩ := h γ w0 cs m hr hm
  obtain ⟨γ2, m2, k1, k2, k3⟩ := g γ1 w0 cs m1 hr h2
  exact ⟨γ2, m2, h1.trans k1, k2, fun j p hj e => k3 j p hj (h3 j p hj e)⟩
theorem LeadsM.refl (k : Nat) (a : ES) : LeadsM P k a a := fun γ _ _ m _ hm => ⟨γ, m, Steps.refl P _, hm, fun _ _ _ e => e⟩
theorem leads_ofM {s : ES} {lk : List Nat} {r : NS} {f : FuncId} {k : Nat}
    (h : ∀ (γ : G) (w0 : Bs) (cs : List Frame) (m : Machine), MR γ w0 cs s m → ∃ e ls ρ keep nils N, normR lk ls ρ keep nils N e = some r ∧ pinsB k ρ = true ∧ SOk P γ w0 cs f m e) : LeadsM P k s (stOf r) := fun γ w0 cs m hres hm => by
  obtain ⟨e, ls, ρ, keep, nils, N, h, hpk, this⟩ := h γ w0 cs m hm
  unfold normR at h
  split at h
  case h_2 => cases h
  rename_i s'
  obtain ⟨γ', m', h1, h2, h3⟩ := this
  split at h
  case h_2 => cases h
  rename_i l hl
  split at h
  case h_2 => cases h
  rename_i K hK
  rw [bc_eq] at h
  split at h
  case isFalse => cases h
  rename_i hρ
  rw [bc_eq] at h
  split at h
  case isFalse => cases h
  rename_i hkeep
  rw [bc_eq] at h
  split at h
  case isFalse => cases h
  rename_i hnil
  injection h with h; subst h
  obtain ⟨fr, frs, w, rfl, g1, hfs, hH⟩ := h3
  have g3 := normFsR_ok hρ hl (.cons g1 hfs)
  have hHn := hH.ren hres hρ hkeep hnil hK (K2 := sortK (nilsK nils ++ K)) (fun _ => sortK_mem)
  cases l with
  | nil => have g3 : All2 (FR (γ'.ren ρ)) [] (fr :: frs) := g3; cases g3
  | cons f l =>
    have g3 : All2 (FR (γ'.ren ρ)) (frOf f :: frsOf l) (fr :: frs) := g3
    cases g3 with
    | cons e1 e2 => exact ⟨γ'.ren ρ, _, h2, ⟨fr, frs, w, rfl, e1, e2, hHn⟩, fun j p hj ej => by rw [G.ren_look hρ (pinsB_ok hpk hj)]; exact h1 j p ej⟩
theorem leadsM (hm0 : P.follows .mixedOrders = true) (hF : FTok P FT) {dr : ES → Nat → Array Oper → List IM → EO} (hdr : DrOk P dr) {sub : Sub} (hsub : LoudOk P sub) {ct : Tr ZCC} (hct : ZCtsOk P ct) {f k c : Nat} {p : ES → Bool} {s : ES} {lk : List Nat} {ps : PLs} {nl : NLs} {r : NS}
    (h : runZ (stepZ P FT f dr sub ct) p (endM k lk ps nl) c s = .at r) : LeadsM P k s (stOf r) :=
  leads_ofM (f := f) (lk := lk) fun γ w0 cs m hm => by
    obtain ⟨e, h1, h2⟩ := runZ_ok (p := p) (κ := endM k lk ps nl) (fun γ s m κ' hm => stepZ_ok (fid := f) hm0 hF hdr hsub hct hm κ') c γ s m hm
    have h3 : endM k lk ps nl e = .at r := h1.symm.trans h
    unfold endM at h3
    split at h3
    · split at h3
      · rename_i s' r' hr
        injection h3 with h3; subst h3
        unfold normK at hr
        simp only at hr
        rw [bc_eq] at hr
        split at hr
        case isFalse => cases hr
        rename_i hpk
        obtain ⟨γ', m', hle, hst, hM⟩ := h2
        exact ⟨_, _, _, _, _, _, hr, hpk, ⟨γ', m', hle, hst, nilS_ok hM⟩⟩
      · cases h3
    · unfold doneM at h3
      simp only at h3
      split at h3
      · split at h3
        · rw [bc_eq, bc_eq, bc_eq] at h3
          split at h3
          · split at h3
            · split at h3 <;> cases h3
            · cases h3
          · cases h3
        · cases h3
      · cases h3
    · cases h3
/-- a call, from its entry to its end -/
theorem callsM (hm0 : P.follows .mixedOrders = true) (hF : FTok P FT) {dr : ES → Nat → Array Oper → List IM → EO} (hdr : DrOk P dr) {sub : Sub} (hsub : LoudOk P sub) {ct : Tr ZCC} (hct : ZCtsOk P ct) {f k c : Nat} {p : ES → Bool} {s : ES} {lk : List Nat} {ps : PLs} {nl : NLs} {args : List EV} {us : Array Value} {e : EF} {K0 : List (Nat × EK)} {m0 : Nat} {a : EV} {K : List (Nat × EK)} {n' : Nat}
    (he : exEnter FT f args = some e) (hres : ∀ i, ¬ w0.res i) (hargs : ECL γ args us.toList) (hH : HR γ w0 (mkT K0) m0 w)
    (hl : LeadsM P k ⟨e, [], mkT K0, m0⟩ s) (hd : runZ (stepZ P FT f dr sub ct) p (endM k lk ps nl) c s = .done a K n') :
    Calls P f us w fun e w' => ∃ γ' x, e = .returned x ∧ EC γ' a x ∧ HR γ' w0 (mkT K) n' w' ∧ ∀ j p, j < k → γ j = some p → γ' j = some p := by
  intro cs
  obtain ⟨q1, _⟩ := exEnter_ok hF hargs he
  have hM : MR γ w0 cs ⟨e, [], mkT K0, m0⟩ (lone (Frame.enter P f us .normal) cs w) := ⟨_, [], w, rfl, q1, .nil, hH⟩
  obtain ⟨γ1, m1, g1, g3, g4⟩ := hl γ w0 cs _ hres hM
  obtain ⟨eo, h1, this⟩ := runZ_ok (p := p) (κ := endM k lk ps nl) (fun γ s m κ' hm => stepZ_ok (fid := f) hm0 hF hdr hsub hct hm κ') c γ1 s m1 g3
  have h3 : endM k lk ps nl eo = .done a K n' := h1.symm.trans hd
  unfold endM at h3
  split at h3
  · split at h3 <;> cases h3
  · rename_i a0 H0 n0
    obtain ⟨γ', fr', w', v, hle, h2, h4, h5, h6, h7⟩ := this
    unfold doneM at h3
    simp only at h3
    split at h3
    case h_2 => cases h3
    rename_i a2 ha2
    split at h3
    case h_2 => cases h3
    rename_i K2 hK2
    rw [bc_eq] at h3
    split at h3
    case isFalse => cases h3
    rename_i hρ
    rw [bc_eq] at h3
    split at h3
    case isFalse => cases h3
    rename_i hkeep
    rw [bc_eq] at h3
    split at h3
    case isFalse => cases h3
    rename_i hpk
    injection h3 with e1 e2 e3; subst e1; subst e2; subst e3
    exact ⟨.returned v, w', fr', ⟨_, v, rfl, EC.ren hρ ha2 h6, (nilD_ok (nl := nl) (q := (H0, n0)) h7).ren (nils := []) hres hρ hkeep rfl hK2 (K2 := sortK K2) (fun _ => sortK_mem), fun j p hj ej => by rw [G.ren_look hρ (pinsB_ok hpk hj)]; exact hle j p (g4 j p hj ej)⟩, g1.trans h2, h4, h5⟩
  · cases h3
end Go.Proofs.Ytojbgacoolanlaa.Ev
namespace Go.Proofs.Ytojbgacoolanlaa.Ev
open Go.RowKit
variable {P : Program} {γ γ' : G} {w0 : Bs} {w w' : World} {H H' : Tr EK} {n n' : Nat}

/-- blocks behind the heap's end have come -/
theorem HR.below (h : HR γ w0 H n w) (b : Below w.heap.size w w') : HR γ w0 H n w' := by
  refine ⟨fun i k hk => ?_, h.inj0, h.fresh, h.rsv, fun i p e => Nat.lt_of_lt_of_le (h.lt i p e) b.size, ?_, h.fzq rfl (fun k hk _ => b.block k hk) fun i ki b m hi ni ei => .inr ⟨i, ki, b, m, hi, ni, ei, rfl⟩⟩
  · refine (h.hp0 i k hk).imp id fun ⟨c, m, h1, h2, h3⟩ => ?_
    exact ⟨c, m, h1, h2, EK.ok_mono (GLe.refl γ) (b.block c.k (h.lt i _ h1)) h3⟩
  · refine ⟨b.os.trans h.stays.os, b.tape.trans h.stays.tape, b.output.trans h.stays.output, Nat.le_trans h.stays.size b.size, fun k hk => ?_⟩
    have h1 := w0.lt k hk
    have h2 := h.stays.size
    exact (b.block k (by omega)).trans (h.stays.block k hk)
noncomputable def ctRepeat : CT := fun args H n => match args with
  | [.v (.string s), .v (.int .i64 (.ofNat c))] => bc (Nat.ble c 65536) (bc (Nat.ble s.size 65536) (some (.v (.string ⟨(Lib.repeatL s.data.toList c).toArray⟩), H, n)) none) none
  | _ => none
theorem ctRepeat_ok {f : FuncId} (h : ∀ (s : ByteArray) (c : Nat) (w : World), c ≤ 9223372036854775807 → s.size * c ≤ 140737488355328 → Calls P f #[.string s, .int .i64 c] w fun e w' => e = .returned (.string ⟨(Lib.repeatL s.data.toList c).toArray⟩) ∧ Below w.heap.size w w') : CtOk P f ctRepeat := by
  intro γ w0 H n w args us a H' n' hH hc hr
  unfold ctRepeat at hr
  split at hr
  case h_2 => cases hr
  rename_i s c
  rw [bc_eq, bc_eq] at hr
  split at hr
  case isFalse => cases hr
  rename_i h1
  split at hr
  case isFalse => cases hr
  rename_i h2
  simp only [Option.some.injEq, Prod.mk.injEq] at hr
  obtain ⟨rfl, rfl, rfl⟩ := hr
  have h1 := Nat.le_of_ble_eq_true h1
  have h2 := Nat.le_of_ble_eq_true h2
  obtain ⟨x, r1, e1, hx, hc1⟩ := ECL.inv hc
  obtain ⟨y, r2, e2, hy, hc2⟩ := ECL.inv hc1
  have e3 : r2 = [] := by apply List.eq_nil_of_length_eq_zero; have := hc2.1; simpa using this.symm
  have hx := ec_v hx
  have hy := ec_v hy
  subst hx; subst hy; subst e3; subst e2
  have eu : us = #[.string s, .int .i64 (c : Int)] := by apply Array.ext'; simpa using e1
  rw [eu]
  refine (h s c w (by omega) (by have := Nat.mul_le_mul h2 h1; omega)).mono ?_
  rintro e w' ⟨rfl, hb⟩
  exact ⟨γ, _, GLe.refl γ, hH.below hb, .v _, rfl⟩
noncomputable def strOf (a : EV) : Option ByteArray := match a with
  | .v (.string s) => some s
  | _ => none
/-- strings, all of them -/
noncomputable def strsOf (cs : List EV) : Option (List ByteArray) := List.rec (some []) (fun a _ ih => match strOf a with
  | some s => match ih with
    | some l => some (s :: l)
    | none => none
  | none => none) cs
theorem strsOf_eq : ∀ {cs : List EV} {l : List ByteArray}, strsOf cs = some l → cs = l.map fun s => .v (.string s)
  | [], l, h => by simp [strsOf] at h; subst h; rfl
  | a :: cs, l, h => by
    have h' : (match strOf a with
      | some s => match strsOf cs with
        | some l => some (s :: l)
        | none => none
      | none => none) = some l := h
    split at h'
    case h_2 => cases h'
    rename_i s hs
    split at h'
    case h_2 => cases h'
    rename_i l' hl
    injection h' with h'; subst h'
    unfold strOf at hs
    split at hs
    case h_2 => cases hs
    injection hs with hs; subst hs
    rw [strsOf_eq hl]; rfl
noncomputable def ctJoin : CT := fun args H n => match args with
  | [.v (.slice none 0 0), .v (.string _)] => some (.v (.string ⟨#[]⟩), H, n)
  | [.sl i _ off len _, .v (.string sep)] => match H.get i with
    | some (.cells _ cs _) => match strsOf ((cs.drop off).take len) with
      | some xs => bc (Nat.beq (llen xs) len) (bc (Nat.ble (llen (Lib.join (xs.map (·.data.toList)) sep.data.toList)) 65536) (bc (Nat.ble len 65536) (some (.v (.string ⟨(Lib.join (xs.map (·.data.toList)) sep.data.toList).toArray⟩), H, n)) none) none) none
      | none => none
    | _ => none
  | _ => none
theorem ctJoin_ok {f : FuncId} (h0 : ∀ (a : Option Addr) (c : Nat) (sep : ByteArray) (w : World), Calls P f #[.slice a 0 c, .string sep] w fun e w' => e = .returned (.string ⟨#[]⟩) ∧ w' = w)
    (h : ∀ (bk o c : Nat) (xs : List ByteArray) (sep : ByteArray) (w : World), (∀ (j : Nat) x, xs[j]? = some x → w.cell? ⟨bk, o + j, none⟩ = some (.string x)) → bk < w.heap.size → xs.length ≤ 140737488355328 → xs.length ≤ c → (Lib.join (xs.map (·.data.toList)) sep.data.toList).length ≤ 140737488355328 →
      Calls P f #[.slice (some ⟨bk, o, none⟩) xs.length c, .string sep] w fun e w' => e = .returned (.string ⟨(Lib.join (xs.map (·.data.toList)) sep.data.toList).toArray⟩) ∧ Below w.heap.size w w') : CtOk P f ctJoin := by
  intro γ w0 H n w args us a H' n' hH hc hr
  unfold ctJoin at hr
  split at hr
  · simp only [Option.some.injEq, Prod.mk.injEq] at hr
    obtain ⟨rfl, rfl, rfl⟩ := hr
    obtain ⟨x, r1, e1, hx, hc1⟩ := ECL.inv hc
    obtain ⟨y, r2, e2, hy, hc2⟩ := ECL.inv hc1
    have e3 : r2 = [] := by apply List.eq_nil_of_length_eq_zero; have := hc2.1; simpa using this.symm
    have hx := ec_v hx
    have hy := ec_v hy
    subst hx; subst hy; subst e3; subst e2
    rename_i sep
    have eu : us = #[.slice none 0 0, .string sep] := by apply Array.ext'; simpa using e1
    rw [eu]
    refine (h0 none 0 sep w).mono ?_
    rintro e w' ⟨rfl, rfl⟩
    exact ⟨γ, _, GLe.refl γ, hH, .v _, rfl⟩
  · rename_i i z off len cap sep
    split at hr
    case h_2 => cases hr
    rename_i ty cs full hg
    split at hr
    case h_2 => cases hr
    rename_i xs hxs
    rw [bc_eq, bc_eq, bc_eq] at hr
    split at hr
    case isFalse => cases hr
    rename_i hl1
    split at hr
    case isFalse => cases hr
    rename_i hl2
    split at hr
    case isFalse => cases hr
    rename_i hl3
    simp only [Option.some.injEq, Prod.mk.injEq] at hr
    obtain ⟨rfl, rfl, rfl⟩ := hr
    have hl1 := Nat.eq_of_beq_eq_true hl1
    have hl2 := Nat.le_of_ble_eq_true hl2
    have hl3 := Nat.le_of_ble_eq_true hl3
    rw [llen_eq] at hl1 hl2
    obtain ⟨x, r1, e1, hx, hc1⟩ := ECL.inv hc
    obtain ⟨y, r2, e2, hy, hc2⟩ := ECL.inv hc1
    have e3 : r2 = [] := by apply List.eq_nil_of_length_eq_zero; have := hc2.1; simpa using this.symm
    have hy := ec_v hy
    cases hx with
    | sl _ _ _ _ _ b m c hγ hle hm hn hcc hu =>
    subst hy; subst e3; subst e2
    have eu : us = #[.slice (some (b.at off)) len c, .string sep] := by apply Array.ext'; simpa using e1
    obtain ⟨b2, m2, g1, g2, ca, g3, g4, g5, _, g6⟩ := hH.hp i _ hg
    rw [hγ] at g1
    simp only [Option.some.injEq, Prod.mk.injEq] at g1
    obtain ⟨rfl, rfl⟩ := g1
    have hbk : b.k < w.heap.size := hH.lt i _ hγ
    rw [eu, ← hl1]
    refine (h b.k (b.s + off) c xs sep w (fun j x hj => ?_) hbk (by omega) (by omega) (by omega)).mono ?_
    · have hcs := strsOf_eq hxs
      have h1 : ((cs.drop off).take len)[j]? = some (.v (.string x)) := by rw [hcs, List.getElem?_map, hj]; rfl
      rw [List.getElem?_take] at h1
      split at h1
      case isFalse => cases h1
      rw [List.getElem?_drop] at h1
      obtain ⟨u, hu1, hu2⟩ := g6.at h1
      rw [List.getElem?_take] at hu1
      split at hu1
      case isFalse => cases hu1
      rw [List.getElem?_drop] at hu1
      have hu2 := ec_v hu2
      subst hu2
      have e4 : b.s + off + j = b.s + (off + j) := by omega
      have := (cell_of (off := off + j) g3).1
      unfold Pl.at at this
      rw [e4, this]
      simpa using hu1
    · rintro e w' ⟨rfl, hb⟩
      exact ⟨γ, _, GLe.refl γ, hH.below hb, .v _, rfl⟩
  · cases hr
end Go.Proofs.Ytojbgacoolanlaa.Ev
namespace Go.Proofs
open Go.Shelf
def Try.lays156_ren : Go.Shelf.Ren := ⟨fun | 156 => 53 | 165 => 47 | 166 => 48 | 169 => 50 | 240 => 64 | 241 => 65 | 276 => 68 | 277 => 69 | n => n, fun | 31 => 46 | 9 => 9 | 3 => 3 | 4 => 4 | 0 => 0 | 20 => 20 | 72 => 76 | 76 => 80 | 70 => 73 | 37 => 74 | 75 => 79 | 127 => 98 | 164 => 102 | 5 => 5 | 80 => 83 | n => n, fun | n => n⟩
theorem Try.lays156 : Go.Proofs.Lays.n156 Try.prog Try.lays156_ren := {
  mixed := by kernel_rfl
  f156 := Try.func53.trans (congrArg some (by kernel_rfl))
  f165 := Try.func47.trans (congrArg some (by kernel_rfl))
  f166 := Try.func48.trans (congrArg some (by kernel_rfl))
  f169 := Try.func50.trans (congrArg some (by kernel_rfl))
  f240 := Try.func64.trans (congrArg some (by kernel_rfl))
  f241 := Try.func65.trans (congrArg some (by kernel_rfl))
  f276 := Try.func68.trans (congrArg some (by kernel_rfl))
  f277 := Try.func69.trans (congrArg some (by kernel_rfl))
  t0 := Try.underlying0
  a0 := Try.isAgg0
  z0 := Try.sizeOf0
  v0 := Try.zeroValue0
  t3 := Try.underlying3
  a3 := Try.isAgg3
  z3 := Try.sizeOf3
  v3 := Try.zeroValue3
  t4 := Try.underlying4
  a4 := Try.isAgg4
  z4 := Try.sizeOf4
  v4 := Try.zeroValue4
  t9 := Try.underlying9
  a9 := Try.isAgg9
  z9 := Try.sizeOf9
  v9 := Try.zeroValue9
  t20 := Try.underlying20
  a20 := Try.isAgg20
  z20 := Try.sizeOf20
  v20 := Try.zeroValue20
  t31 := Try.underlying46
  a31 := Try.isAgg46
  z31 := Try.sizeOf46
  v31 := Try.zeroValue46
  t37 := Try.underlying74
  a37 := Try.isAgg74
  z37 := Try.sizeOf74
  v37 := Try.zeroValue74
  t70 := Try.underlying73
  a70 := Try.isAgg73
  z70 := Try.sizeOf73
  v70 := Try.zeroValue73
  t72 := Try.underlying76
  a72 := Try.isAgg76
  z72 := Try.sizeOf76
  v72 := Try.zeroValue76
  t75 := Try.underlying79
  a75 := Try.isAgg79
  z75 := Try.sizeOf79
  v75 := Try.zeroValue79
  t76 := Try.underlying80
  a76 := Try.isAgg80
  z76 := Try.sizeOf80
  v76 := Try.zeroValue80
  t127 := Try.underlying98
  a127 := Try.isAgg98
  z127 := Try.sizeOf98
  v127 := Try.zeroValue98
  t164 := Try.underlying102
  a164 := Try.isAgg102
  z164 := Try.sizeOf102
  v164 := Try.zeroValue102 }
theorem Try.Builder_Extra_156 : Builder.Extra Try.prog Try.lays156_ren := {
  sizeBuilder := by kernel_rfl
  liesBuilder := by kernel_rfl
  t5 := Try.underlying5
  a5 := Try.isAgg5
  z5 := Try.sizeOf5
  v5 := Try.zeroValue5
  infoByte := by kernel_rfl
  cellsByte := by kernel_rfl
  sizeByte := by kernel_rfl
  neB5 := by decide }
open Go.RowKit in
theorem Try.strings_Join_none (a : Option Addr) (c : Nat) (sep : ByteArray) (w : World) :
    Calls Try.prog 53 #[.slice a 0 c, .string sep] w fun e w' => e = .returned (.string ⟨#[]⟩) ∧ w' = w := Any.strings_Join_none Try.lays156 Try.Builder_Extra_156 a c sep w
open Go.RowKit in
theorem Try.strings_Join (bk o c : Nat) (xs : List ByteArray) (sep : ByteArray) (w : World) (hcells : ∀ (j : Nat) x, xs[j]? = some x → w.cell? ⟨bk, o + j, none⟩ = some (.string x)) (hbk : bk < w.heap.size) (hN : xs.length ≤ 140737488355328) (hcap : xs.length ≤ c) (hlen : (Lib.join (xs.map (·.data.toList)) sep.data.toList).length ≤ 140737488355328) :
    Calls Try.prog 53 #[.slice (some ⟨bk, o, none⟩) xs.length c, .string sep] w fun e w' => e = .returned (.string ⟨(Lib.join (xs.map (·.data.toList)) sep.data.toList).toArray⟩) ∧ Below w.heap.size w w' := Any.strings_Join Try.lays156 Try.Builder_Extra_156 bk o c xs sep w hcells hbk hN hcap hlen
def Try.lays105_ren : Go.Shelf.Ren := ⟨fun | 105 => 35 | 212 => 45 | 99 => 46 | 165 => 47 | 166 => 48 | 170 => 49 | 169 => 50 | 263 => 61 | 264 => 62 | 206 => 63 | 240 => 64 | 241 => 65 | 276 => 68 | 277 => 69 | n => n, fun | 9 => 9 | 3 => 3 | 4 => 4 | 20 => 20 | 0 => 0 | 46 => 69 | 109 => 70 | 5 => 5 | 72 => 76 | 76 => 80 | 51 => 92 | 146 => 93 | 53 => 95 | 148 => 96 | 70 => 73 | 37 => 74 | 75 => 79 | 127 => 98 | 164 => 102 | 80 => 83 | n => n, fun | n => n⟩
theorem Try.lays105 : Go.Proofs.Lays.n105 Try.prog Try.lays105_ren := {
  mixed := by kernel_rfl
  f99 := Try.func46.trans (congrArg some (by kernel_rfl))
  f105 := Try.func35.trans (congrArg some (by kernel_rfl))
  f165 := Try.func47.trans (congrArg some (by kernel_rfl))
  f166 := Try.func48.trans (congrArg some (by kernel_rfl))
  f169 := Try.func50.trans (congrArg some (by kernel_rfl))
  f170 := Try.func49.trans (congrArg some (by kernel_rfl))
  f206 := Try.func63.trans (congrArg some (by kernel_rfl))
  f212 := Try.func45.trans (congrArg some (by kernel_rfl))
  f240 := Try.func64.trans (congrArg some (by kernel_rfl))
  f241 := Try.func65.trans (congrArg some (by kernel_rfl))
  f263 := Try.func61.trans (congrArg some (by kernel_rfl))
  f264 := Try.func62.trans (congrArg some (by kernel_rfl))
  f276 := Try.func68.trans (congrArg some (by kernel_rfl))
  f277 := Try.func69.trans (congrArg some (by kernel_rfl))
  t0 := Try.underlying0
  a0 := Try.isAgg0
  z0 := Try.sizeOf0
  v0 := Try.zeroValue0
  t3 := Try.underlying3
  a3 := Try.isAgg3
  z3 := Try.sizeOf3
  v3 := Try.zeroValue3
  t4 := Try.underlying4
  a4 := Try.isAgg4
  z4 := Try.sizeOf4
  v4 := Try.zeroValue4
  t5 := Try.underlying5
  a5 := Try.isAgg5
  z5 := Try.sizeOf5
  v5 := Try.zeroValue5
  t9 := Try.underlying9
  a9 := Try.isAgg9
  z9 := Try.sizeOf9
  v9 := Try.zeroValue9
  t20 := Try.underlying20
  a20 := Try.isAgg20
  z20 := Try.sizeOf20
  v20 := Try.zeroValue20
  t37 := Try.underlying74
  a37 := Try.isAgg74
  z37 := Try.sizeOf74
  v37 := Try.zeroValue74
  t46 := Try.underlying69
  a46 := Try.isAgg69
  z46 := Try.sizeOf69
  v46 := Try.zeroValue69
  t51 := Try.underlying92
  a51 := Try.isAgg92
  z51 := Try.sizeOf92
  v51 := Try.zeroValue92
  t53 := Try.underlying95
  a53 := Try.isAgg95
  z53 := Try.sizeOf95
  v53 := Try.zeroValue95
  t70 := Try.underlying73
  a70 := Try.isAgg73
  z70 := Try.sizeOf73
  v70 := Try.zeroValue73
  t72 := Try.underlying76
  a72 := Try.isAgg76
  z72 := Try.sizeOf76
  v72 := Try.zeroValue76
  t75 := Try.underlying79
  a75 := Try.isAgg79
  z75 := Try.sizeOf79
  v75 := Try.zeroValue79
  t76 := Try.underlying80
  a76 := Try.isAgg80
  z76 := Try.sizeOf80
  v76 := Try.zeroValue80
  t109 := Try.underlying70
  a109 := Try.isAgg70
  z109 := Try.sizeOf70
  v109 := Try.zeroValue70
  t127 := Try.underlying98
  a127 := Try.isAgg98
  z127 := Try.sizeOf98
  v127 := Try.zeroValue98
  t146 := Try.underlying93
  a146 := Try.isAgg93
  z146 := Try.sizeOf93
  v146 := Try.zeroValue93
  t148 := Try.underlying96
  a148 := Try.isAgg96
  z148 := Try.sizeOf96
  v148 := Try.zeroValue96
  t164 := Try.underlying102
  a164 := Try.isAgg102
  z164 := Try.sizeOf102
  v164 := Try.zeroValue102 }
theorem Try.Builder_Extra_105 : Builder.Extra Try.prog Try.lays105_ren := {
  sizeBuilder := by kernel_rfl
  liesBuilder := by kernel_rfl
  t5 := Try.underlying5
  a5 := Try.isAgg5
  z5 := Try.sizeOf5
  v5 := Try.zeroValue5
  infoByte := by kernel_rfl
  cellsByte := by kernel_rfl
  sizeByte := by kernel_rfl
  neB5 := by decide }
open Go.RowKit Go.Lib in
theorem Try.strings_Repeat (s : ByteArray) (c : Nat) (w : World) (hc : c ≤ 9223372036854775807) (hlen : s.size * c ≤ 140737488355328) :
    Calls Try.prog 35 #[.string s, .int .i64 c] w fun e w' => e = .returned (.string ⟨(Lib.repeatL s.data.toList c).toArray⟩) ∧ Below w.heap.size w w' := Any.strings_Repeat Try.lays105 Try.Builder_Extra_105 s c w hc hlen
def Try.lays112_ren : Go.Shelf.Ren := ⟨fun | 112 => 52 | n => n, fun | 28 => 28 | 3 => 3 | 4 => 4 | 0 => 0 | n => n, fun | n => n⟩
theorem Try.lays112 : Go.Proofs.Lays.n112 Try.prog Try.lays112_ren := {
  mixed := by kernel_rfl
  f112 := Try.func52.trans (congrArg some (by kernel_rfl))
  t0 := Try.underlying0
  a0 := Try.isAgg0
  z0 := Try.sizeOf0
  v0 := Try.zeroValue0
  t3 := Try.underlying3
  a3 := Try.isAgg3
  z3 := Try.sizeOf3
  v3 := Try.zeroValue3
  t4 := Try.underlying4
  a4 := Try.isAgg4
  z4 := Try.sizeOf4
  v4 := Try.zeroValue4
  t28 := Try.underlying28
  a28 := Try.isAgg28
  z28 := Try.sizeOf28
  v28 := Try.zeroValue28 }
def Try.laysNm215_ren : Go.Shelf.Ren := ⟨fun | 15 => 51 | n => n, fun | 22 => 28 | 3 => 3 | 4 => 4 | n => n, fun | n => n⟩
theorem Try.laysNm215 : Go.Proofs.Lays2.n15 Try.prog Try.laysNm215_ren := {
  mixed := by kernel_rfl
  f15 := Try.func51.trans (congrArg some (by kernel_rfl))
  t3 := Try.underlying3
  a3 := Try.isAgg3
  z3 := Try.sizeOf3
  v3 := Try.zeroValue3
  t4 := Try.underlying4
  a4 := Try.isAgg4
  z4 := Try.sizeOf4
  v4 := Try.zeroValue4
  t22 := Try.underlying28
  a22 := Try.isAgg28
  z22 := Try.sizeOf28
  v22 := Try.zeroValue28
  i3 := by kernel_rfl }
open Go.RowKit Go.Lib in
theorem Try.slices_Clone_int (b off n c : Nat) (zs : List Int) (w : World) (hz : n ≤ zs.length) (hbig : n * 8 ≤ 140737488355328) (hc : ∀ j, j < zs.length → w.cell? ⟨b, off + j, none⟩ = some (.int .i64 (zs.getD j 0))) :
    Calls Try.prog 51 #[.slice (some ⟨b, off, none⟩) n c] w fun e w' => ∃ v', e = .returned v' ∧ w'.ownsRow w.heap.size 3 1 v' n ((zs.take n).map (Value.int .i64)) ∧ v' ≠ .slice none 0 0 ∧ Below w.heap.size w w' := Any.slices_Clone_int Try.laysNm215 b off n c zs w hz hbig hc
open Go.RowKit Go.Lib in
theorem Try.slices_Clone_int_nil (n c : Nat) (w : World) :
    Calls Try.prog 51 #[.slice none n c] w fun e w' => e = .returned (.slice none 0 0) ∧ w' = w := Any.slices_Clone_int_nil Try.laysNm215 n c w
open Go.RowKit Go.Lib in
theorem Try.slices_Clone_int_zero (a : Addr) (c : Nat) (w : World) :
    Calls Try.prog 51 #[.slice (some a) 0 c] w fun e w' => ∃ v', e = .returned v' ∧ w'.ownsRow w.heap.size 3 1 v' 0 [] ∧ v' ≠ .slice none 0 0 ∧ Below w.heap.size w w' := Any.slices_Clone_int_zero Try.laysNm215 a c w
open Go.RowKit Go.Lib Go.Sort in
theorem Try.slices_Reverse_int_cells (b off n c : Nat) (zs : List Int) (w : World) (hz : n ≤ zs.length) (hbig : n ≤ 9223372036854775807) (hc : ∀ j, j < zs.length → w.cell? ⟨b, off + j, none⟩ = some (.int .i64 (zs.getD j 0))) (hf : ∀ j, j < n → w.frozen? ⟨b, off + j, none⟩ = false) :
    Calls Try.prog 52 #[.slice (some ⟨b, off, none⟩) n c] w fun e w' => e = .returned (.tuple #[]) ∧ ∃ q, w' = (w.drewN q).setCells b off ((zs.take n).reverse.map (Value.int .i64)) := Any.slices_Reverse_int_cells Try.lays112 b off n c zs w hz hbig hc hf
end Go.Proofs
namespace Go.Proofs.Ytojbgacoolanlaa.Ev
open Go.Proofs
theorem joinOk : CtOk Try.prog 53 ctJoin := ctJoin_ok Try.strings_Join_none Try.strings_Join
theorem repeatOk : CtOk Try.prog 35 ctRepeat := ctRepeat_ok Try.strings_Repeat
end Go.Proofs.Ytojbgacoolanlaa.Ev
namespace Go.Proofs.Ytojbgacoolanlaa.Ev
open Go.Proofs
noncomputable def ft0 : Tr FI := .nil
theorem ft0Ok : FTok Try.prog ft0 := FTok.nil _
noncomputable def ft1 : Tr FI := ft0.put 2 (some (ofFunc Try.f2))
theorem ft1Ok : FTok Try.prog ft1 := ft0Ok.add (by kernel_rfl) Try.func2 (by kernel_rfl) (by kernel_rfl)
noncomputable def ft2 : Tr FI := ft1.put 3 (some (ofFunc Try.f3))
theorem ft2Ok : FTok Try.prog ft2 := ft1Ok.add (by kernel_rfl) Try.func3 (by kernel_rfl) (by kernel_rfl)
noncomputable def ft3 : Tr FI := ft2.put 4 (some (ofFunc Try.f4))
theorem ft3Ok : FTok Try.prog ft3 := ft2Ok.add (by kernel_rfl) Try.func4 (by kernel_rfl) (by kernel_rfl)
noncomputable def ft4 : Tr FI := ft3.put 5 (some (ofFunc Try.f5))
theorem ft4Ok : FTok Try.prog ft4 := ft3Ok.add (by kernel_rfl) Try.func5 (by kernel_rfl) (by kernel_rfl)
noncomputable def ft5 : Tr FI := ft4.put 6 (some (ofFunc Try.f6))
theorem ft5Ok : FTok Try.prog ft5 := ft4Ok.add (by kernel_rfl) Try.func6 (by kernel_rfl) (by kernel_rfl)
noncomputable def ft6 : Tr FI := ft5.put 7 (some (ofFunc Try.f7))
theorem ft6Ok : FTok Try.prog ft6 := ft5Ok.add (by kernel_rfl) Try.func7 (by kernel_rfl) (by kernel_rfl)
noncomputable def ft7 : Tr FI := ft6.put 8 (some (ofFunc Try.f8))
theorem ft7Ok : FTok Try.prog ft7 := ft6Ok.add (by kernel_rfl) Try.func8 (by kernel_rfl) (by kernel_rfl)
noncomputable def ft8 : Tr FI := ft7.put 9 (some (ofFunc Try.f9))
theorem ft8Ok : FTok Try.prog ft8 := ft7Ok.add (by kernel_rfl) Try.func9 (by kernel_rfl) (by kernel_rfl)
noncomputable def ft9 : Tr FI := ft8.put 10 (some (ofFunc Try.f10))
theorem ft9Ok : FTok Try.prog ft9 := ft8Ok.add (by kernel_rfl) Try.func10 (by kernel_rfl) (by kernel_rfl)
noncomputable def ft10 : Tr FI := ft9.put 11 (some (ofFunc Try.f11))
theorem ft10Ok : FTok Try.prog ft10 := ft9Ok.add (by kernel_rfl) Try.func11 (by kernel_rfl) (by kernel_rfl)
noncomputable def ft11 : Tr FI := ft10.put 12 (some (ofFunc Try.f12))
theorem ft11Ok : FTok Try.prog ft11 := ft10Ok.add (by kernel_rfl) Try.func12 (by kernel_rfl) (by kernel_rfl)
noncomputable def ft12 : Tr FI := ft11.put 13 (some (ofFunc Try.f13))
theorem ft12Ok : FTok Try.prog ft12 := ft11Ok.add (by kernel_rfl) Try.func13 (by kernel_rfl) (by kernel_rfl)
noncomputable def ft13 : Tr FI := ft12.put 14 (some (ofFunc Try.f14))
theorem ft13Ok : FTok Try.prog ft13 := ft12Ok.add (by kernel_rfl) Try.func14 (by kernel_rfl) (by kernel_rfl)
noncomputable def ft14 : Tr FI := ft13.put 15 (some (ofFunc Try.f15))
theorem ft14Ok : FTok Try.prog ft14 := ft13Ok.add (by kernel_rfl) Try.func15 (by kernel_rfl) (by kernel_rfl)
noncomputable def ft15 : Tr FI := ft14.put 16 (some (ofFunc Try.f16))
theorem ft15Ok : FTok Try.prog ft15 := ft14Ok.add (by kernel_rfl) Try.func16 (by kernel_rfl) (by kernel_rfl)
noncomputable def ft16 : Tr FI := ft15.put 17 (some (ofFunc Try.f17))
theorem ft16Ok : FTok Try.prog ft16 := ft15Ok.add (by kernel_rfl) Try.func17 (by kernel_rfl) (by kernel_rfl)
noncomputable def ft17 : Tr FI := ft16.put 18 (some (ofFunc Try.f18))
theorem ft17Ok : FTok Try.prog ft17 := ft16Ok.add (by kernel_rfl) Try.func18 (by kernel_rfl) (by kernel_rfl)
noncomputable def ft18 : Tr FI := ft17.put 19 (some (ofFunc Try.f19))
theorem ft18Ok : FTok Try.prog ft18 := ft17Ok.add (by kernel_rfl) Try.func19 (by kernel_rfl) (by kernel_rfl)
noncomputable def ft19 : Tr FI := ft18.put 20 (some (ofFunc Try.f20))
theorem ft19Ok : FTok Try.prog ft19 := ft18Ok.add (by kernel_rfl) Try.func20 (by kernel_rfl) (by kernel_rfl)
noncomputable def ft20 : Tr FI := ft19.put 21 (some (ofFunc Try.f21))
theorem ft20Ok : FTok Try.prog ft20 := ft19Ok.add (by kernel_rfl) Try.func21 (by kernel_rfl) (by kernel_rfl)
noncomputable def ft21 : Tr FI := ft20.put 22 (some (ofFunc Try.f22))
theorem ft21Ok : FTok Try.prog ft21 := ft20Ok.add (by kernel_rfl) Try.func22 (by kernel_rfl) (by kernel_rfl)
noncomputable def ft22 : Tr FI := ft21.put 23 (some (ofFunc Try.f23))
theorem ft22Ok : FTok Try.prog ft22 := ft21Ok.add (by kernel_rfl) Try.func23 (by kernel_rfl) (by kernel_rfl)
noncomputable def ft23 : Tr FI := ft22.put 24 (some (ofFunc Try.f24))
theorem ft23Ok : FTok Try.prog ft23 := ft22Ok.add (by kernel_rfl) Try.func24 (by kernel_rfl) (by kernel_rfl)
noncomputable def ft24 : Tr FI := ft23.put 25 (some (ofFunc Try.f25))
theorem ft24Ok : FTok Try.prog ft24 := ft23Ok.add (by kernel_rfl) Try.func25 (by kernel_rfl) (by kernel_rfl)
noncomputable def ft25 : Tr FI := ft24.put 26 (some (ofFunc Try.f26))
theorem ft25Ok : FTok Try.prog ft25 := ft24Ok.add (by kernel_rfl) Try.func26 (by kernel_rfl) (by kernel_rfl)
noncomputable def ft26 : Tr FI := ft25.put 27 (some (ofFunc Try.f27))
theorem ft26Ok : FTok Try.prog ft26 := ft25Ok.add (by kernel_rfl) Try.func27 (by kernel_rfl) (by kernel_rfl)
noncomputable def ft27 : Tr FI := ft26.put 28 (some (ofFunc Try.f28))
theorem ft27Ok : FTok Try.prog ft27 := ft26Ok.add (by kernel_rfl) Try.func28 (by kernel_rfl) (by kernel_rfl)
noncomputable def ft28 : Tr FI := ft27.put 29 (some (ofFunc Try.f29))
theorem ft28Ok : FTok Try.prog ft28 := ft27Ok.add (by kernel_rfl) Try.func29 (by kernel_rfl) (by kernel_rfl)
noncomputable def ft29 : Tr FI := ft28.put 30 (some (ofFunc Try.f30))
theorem ft29Ok : FTok Try.prog ft29 := ft28Ok.add (by kernel_rfl) Try.func30 (by kernel_rfl) (by kernel_rfl)
noncomputable def ft30 : Tr FI := ft29.put 31 (some (ofFunc Try.f31))
theorem ft30Ok : FTok Try.prog ft30 := ft29Ok.add (by kernel_rfl) Try.func31 (by kernel_rfl) (by kernel_rfl)
noncomputable def ft31 : Tr FI := ft30.put 32 (some (ofFunc Try.f32))
theorem ft31Ok : FTok Try.prog ft31 := ft30Ok.add (by kernel_rfl) Try.func32 (by kernel_rfl) (by kernel_rfl)
noncomputable def ft32 : Tr FI := ft31.put 33 (some (ofFunc Try.f33))
theorem ft32Ok : FTok Try.prog ft32 := ft31Ok.add (by kernel_rfl) Try.func33 (by kernel_rfl) (by kernel_rfl)
noncomputable def ft33 : Tr FI := ft32.put 34 (some (ofFunc Try.f34))
theorem ft33Ok : FTok Try.prog ft33 := ft32Ok.add (by kernel_rfl) Try.func34 (by kernel_rfl) (by kernel_rfl)
noncomputable def ft34 : Tr FI := ft33.put 35 (some (ofFuncC Try.f35 ctRepeat))
theorem ft34Ok : FTok Try.prog ft34 := ft33Ok.addC (by kernel_rfl) Try.func35 (by kernel_rfl) (by kernel_rfl) repeatOk
noncomputable def ft35 : Tr FI := ft34.put 36 (some (ofFunc Try.f36))
theorem ft35Ok : FTok Try.prog ft35 := ft34Ok.add (by kernel_rfl) Try.func36 (by kernel_rfl) (by kernel_rfl)
noncomputable def ft36 : Tr FI := ft35.put 37 (some (ofFunc Try.f37))
theorem ft36Ok : FTok Try.prog ft36 := ft35Ok.add (by kernel_rfl) Try.func37 (by kernel_rfl) (by kernel_rfl)
noncomputable def ft37 : Tr FI := ft36.put 38 (some (ofFunc Try.f38))
theorem ft37Ok : FTok Try.prog ft37 := ft36Ok.add (by kernel_rfl) Try.func38 (by kernel_rfl) (by kernel_rfl)
noncomputable def ft38 : Tr FI := ft37.put 39 (some (ofFunc Try.f39))
theorem ft38Ok : FTok Try.prog ft38 := ft37Ok.add (by kernel_rfl) Try.func39 (by kernel_rfl) (by kernel_rfl)
noncomputable def ft39 : Tr FI := ft38.put 40 (some (ofFunc Try.f40))
theorem ft39Ok : FTok Try.prog ft39 := ft38Ok.add (by kernel_rfl) Try.func40 (by kernel_rfl) (by kernel_rfl)
noncomputable def ft40 : Tr FI := ft39.put 41 (some (ofFunc Try.f41))
theorem ft40Ok : FTok Try.prog ft40 := ft39Ok.add (by kernel_rfl) Try.func41 (by kernel_rfl) (by kernel_rfl)
noncomputable def ft41 : Tr FI := ft40.put 42 (some (ofFunc Try.f42))
theorem ft41Ok : FTok Try.prog ft41 := ft40Ok.add (by kernel_rfl) Try.func42 (by kernel_rfl) (by kernel_rfl)
noncomputable def ft42 : Tr FI := ft41.put 43 (some (ofFunc Try.f43))
theorem ft42Ok : FTok Try.prog ft42 := ft41Ok.add (by kernel_rfl) Try.func43 (by kernel_rfl) (by kernel_rfl)
noncomputable def ft43 : Tr FI := ft42.put 44 (some (ofFunc Try.f44))
theorem ft43Ok : FTok Try.prog ft43 := ft42Ok.add (by kernel_rfl) Try.func44 (by kernel_rfl) (by kernel_rfl)
noncomputable def ft44 : Tr FI := ft43.put 45 (some (ofFunc Try.f45))
theorem ft44Ok : FTok Try.prog ft44 := ft43Ok.add (by kernel_rfl) Try.func45 (by kernel_rfl) (by kernel_rfl)
noncomputable def ft45 : Tr FI := ft44.put 46 (some (ofFunc Try.f46))
theorem ft45Ok : FTok Try.prog ft45 := ft44Ok.add (by kernel_rfl) Try.func46 (by kernel_rfl) (by kernel_rfl)
noncomputable def ft46 : Tr FI := ft45.put 47 (some (ofFunc Try.f47))
theorem ft46Ok : FTok Try.prog ft46 := ft45Ok.add (by kernel_rfl) Try.func47 (by kernel_rfl) (by kernel_rfl)
noncomputable def ft47 : Tr FI := ft46.put 48 (some (ofFunc Try.f48))
theorem ft47Ok : FTok Try.prog ft47 := ft46Ok.add (by kernel_rfl) Try.func48 (by kernel_rfl) (by kernel_rfl)
noncomputable def ft48 : Tr FI := ft47.put 49 (some (ofFunc Try.f49))
theorem ft48Ok : FTok Try.prog ft48 := ft47Ok.add (by kernel_rfl) Try.func49 (by kernel_rfl) (by kernel_rfl)
noncomputable def ft49 : Tr FI := ft48.put 50 (some (ofFunc Try.f50))
theorem ft49Ok : FTok Try.prog ft49 := ft48Ok.add (by kernel_rfl) Try.func50 (by kernel_rfl) (by kernel_rfl)
noncomputable def ft50 : Tr FI := ft49.put 51 (some (ofFunc Try.f51))
theorem ft50Ok : FTok Try.prog ft50 := ft49Ok.add (by kernel_rfl) Try.func51 (by kernel_rfl) (by kernel_rfl)
noncomputable def ft51 : Tr FI := ft50.put 52 (some (ofFunc Try.f52))
theorem ft51Ok : FTok Try.prog ft51 := ft50Ok.add (by kernel_rfl) Try.func52 (by kernel_rfl) (by kernel_rfl)
noncomputable def ft52 : Tr FI := ft51.put 53 (some (ofFuncC Try.f53 ctJoin))
theorem ft52Ok : FTok Try.prog ft52 := ft51Ok.addC (by kernel_rfl) Try.func53 (by kernel_rfl) (by kernel_rfl) joinOk
noncomputable def ft53 : Tr FI := ft52.put 54 (some (ofFunc Try.f54))
theorem ft53Ok : FTok Try.prog ft53 := ft52Ok.add (by kernel_rfl) Try.func54 (by kernel_rfl) (by kernel_rfl)
noncomputable def ft54 : Tr FI := ft53.put 55 (some (ofFunc Try.f55))
theorem ft54Ok : FTok Try.prog ft54 := ft53Ok.add (by kernel_rfl) Try.func55 (by kernel_rfl) (by kernel_rfl)
noncomputable def ft55 : Tr FI := ft54.put 56 (some (ofFunc Try.f56))
theorem ft55Ok : FTok Try.prog ft55 := ft54Ok.add (by kernel_rfl) Try.func56 (by kernel_rfl) (by kernel_rfl)
noncomputable def ft56 : Tr FI := ft55.put 57 (some (ofFunc Try.f57))
theorem ft56Ok : FTok Try.prog ft56 := ft55Ok.add (by kernel_rfl) Try.func57 (by kernel_rfl) (by kernel_rfl)
noncomputable def ft57 : Tr FI := ft56.put 58 (some (ofFunc Try.f58))
theorem ft57Ok : FTok Try.prog ft57 := ft56Ok.add (by kernel_rfl) Try.func58 (by kernel_rfl) (by kernel_rfl)
noncomputable def ft58 : Tr FI := ft57.put 59 (some (ofFunc Try.f59))
theorem ft58Ok : FTok Try.prog ft58 := ft57Ok.add (by kernel_rfl) Try.func59 (by kernel_rfl) (by kernel_rfl)
noncomputable def ft59 : Tr FI := ft58.put 60 (some (ofFunc Try.f60))
theorem ft59Ok : FTok Try.prog ft59 := ft58Ok.add (by kernel_rfl) Try.func60 (by kernel_rfl) (by kernel_rfl)
noncomputable def ft60 : Tr FI := ft59.put 61 (some (ofFunc Try.f61))
theorem ft60Ok : FTok Try.prog ft60 := ft59Ok.add (by kernel_rfl) Try.func61 (by kernel_rfl) (by kernel_rfl)
noncomputable def ft61 : Tr FI := ft60.put 62 (some (ofFunc Try.f62))
theorem ft61Ok : FTok Try.prog ft61 := ft60Ok.add (by kernel_rfl) Try.func62 (by kernel_rfl) (by kernel_rfl)
noncomputable def ft62 : Tr FI := ft61.put 63 (some (ofFunc Try.f63))
theorem ft62Ok : FTok Try.prog ft62 := ft61Ok.add (by kernel_rfl) Try.func63 (by kernel_rfl) (by kernel_rfl)
noncomputable def ft63 : Tr FI := ft62.put 64 (some (ofFunc Try.f64))
theorem ft63Ok : FTok Try.prog ft63 := ft62Ok.add (by kernel_rfl) Try.func64 (by kernel_rfl) (by kernel_rfl)
noncomputable def ft64 : Tr FI := ft63.put 65 (some (ofFunc Try.f65))
theorem ft64Ok : FTok Try.prog ft64 := ft63Ok.add (by kernel_rfl) Try.func65 (by kernel_rfl) (by kernel_rfl)
noncomputable def ft65 : Tr FI := ft64.put 66 (some (ofFunc Try.f66))
theorem ft65Ok : FTok Try.prog ft65 := ft64Ok.add (by kernel_rfl) Try.func66 (by kernel_rfl) (by kernel_rfl)
noncomputable def ft66 : Tr FI := ft65.put 67 (some (ofFunc Try.f67))
theorem ft66Ok : FTok Try.prog ft66 := ft65Ok.add (by kernel_rfl) Try.func67 (by kernel_rfl) (by kernel_rfl)
noncomputable def ft67 : Tr FI := ft66.put 70 (some (ofFunc Try.f70))
theorem ft67Ok : FTok Try.prog ft67 := ft66Ok.add (by kernel_rfl) Try.func70 (by kernel_rfl) (by kernel_rfl)
noncomputable def ft68 : Tr FI := ft67.put 71 (some (ofFunc Try.f71))
theorem ft68Ok : FTok Try.prog ft68 := ft67Ok.add (by kernel_rfl) Try.func71 (by kernel_rfl) (by kernel_rfl)
noncomputable def ft69 : Tr FI := ft68.put 72 (some (ofFunc Try.f72))
theorem ft69Ok : FTok Try.prog ft69 := ft68Ok.add (by kernel_rfl) Try.func72 (by kernel_rfl) (by kernel_rfl)
noncomputable def ft : Tr FI := (.node none (.node none (.node none (.node none (.node none (.node none (.node none .nil (.node (some (ofFunc Try.f64)) .nil .nil)) (.node (some (ofFunc Try.f32)) .nil .nil)) (.node (some (ofFunc Try.f16)) .nil (.node (some (ofFunc Try.f48)) .nil .nil))) (.node (some (ofFunc Try.f8)) (.node none (.node none .nil (.node (some (ofFunc Try.f72)) .nil .nil)) (.node (some (ofFunc Try.f40)) .nil .nil)) (.node (some (ofFunc Try.f24)) .nil (.node (some (ofFunc Try.f56)) .nil .nil)))) (.node (some (ofFunc Try.f4)) (.node none (.node none .nil (.node (some (ofFunc Try.f36)) .nil .nil)) (.node (some (ofFunc Try.f20)) .nil (.node (some (ofFunc Try.f52)) .nil .nil))) (.node (some (ofFunc Try.f12)) (.node none .nil (.node (some (ofFunc Try.f44)) .nil .nil)) (.node (some (ofFunc Try.f28)) .nil (.node (some (ofFunc Try.f60)) .nil .nil))))) (.node (some (ofFunc Try.f2)) (.node none (.node none (.node none (.node none .nil (.node (some (ofFunc Try.f66)) .nil .nil)) (.node (some (ofFunc Try.f34)) .nil .nil)) (.node (some (ofFunc Try.f18)) .nil (.node (some (ofFunc Try.f50)) .nil .nil))) (.node (some (ofFunc Try.f10)) (.node none .nil (.node (some (ofFunc Try.f42)) .nil .nil)) (.node (some (ofFunc Try.f26)) .nil (.node (some (ofFunc Try.f58)) .nil .nil)))) (.node (some (ofFunc Try.f6)) (.node none (.node none (.node none .nil (.node (some (ofFunc Try.f70)) .nil .nil)) (.node (some (ofFunc Try.f38)) .nil .nil)) (.node (some (ofFunc Try.f22)) .nil (.node (some (ofFunc Try.f54)) .nil .nil))) (.node (some (ofFunc Try.f14)) (.node none .nil (.node (some (ofFunc Try.f46)) .nil .nil)) (.node (some (ofFunc Try.f30)) .nil (.node (some (ofFunc Try.f62)) .nil .nil)))))) (.node none (.node none (.node none (.node none (.node none (.node none .nil (.node (some (ofFunc Try.f65)) .nil .nil)) (.node (some (ofFunc Try.f33)) .nil .nil)) (.node (some (ofFunc Try.f17)) .nil (.node (some (ofFunc Try.f49)) .nil .nil))) (.node (some (ofFunc Try.f9)) (.node none .nil (.node (some (ofFunc Try.f41)) .nil .nil)) (.node (some (ofFunc Try.f25)) .nil (.node (some (ofFunc Try.f57)) .nil .nil)))) (.node (some (ofFunc Try.f5)) (.node none (.node none .nil (.node (some (ofFunc Try.f37)) .nil .nil)) (.node (some (ofFunc Try.f21)) .nil (.node (some (ofFuncC Try.f53 ctJoin)) .nil .nil))) (.node (some (ofFunc Try.f13)) (.node none .nil (.node (some (ofFunc Try.f45)) .nil .nil)) (.node (some (ofFunc Try.f29)) .nil (.node (some (ofFunc Try.f61)) .nil .nil))))) (.node (some (ofFunc Try.f3)) (.node none (.node none (.node none (.node none .nil (.node (some (ofFunc Try.f67)) .nil .nil)) (.node (some (ofFuncC Try.f35 ctRepeat)) .nil .nil)) (.node (some (ofFunc Try.f19)) .nil (.node (some (ofFunc Try.f51)) .nil .nil))) (.node (some (ofFunc Try.f11)) (.node none .nil (.node (some (ofFunc Try.f43)) .nil .nil)) (.node (some (ofFunc Try.f27)) .nil (.node (some (ofFunc Try.f59)) .nil .nil)))) (.node (some (ofFunc Try.f7)) (.node none (.node none (.node none .nil (.node (some (ofFunc Try.f71)) .nil .nil)) (.node (some (ofFunc Try.f39)) .nil .nil)) (.node (some (ofFunc Try.f23)) .nil (.node (some (ofFunc Try.f55)) .nil .nil))) (.node (some (ofFunc Try.f15)) (.node none .nil (.node (some (ofFunc Try.f47)) .nil .nil)) (.node (some (ofFunc Try.f31)) .nil (.node (some (ofFunc Try.f63)) .nil .nil)))))))
theorem ftOk : FTok Try.prog ft := (show ft69 = ft by kernel_rfl) ▸ ft69Ok
end Go.Proofs.Ytojbgacoolanlaa.Ev
namespace Go.Proofs.Ytojbgacoolanlaa.Ev
open Go.Proofs
noncomputable def dr4 := drD Try.prog ft 16 4
noncomputable def sub4 : Sub := exSub (fun f => exStep Try.prog ft f (drD Try.prog ft 16 3)) ft 16
theorem mix : Try.prog.follows .mixedOrders = true := by kernel_rfl
theorem dr4Ok : DrOk Try.prog dr4 := drD_ok mix ftOk 16 4
theorem sub4Ok : LoudOk Try.prog sub4 := loudOk ftOk (fun fid cs w0 γ s m hM => exStep_ok ftOk (drD_ok mix ftOk 16 3) hM) 16
theorem bc_t {α : Type} (x y : α) : bc true x y = x := rfl
theorem bc_f {α : Type} (x y : α) : bc false x y = y := rfl
theorem nn_ok (b : Bool) : bc b true (bc b false true) = true := by cases b <;> rfl
theorem dt {p : Prop} [Decidable p] (h : p) : decide p = true := decide_eq_true h
theorem df {p : Prop} [Decidable p] (h : ¬ p) : decide p = false := decide_eq_false h
theorem bltD {a b : Nat} (h : a < b) : Nat.blt a b = true := by unfold Nat.blt; exact Nat.ble_eq_true_of_le h
theorem bltN {a b : Nat} (h : ¬ a < b) : Nat.blt a b = false := by
  cases e : Nat.blt a b with
  | false => rfl
  | true => exact absurd (blt_lt e) h
theorem ble_of {a b : Nat} (h : a ≤ b) : Nat.ble a b = true := Nat.ble_eq_true_of_le h
theorem bleN {a b : Nat} (h : ¬ a ≤ b) : Nat.ble a b = false := by
  cases e : Nat.ble a b with
  | false => rfl
  | true => exact absurd (Nat.le_of_ble_eq_true e) h
theorem beqD {a b : Nat} (h : a = b) : Nat.beq a b = true := by subst h; exact Nat.beq_refl a
theorem ofn (n : Nat) : Int.ofNat n = (n : Int) := rfl
theorem to_nat (i : Nat) : Int.toNat (i : Int) = i := Int.toNat_natCast i
theorem wrap_in (x : Int) (h1 : -4611686018427387904 ≤ x) (h2 : x < 4611686018427387904) : IntKind.i64.wrap x = x := IntWalk.i64_in _ (by omega)
theorem getD_at {α : Type} {l : List α} {d : α} {i : Nat} (h : i < l.length) : l.getD i d = l[i] := by rw [List.getD_eq_getElem?_getD, List.getElem?_eq_getElem h]; rfl
/-- the frame that a call enters -/
noncomputable def ent (f : FuncId) (args : List EV) : EF := Option.rec ⟨f, 0, .nil, [], [], none, false⟩ (fun e => e) (exEnter ft f args)
noncomputable def st0 (f : FuncId) (args : List EV) : ES := ⟨ent f args, [], .nil, 0⟩
/-- an open int -/
noncomputable abbrev iv (n : Int) : EV := .v (.int .i64 n)
noncomputable abbrev bv (b : Bool) : EV := .v (.bool b)
noncomputable abbrev sv (s : ByteArray) : EV := .v (.string s)
noncomputable abbrev il (l : List Int) : EV := .lst (.ints .i64 l)
/-- a run from s, in function f, to one of the places; loops' slots; whether sequences are handed out -/
noncomputable def RZs (f : FuncId) (ct : Tr ZCC) (ps : PLs) (lk : List Nat) (own : Bool) (s : ES) : ZF := runZ (stepZ Try.prog ft f dr4 sub4 ct) (atPs ps) (endP lk ps own) 600 s
/-- .. to the places p, where of each frame some slots are kept -/
noncomputable abbrev RZ (f : FuncId) (ct : Tr ZCC) (p : ES → Bool) (lk : List Nat) (ls : List SZ) (own : Bool) (s : ES) : ZF := RZs f ct [(p, ls)] lk own s
theorem leadsZ {f : FuncId} {ct : Tr ZCC} (hct : ZCtsOk Try.prog ct) {ps : PLs} {lk : List Nat} {own : Bool} {s : ES} {r : NS} (h : RZs f ct ps lk own s = .at r) : LeadsZ Try.prog s (stOf r) :=
  leadsF (f := f) mix ftOk dr4Ok sub4Ok hct endP_ok h
theorem callsZ {γ : G} {w : World} {f : FuncId} {ct : Tr ZCC} (hct : ZCtsOk Try.prog ct) {ps : PLs} {lk : List Nat} {own : Bool} {s : ES} {args : List EV} {us : Array Value} {a : EV} {K : List (Nat × EK)} {n' : Nat} (he : (exEnter ft f args).isSome = true) (hargs : ECL γ args us.toList) (hN : ∀ i, γ i = none) (hfz : FzAt γ w)
    (hl : LeadsZ Try.prog (st0 f args) s) (hd : RZs f ct ps lk own s = .done a K n') :
    Calls Try.prog f us w fun e w' => ∃ γ' x, e = .returned x ∧ EC γ' a x ∧ HR γ' (Bs.ofG w γ) (mkT K) n' w' := by
  obtain ⟨e, he⟩ := Option.isSome_iff_exists.1 he
  have : ent f args = e := by unfold ent; rw [he]
  unfold st0 at hl
  rw [this] at hl
  exact callsF mix ftOk dr4Ok sub4Ok hct endP_ok he hargs hN hfz hl hd
/-- what a says, a' says too -/
def Weak (a a' : EV) : Prop := ∀ γ x, EC γ a x → EC γ a' x
theorem Weak.refl (a : EV) : Weak a a := fun _ _ h => h
theorem Weak.nil (sh : List Sh) : Weak (.v (.slice none 0 0)) (.lst (.recs sh [])) := fun γ x h => by
  rw [ec_v h]
  exact .lst _ _ (.empty _ _ none 0 rfl (Nat.zero_le _) fun _ => rfl)
theorem Weak.nilI (k : IntKind) : Weak (.v (.slice none 0 0)) (.lst (.ints k [])) := fun γ x h => by
  rw [ec_v h]
  exact .lst _ _ (.empty _ _ none 0 rfl (Nat.zero_le _) fun _ => rfl)
inductive WeakL : List EV → List EV → Prop
  | nil : WeakL [] []
  | cons {a b : EV} {l r : List EV} (h : Weak a b) (t : WeakL l r) : WeakL (a :: l) (b :: r)
theorem WeakL.ok {γ : G} : ∀ {l r : List EV} {vs : List Value}, WeakL l r → ECL γ l vs → ECL γ r vs
  | _, _, vs, .nil, h => h
  | _, _, vs, .cons h t, k => by
    obtain ⟨x, ys, rfl, h1, h2⟩ := ECL.inv k
    exact ECL.cons (h _ _ h1) (t.ok h2)
theorem Weak.tup {l r : List EV} (h : WeakL l r) : Weak (.tup l) (.tup r) := fun γ x k => by
  cases k with
  | tup _ vs h1 h2 => have := h.ok (γ := γ) ⟨h1, h2⟩; exact .tup _ vs this.1 this.2
theorem Weak.agg {l r : List EV} (h : WeakL l r) : Weak (.agg l) (.agg r) := fun γ x k => by
  cases k with
  | agg _ vs h1 h2 => have := h.ok (γ := γ) ⟨h1, h2⟩; exact .agg _ vs this.1 this.2
theorem Weak.aggV {vs : List Value} {r : List EV} (h : WeakL (vs.map .v) r) : Weak (.v (.agg (Array.mk vs))) (.agg r) := fun γ x k => by
  rw [ec_v k]
  have := h.ok (γ := γ) (ECL.vals γ vs)
  exact .agg _ vs this.1 this.2
theorem Weak.trans {a b c : EV} (h : Weak a b) (k : Weak b c) : Weak a c := fun γ x e => k γ x (h γ x e)
/-- from s, in function f, to the end -/
def EndZ (f : FuncId) (ct : Tr ZCC) (own : Bool) (s : ES) (a : EV) (K : List (Nat × EK)) (n : Nat) : Prop := ∃ ps lk s' a', LeadsZ Try.prog s s' ∧ RZs f ct ps lk own s' = .done a' K n ∧ Weak a' a
theorem EndZ.done {f : FuncId} {ct : Tr ZCC} {own : Bool} {s : ES} {a : EV} {K : List (Nat × EK)} {n : Nat} {ps : PLs} {lk : List Nat} (h : RZs f ct ps lk own s = .done a K n) : EndZ f ct own s a K n := ⟨ps, lk, s, a, LeadsZ.refl s, h, Weak.refl a⟩
theorem EndZ.weak {f : FuncId} {ct : Tr ZCC} {own : Bool} {s : ES} {a b : EV} {K : List (Nat × EK)} {n : Nat} (h : EndZ f ct own s a K n) (k : Weak a b) : EndZ f ct own s b K n := by
  obtain ⟨ps, lk, t, a', h1, h2, h3⟩ := h
  exact ⟨ps, lk, t, a', h1, h2, h3.trans k⟩
theorem EndZ.lead {f : FuncId} {ct : Tr ZCC} {own : Bool} {s s' : ES} {a : EV} {K : List (Nat × EK)} {n : Nat} (h : LeadsZ Try.prog s s') (k : EndZ f ct own s' a K n) : EndZ f ct own s a K n := by
  obtain ⟨ps, lk, t, a', h1, h2, h3⟩ := k
  exact ⟨ps, lk, t, a', h.trans h1, h2, h3⟩
theorem EndZ.at {f : FuncId} {ct : Tr ZCC} (hct : ZCtsOk Try.prog ct) {own own' : Bool} {s : ES} {r : NS} {a : EV} {K : List (Nat × EK)} {n : Nat} {ps : PLs} {lk : List Nat} (h : RZs f ct ps lk own' s = .at r) (k : EndZ f ct own (stOf r) a K n) : EndZ f ct own s a K n := k.lead (leadsZ hct h)
theorem EndZ.calls {γ : G} {w : World} {f : FuncId} {ct : Tr ZCC} {own : Bool} {args : List EV} {a : EV} {K : List (Nat × EK)} {n' : Nat} (h : EndZ f ct own (st0 f args) a K n') (hct : ZCtsOk Try.prog ct) {us : Array Value} (he : (exEnter ft f args).isSome = true) (hargs : ECL γ args us.toList) (hN : ∀ i, γ i = none) (hfz : FzAt γ w) :
    Calls Try.prog f us w fun e w' => ∃ γ' x, e = .returned x ∧ EC γ' a x ∧ HR γ' (Bs.ofG w γ) (mkT K) n' w' := by
  obtain ⟨ps, lk, t, a', h1, h2, h3⟩ := h
  refine (callsZ hct he hargs hN hfz h1 h2).mono fun e w' ⟨γ', x, k1, k2, k3⟩ => ⟨γ', x, k1, h3 γ' x k2, k3⟩
/-! ### calls that change what their arguments lead to -/
noncomputable def st0m (f : FuncId) (args : List EV) (K0 : List (Nat × EK)) (m : Nat) : ES := ⟨ent f args, [], mkT K0, m⟩
/-- a run that keeps the first k numbers -/
noncomputable def RMs (k : Nat) (f : FuncId) (ct : Tr ZCC) (ps : PLs) (lk : List Nat) (nl : NLs) (s : ES) : ZF := runZ (stepZ Try.prog ft f dr4 sub4 ct) (atPs ps) (endM k lk ps nl) 600 s
theorem leadsMZ {k : Nat} {f : FuncId} {ct : Tr ZCC} (hct : ZCtsOk Try.prog ct) {ps : PLs} {lk : List Nat} {s : ES} {r : NS} {nl : NLs} (h : RMs k f ct ps lk nl s = .at r) : LeadsM Try.prog k s (stOf r) :=
  leadsM (f := f) mix ftOk dr4Ok sub4Ok hct h
def EndM (k : Nat) (f : FuncId) (ct : Tr ZCC) (s : ES) (a : EV) (K : List (Nat × EK)) (n : Nat) : Prop := ∃ ps lk nl s', LeadsM Try.prog k s s' ∧ RMs k f ct ps lk nl s' = .done a K n
theorem EndM.done {k : Nat} {f : FuncId} {ct : Tr ZCC} {s : ES} {a : EV} {K : List (Nat × EK)} {n : Nat} {ps : PLs} {lk : List Nat} {nl : NLs} (h : RMs k f ct ps lk nl s = .done a K n) : EndM k f ct s a K n := ⟨ps, lk, nl, s, LeadsM.refl k s, h⟩
theorem EndM.lead {k : Nat} {f : FuncId} {ct : Tr ZCC} {s s' : ES} {a : EV} {K : List (Nat × EK)} {n : Nat} (h : LeadsM Try.prog k s s') (g : EndM k f ct s' a K n) : EndM k f ct s a K n := by
  obtain ⟨ps, lk, nl, t, h1, h2⟩ := g
  exact ⟨ps, lk, nl, t, h.trans h1, h2⟩
theorem EndM.at {k : Nat} {f : FuncId} {ct : Tr ZCC} (hct : ZCtsOk Try.prog ct) {s : ES} {r : NS} {a : EV} {K : List (Nat × EK)} {n : Nat} {ps : PLs} {lk : List Nat} {nl : NLs} (h : RMs k f ct ps lk nl s = .at r) (g : EndM k f ct (stOf r) a K n) : EndM k f ct s a K n := g.lead (leadsMZ hct h)
theorem EndM.calls {k : Nat} {γ : G} {w0 : Bs} {w : World} {f : FuncId} {ct : Tr ZCC} {args : List EV} {K0 : List (Nat × EK)} {m0 : Nat} {a : EV} {K : List (Nat × EK)} {n' : Nat} (h : EndM k f ct (st0m f args K0 m0) a K n') (hct : ZCtsOk Try.prog ct) {us : Array Value} (he : (exEnter ft f args).isSome = true) (hres : ∀ i, ¬ w0.res i) (hargs : ECL γ args us.toList) (hH : HR γ w0 (mkT K0) m0 w) :
    Calls Try.prog f us w fun e w' => ∃ γ' x, e = .returned x ∧ EC γ' a x ∧ HR γ' w0 (mkT K) n' w' ∧ ∀ j p, j < k → γ j = some p → γ' j = some p := by
  obtain ⟨ps, lk, nl, t, h1, h2⟩ := h
  obtain ⟨e, he⟩ := Option.isSome_iff_exists.1 he
  have : ent f args = e := by unfold ent; rw [he]
  unfold st0m at h1
  rw [this] at h1
  exact callsM mix ftOk dr4Ok sub4Ok hct he hres hargs hH h1 h2
theorem bc_b (b : Bool) : bc b true false = b := by cases b <;> rfl
theorem bc_same {α : Type} (b : Bool) (x : α) : bc b x x = x := by cases b <;> rfl
/-! ### contracts of several cases -/
noncomputable def ZMT.or (a b : ZMT) : ZMT := fun ax K m => match a ax K m with
  | some r => some r
  | none => b ax K m
theorem ZMtOk.or {P : Program} {g : FuncId} {a b : ZMT} (ha : ZMtOk P g a) (hb : ZMtOk P g b) : ZMtOk P g (a.or b) := fun γ w0 w us ax K0 m r hs => by
  unfold ZMT.or at hs
  split at hs
  · rename_i r' hr
    injection hs with hs; subst hs
    exact ha γ w0 w us ax K0 m _ hr
  · exact hb γ w0 w us ax K0 m r hs
noncomputable def ZCT.or (a b : ZCT) : ZCT := fun ax => match a ax with
  | some r => some r
  | none => b ax
theorem ZCtOk.or {P : Program} {g : FuncId} {a b : ZCT} (ha : ZCtOk P g a) (hb : ZCtOk P g b) : ZCtOk P g (a.or b) := fun γ w us ax r hs => by
  unfold ZCT.or at hs
  split at hs
  · rename_i r' hr
    injection hs with hs; subst hs
    exact ha γ w us ax _ hr
  · exact hb γ w us ax r hs
theorem noN {α : Type} {x r : α} {b : Bool} (h : bc b (some x) none = some r) : b = true ∧ x = r := by
  cases b
  · cases h
  · exact ⟨rfl, Option.some.inj h⟩
end Go.Proofs.Ytojbgacoolanlaa.Ev
namespace Go.Proofs.Ytojbgacoolanlaa.Ev
open Go.Proofs
/-! what all motifs share -/
noncomputable def shW : List Sh := [.int .i64, .int .i64, .str]
noncomputable abbrev wl (l : List (List U)) : EV := .lst (.recs shW l)
noncomputable def wk (w : ByteArray) (k : Int) : List U := [.i 1, .i k, .s w]
noncomputable abbrev bCT : ByteArray := ByteArray.mk #[67, 84]
/-- a sheet and an error -/
noncomputable abbrev shE (p : Int) (l : List (List U)) (e : Int) : EV := .tup [.agg [iv p, wl l], iv e]
noncomputable def shN (e : Int) : EV := (EV.tup [(EV.v (Value.agg (Array.mk [(Value.int IntKind.i64 (0)), (Value.slice Option.none 0 0)]))), (EV.v (Value.int IntKind.i64 e))])
namespace MPlait
noncomputable def RUN (s : ES) : ZF := RZ 15 .nil (atS 1 34 1) [] [[(0,some (3, 56, .recs shW [])),(1,none),(8,none),(9,none),(10,none)],[(2,none),(4,none)]] false s

noncomputable def sW (l : List Int) (i : Int) (q : List (List U)) (nn : Bool) : NS := ⟨[⟨34, 29, [(0, (EV.ptr 0 0)), (1, (EV.v (Value.string (ByteArray.mk #[67, 84])))), (8, EV.slO 1 1 l.length true), (9, iv (Int.ofNat l.length)), (10, iv i)], [.it (.code (nav [1, 0, 0] (bodyOf Try.f34))), .it (.inLoop (nav [1, 0, 0] (bodyOf Try.f34))), .it (.inBlock 0)], [], Option.none⟩, ⟨15, 23, [(2, (EV.ptr 2 0)), (4, (EV.ptr 0 0))], [.ops (opsOf (nav [1, 1, 1, 0] (bodyOf Try.f15))) ((opsOf (nav [1, 1, 1, 0] (bodyOf Try.f15))).toList.drop 3), .it (.code (nav [1, 1, 1, 1] (bodyOf Try.f15)))], [], Option.none⟩], [(0, EK.cells 51 [iv 2, EV.slO 3 3 q.length nn] true), (1, EK.seq 3 (.ints .i64 l) true), (2, (EK.cells 24 [(EV.v (Value.int IntKind.i64 (0))), (EV.v (Value.slice Option.none 0 0))] true)), (3, EK.seq 56 (.recs shW q) nn)], 4⟩
theorem in_t (n : Int) : RUN (st0 15 [iv n]) = (bc (Decidable.decide (n < 1))
  (.done (EV.tup [(EV.v (Value.agg (Array.mk [(Value.int IntKind.i64 (0)), (Value.slice Option.none 0 0)]))), (EV.v (Value.int IntKind.i64 (7)))]) [] 0)
  (bc (Decidable.decide (100 < n))
    (.done (EV.tup [(EV.v (Value.agg (Array.mk [(Value.int IntKind.i64 (0)), (Value.slice Option.none 0 0)]))), (EV.v (Value.int IntKind.i64 (7)))]) [] 0)
    (bc (bc (Decidable.decide (0 ≤ n)) (bc (Decidable.decide (n ≤ n)) (Decidable.decide (n ≤ 65536)) Bool.false) Bool.false)
      (.at (sW (zerosL (Int.toNat n)) (0) ([]) (Bool.false)))
      .bad))) := by kernel_rfl
theorem step_t (l : List Int) (i : Int) (q : List (List U)) (nn : Bool) : RUN (stOf (sW l i q nn)) = (bc (Decidable.decide (i < Int.ofNat (List.length l)))
  (bc (bc (bc (Decidable.decide (0 ≤ i)) (Nat.blt (Int.toNat i) (List.length l)) Bool.false) Bool.true Bool.false)
    (bc (bc (Nat.blt (Int.toNat i) (List.length l)) Bool.true Bool.false)
      (bc (bc (Nat.beq (List.length q) (List.length q)) (bc (Nat.ble (List.length q + List.length [[U.i 1, U.i (List.getD l (Int.toNat i) 0), U.s { data := #[67, 84] }]]) 65536) (bc nn Bool.true (bc nn Bool.false Bool.true)) Bool.false) Bool.false)
        (.at (sW (l) (IntKind.wrap IntKind.i64 (i + 1)) (q ++ [[U.i 1, U.i (List.getD l (Int.toNat i) 0), U.s { data := #[67, 84] }]]) (bc nn Bool.true (Nat.blt 0 (List.length [[U.i 1, U.i (List.getD l (Int.toNat i) 0), U.s { data := #[67, 84] }]])))))
        .bad)
      .bad)
    .bad)
  (bc (bc (bc (Nat.beq (List.length q) (List.length q)) Bool.true Bool.false) Bool.true Bool.false)
    (.done (EV.tup [(EV.agg [(EV.v (Value.int IntKind.i64 (2))), (EV.lst (SyC.recs [(Sh.int IntKind.i64), (Sh.int IntKind.i64), Sh.str] (q)))]), (EV.v (Value.int IntKind.i64 (0)))]) [] 0)
    .bad)) := by kernel_rfl
theorem step {l : List Int} {i : Nat} {q : List (List U)} {nn : Bool} (hi : i < l.length) (hl : l.length ≤ 100) (hq : q.length ≤ 60000) : RUN (stOf (sW l i q nn)) = .at (sW l (i + 1 : Nat) (q ++ [wk bCT l[i]]) true) := by
  rw [step_t]
  have e : l.getD i 0 = l[i] := getD_at hi
  simp (disch := omega) only [Nat.add_eq, eqSy_self, eqN_self, bc_same, List.length_cons, ofn, wrap_in, dt, df, bltD, bltN, ble_of, bleN, beqD, bc_t, bc_f, nn_ok, Nat.zero_add, to_nat, Int.zero_add, Int.sub_zero, Int.sub_self, Int.cast_ofNat_Int, Int.natCast_zero, Int.toNat_zero, List.take_zero, List.nil_append, List.length_append, List.length_nil, e]
  rfl
theorem last {l : List Int} {i : Nat} {q : List (List U)} {nn : Bool} (hi : l.length ≤ i) : RUN (stOf (sW l i q nn)) = .done (shE 2 q 0) [] 0 := by
  rw [step_t]
  simp (disch := omega) only [Nat.add_eq, eqSy_self, eqN_self, bc_same, List.length_cons, ofn, wrap_in, dt, df, bltD, bltN, ble_of, bleN, beqD, bc_t, bc_f, nn_ok, Nat.zero_add, to_nat, Int.zero_add, Int.sub_zero, Int.sub_self, Int.cast_ofNat_Int, Int.natCast_zero, Int.toNat_zero, List.take_zero, List.nil_append, List.length_append, List.length_nil]
  rfl
theorem loop {l : List Int} (hl : l.length ≤ 100) : ∀ (k i : Nat) (q : List (List U)) (nn : Bool), i + k = l.length → q.length ≤ 100 + i → EndZ 15 .nil false (stOf (sW l i q nn)) (shE 2 (q ++ (l.drop i).map (wk bCT)) 0) [] 0
  | 0, i, q, nn, h, hq => by
    rw [List.drop_eq_nil_of_le (by omega), List.map_nil, List.append_nil]
    exact .done (last (by omega))
  | k + 1, i, q, nn, h, hq => by
    have hi : i < l.length := by omega
    rw [List.drop_eq_getElem_cons hi, List.map_cons, show q ++ wk bCT l[i] :: (l.drop (i + 1)).map (wk bCT) = (q ++ [wk bCT l[i]]) ++ (l.drop (i + 1)).map (wk bCT) by simp]
    exact .at (.nil _) (step hi hl (by omega)) (loop hl k (i + 1) _ _ (by omega) (by simp; omega))
end MPlait
noncomputable def plaitL (n : Int) : List (List U) := bc (decide (n < 1)) [] (bc (decide (100 < n)) [] (List.replicate n.toNat (wk bCT 0)))
noncomputable def plaitP (n : Int) : Int := bc (decide (n < 1)) 0 (bc (decide (100 < n)) 0 2)
noncomputable def plaitE (n : Int) : Int := bc (decide (n < 1)) 7 (bc (decide (100 < n)) 7 0)
theorem shN_weak (e : Int) : Weak (shN e) (shE 0 [] e) := .tup (.cons (.aggV (.cons (Weak.refl _) (.cons (Weak.nil _) .nil))) (.cons (Weak.refl _) .nil))
theorem MPlait.ends (n : Int) : EndZ 15 .nil false (st0 15 [iv n]) (shE (plaitP n) (plaitL n) (plaitE n)) [] 0 := by
  have h := MPlait.in_t n
  unfold plaitP plaitL plaitE
  by_cases h1 : n < 1
  · simp only [dt h1, bc_t] at h ⊢; exact (EndZ.done h).weak (shN_weak 7)
  by_cases h2 : 100 < n
  · simp only [df h1, dt h2, bc_t, bc_f] at h ⊢; exact (EndZ.done h).weak (shN_weak 7)
  · simp only [df h1, df h2, bc_f, bc_t, dt (show 0 ≤ n by omega), dt (show n ≤ n by omega), dt (show n ≤ 65536 by omega)] at h ⊢
    have hl : (zerosL n.toNat).length = n.toNat := by unfold zerosL; simp
    have := MPlait.loop (l := zerosL n.toNat) (by rw [hl]; omega) n.toNat 0 [] false (by rw [hl]; omega) (by simp)
    rw [List.drop_zero, List.nil_append, show (zerosL n.toNat).map (wk bCT) = List.replicate n.toNat (wk bCT 0) by unfold zerosL; simp] at this
    exact .at (.nil _) h this
noncomputable def spPlait : ZCT := fun ax => match ax with
  | [.v (.int .i64 n)] => some ⟨true, shE (plaitP n) (plaitL n) (plaitE n), [], 0⟩
  | _ => none
theorem spPlait_ok : ZCtOk Try.prog 15 spPlait := fun γ w us ax r hs hc hax hN hfz => by
  unfold spPlait at hs
  split at hs
  · rename_i n
    obtain ⟨rfl⟩ := Option.some.inj hs
    exact (MPlait.ends n).calls (.nil _) (by kernel_rfl) hax hN hfz
  · cases hs
end Go.Proofs.Ytojbgacoolanlaa.Ev
namespace Go.Proofs.Ytojbgacoolanlaa.Ev
open Go.Proofs
/-! ### Same -/
noncomputable def rowEq (x y : List U) : Bool := bc (U.int (x.getD 0 (.i 0)) == U.int (y.getD 0 (.i 0))) (bc (U.int (x.getD 1 (.i 0)) == U.int (y.getD 1 (.i 0))) (bc ((U.str (x.getD 2 (.i 0))).toList == (U.str (y.getD 2 (.i 0))).toList) true false) false) false
theorem rowEq_self (x : List U) : rowEq x x = true := by
  unfold rowEq
  simp [bc_t]
noncomputable def sameR : List (List U) → List (List U) → Bool
  | x :: a, y :: b => bc (rowEq x y) (sameR a b) false
  | _, _ => true
theorem sameR_self : ∀ a, sameR a a = true
  | [] => rfl
  | x :: a => by unfold sameR; rw [rowEq_self, bc_t, sameR_self a]
noncomputable def sameW (n m : Int) (a b : List (List U)) : Bool := bc (n != m) false (bc (Int.ofNat a.length != Int.ofNat b.length) false (sameR a b))
theorem sameW_self (n : Int) (a : List (List U)) : sameW n n a a = true := by
  unfold sameW
  simp [bc_f, sameR_self]
namespace MSame
noncomputable def RUN (s : ES) : ZF := RZ 16 .nil (atS 0 16 4) [] [[(2,none),(3,none),(5,none)]] false s

noncomputable def sSame (n m : Int) (a b : List (List U)) (i : Int) : NS := ⟨[⟨16, 38, [(2, (EV.ptr 0 0)), (3, (EV.ptr 1 0)), (5, iv i)], [.it (.code (nav [1, 1, 0, 1, 0, 0, 0] (bodyOf Try.f16))), .it (.code (nav [1, 1, 0, 1, 0, 0, 1] (bodyOf Try.f16))), .it (.inLoop (nav [1, 1, 0, 1, 0, 0] (bodyOf Try.f16))), .it (.inBlock 0), .it (.code (nav [1, 1, 1] (bodyOf Try.f16)))], [], Option.none⟩], [(0, (EK.cells 24 [(EV.v (Value.int IntKind.i64 (n))), (EV.lst (SyC.recs [(Sh.int IntKind.i64), (Sh.int IntKind.i64), Sh.str] (a)))] true)), (1, (EK.cells 24 [(EV.v (Value.int IntKind.i64 (m))), (EV.lst (SyC.recs [(Sh.int IntKind.i64), (Sh.int IntKind.i64), Sh.str] (b)))] true))], 2⟩
theorem in_t (n m : Int) (a b : List (List U)) : RUN (st0 16 [.agg [iv n, wl a], .agg [iv m, wl b]]) = (bc (n != m)
  (.done (EV.v (Value.bool false)) [] 0)
  (bc (Int.ofNat (List.length a) != Int.ofNat (List.length b))
    (.done (EV.v (Value.bool false)) [] 0)
    (.at (sSame (n) (m) (a) (b) (0))))) := by kernel_rfl
theorem step_t (n m : Int) (a b : List (List U)) (i : Int) : RUN (stOf (sSame n m a b i)) = (bc (Decidable.decide (i < Int.ofNat (List.length a)))
  (bc (bc (bc (bc (bc (Decidable.decide (0 ≤ i)) (Nat.blt (Int.toNat i) (List.length a)) Bool.false) Bool.true Bool.false) (bc (bc (Nat.blt (Int.toNat i) (List.length a)) Bool.true Bool.false) (bc (bc (bc (Decidable.decide (0 ≤ i)) (Nat.blt (Int.toNat i) (List.length b)) Bool.false) Bool.true Bool.false) (bc (bc (Nat.blt (Int.toNat i) (List.length b)) Bool.true Bool.false) Bool.true Bool.false) Bool.false) Bool.false) Bool.false) Bool.true Bool.false)
    (bc (bnot (bc (U.int (List.getD (List.getD a (Int.toNat i) []) 0 (U.i 0)) == U.int (List.getD (List.getD b (Int.toNat i) []) 0 (U.i 0))) (bc (U.int (List.getD (List.getD a (Int.toNat i) []) (Nat.succ 0) (U.i 0)) == U.int (List.getD (List.getD b (Int.toNat i) []) (Nat.succ 0) (U.i 0))) (bc (ByteArray.toList (U.str (List.getD (List.getD a (Int.toNat i) []) (Nat.succ (Nat.succ 0)) (U.i 0))) == ByteArray.toList (U.str (List.getD (List.getD b (Int.toNat i) []) (Nat.succ (Nat.succ 0)) (U.i 0)))) Bool.true Bool.false) Bool.false) Bool.false))
      (.done (EV.v (Value.bool false)) [] 0)
      (.at (sSame (n) (m) (a) (b) (IntKind.wrap IntKind.i64 (i + 1)))))
    .bad)
  (.done (EV.v (Value.bool true)) [] 0)) := by kernel_rfl
theorem step {n m : Int} {a b : List (List U)} {i : Nat} (hi : i < a.length) (hl : a.length ≤ 100000) (hb : a.length = b.length) : RUN (stOf (sSame n m a b i)) = bc (rowEq a[i] (b[i]'(by omega))) (.at (sSame n m a b (i + 1 : Nat))) (.done (bv false) [] 0) := by
  rw [step_t]
  have e : a.getD i [] = a[i] := getD_at hi
  have e2 : b.getD i [] = b[i]'(by omega) := getD_at (by omega)
  simp (disch := omega) only [Nat.add_eq, eqSy_self, eqN_self, bc_same, List.length_cons, ofn, wrap_in, dt, df, bltD, bltN, ble_of, bleN, beqD, bc_t, bc_f, nn_ok, Nat.zero_add, to_nat, Int.zero_add, Int.sub_zero, Int.sub_self, Int.cast_ofNat_Int, Int.natCast_zero, Int.toNat_zero, List.take_zero, List.nil_append, List.length_append, List.length_nil, e, e2]
  show bc (bnot (rowEq _ _)) _ _ = _
  cases rowEq a[i] (b[i]'(by omega)) <;> rfl
theorem last {n m : Int} {a b : List (List U)} {i : Nat} (hi : a.length ≤ i) : RUN (stOf (sSame n m a b i)) = .done (bv true) [] 0 := by
  rw [step_t]
  simp (disch := omega) only [Nat.add_eq, eqSy_self, eqN_self, bc_same, List.length_cons, ofn, wrap_in, dt, df, bltD, bltN, ble_of, bleN, beqD, bc_t, bc_f, nn_ok, Nat.zero_add, to_nat, Int.zero_add, Int.sub_zero, Int.sub_self, Int.cast_ofNat_Int, Int.natCast_zero, Int.toNat_zero, List.take_zero, List.nil_append, List.length_append, List.length_nil]
theorem loop {n m : Int} {a b : List (List U)} (hl : a.length ≤ 100000) (hb : a.length = b.length) : ∀ (k i : Nat), i + k = a.length → EndZ 16 .nil false (stOf (sSame n m a b i)) (bv (sameR (a.drop i) (b.drop i))) [] 0
  | 0, i, h => by
    rw [List.drop_eq_nil_of_le (by omega)]
    exact .done (last (by omega))
  | k + 1, i, h => by
    have hi : i < a.length := by omega
    have hs := step (n := n) (m := m) hi hl hb
    rw [List.drop_eq_getElem_cons hi, List.drop_eq_getElem_cons (show i < b.length by omega)]
    unfold sameR
    cases hc : rowEq a[i] (b[i]'(by omega)) <;> rw [hc] at hs
    · exact .done hs
    · exact .at (.nil _) hs (loop hl hb k (i + 1) (by omega))
theorem ends (n m : Int) (a b : List (List U)) (hl : a.length ≤ 100000) : EndZ 16 .nil false (st0 16 [.agg [iv n, wl a], .agg [iv m, wl b]]) (bv (sameW n m a b)) [] 0 := by
  have h := in_t n m a b
  unfold sameW
  cases h1 : (n != m) <;> rw [h1] at h
  · cases h2 : (Int.ofNat a.length != Int.ofNat b.length) <;> rw [h2] at h
    · have hb : a.length = b.length := by have : (a.length : Int) = b.length := by simpa using h2
                                          omega
      exact .at (.nil _) h (loop hl hb a.length 0 (by omega))
    · exact .done h
  · exact .done h
end MSame
noncomputable def spSame : ZCT := fun ax => match ax with
  | [.agg [.v (.int .i64 n), .lst (.recs [.int .i64, .int .i64, .str] a)], .agg [.v (.int .i64 m), .lst (.recs [.int .i64, .int .i64, .str] b)]] => some ⟨Nat.ble a.length 100000, bv (sameW n m a b), [], 0⟩
  | _ => none
theorem spSame_ok : ZCtOk Try.prog 16 spSame := fun γ w us ax r hs hc hax hN hfz => by
  unfold spSame at hs
  split at hs
  · rename_i n a m b
    obtain ⟨rfl⟩ := Option.some.inj hs
    exact (MSame.ends n m a b (Nat.le_of_ble_eq_true hc)).calls (.nil _) (by kernel_rfl) hax hN hfz
  · cases hs
/-! ### letters -/
noncomputable def catN (o s : ByteArray) : Nat → ByteArray
  | 0 => o
  | k + 1 => catN (o ++ s) s k
theorem catN_size (s : ByteArray) : ∀ (k : Nat) (o : ByteArray), (catN o s k).size = o.size + k * s.size
  | 0, o => by unfold catN; omega
  | k + 1, o => by unfold catN; rw [catN_size s k, ByteArray.size_append, Nat.succ_mul]; omega
namespace MLet
noncomputable def RUN (s : ES) : ZF := RZ 42 .nil (atS 0 42 3) [] [[(0,none),(1,none),(5,none),(6,none)]] false s

noncomputable def sLet (s : ByteArray) (n : Int) (o : ByteArray) (i : Int) : NS := ⟨[⟨42, 16, [(0, (EV.v (Value.string (s)))), (1, (EV.v (Value.int IntKind.i64 (n)))), (5, sv o), (6, iv i)], [.it (.code (nav [1, 1, 0, 1, 0, 0, 0] (bodyOf Try.f42))), .it (.code (nav [1, 1, 0, 1, 0, 0, 1] (bodyOf Try.f42))), .it (.inLoop (nav [1, 1, 0, 1, 0, 0] (bodyOf Try.f42))), .it (.inBlock 0), .it (.code (nav [1, 1, 1] (bodyOf Try.f42)))], [], Option.none⟩], [], 0⟩
theorem in_t (s : ByteArray) (n : Int) : RUN (st0 42 [sv s, iv n]) = (.at (sLet (s) (n) ({ data := #[] }) (0))) := by kernel_rfl
theorem step_t (s : ByteArray) (n : Int) (o : ByteArray) (i : Int) : RUN (stOf (sLet s n o i)) = (bc (Decidable.decide (i < n))
  (bc (bc (Nat.blt (Nat.add (ByteArray.size o) (ByteArray.size s)) 9223372036854775808) Bool.true Bool.false)
    (.at (sLet (s) (n) (o ++ s) (IntKind.wrap IntKind.i64 (i + 1))))
    .bad)
  (.done (EV.v (Value.string (o))) [] 0)) := by kernel_rfl
theorem step {s : ByteArray} {n : Int} {o : ByteArray} {i : Nat} (hi : (i : Int) < n) (hn : n ≤ 1000) (hs : s.size ≤ 1000) (ho : o.size ≤ 1000000 + 1000 * i) : RUN (stOf (sLet s n o i)) = .at (sLet s n (o ++ s) (i + 1 : Nat)) := by
  rw [step_t]
  simp (disch := omega) only [Nat.add_eq, eqSy_self, eqN_self, bc_same, List.length_cons, ofn, wrap_in, dt, df, bltD, bltN, ble_of, bleN, beqD, bc_t, bc_f, nn_ok, Nat.zero_add, to_nat, Int.zero_add, Int.sub_zero, Int.sub_self, Int.cast_ofNat_Int, Int.natCast_zero, Int.toNat_zero, List.take_zero, List.nil_append, List.length_append, List.length_nil]
  rfl
theorem last {s : ByteArray} {n : Int} {o : ByteArray} {i : Nat} (hi : n ≤ (i : Int)) : RUN (stOf (sLet s n o i)) = .done (sv o) [] 0 := by
  rw [step_t]
  simp (disch := omega) only [Nat.add_eq, eqSy_self, eqN_self, bc_same, List.length_cons, ofn, wrap_in, dt, df, bltD, bltN, ble_of, bleN, beqD, bc_t, bc_f, nn_ok, Nat.zero_add, to_nat, Int.zero_add, Int.sub_zero, Int.sub_self, Int.cast_ofNat_Int, Int.natCast_zero, Int.toNat_zero, List.take_zero, List.nil_append, List.length_append, List.length_nil]
theorem loop {s : ByteArray} {n : Int} (hn : n ≤ 1000) (hs : s.size ≤ 1000) : ∀ (k i : Nat) (o : ByteArray), n.toNat = i + k → o.size ≤ 1000000 + 1000 * i → EndZ 42 .nil false (stOf (sLet s n o i)) (sv (catN o s k)) [] 0
  | 0, i, o, h, ho => .done (last (by omega))
  | k + 1, i, o, h, ho => .at (.nil _) (step (by omega) hn hs ho) (loop hn hs k (i + 1) (o ++ s) (by omega) (by rw [ByteArray.size_append]; omega))
end MLet
noncomputable def lets (s : ByteArray) (n : Int) : ByteArray := catN (ByteArray.mk #[]) s n.toNat
noncomputable def spLet : ZCT := fun ax => match ax with
  | [.v (.string s), .v (.int .i64 n)] => some ⟨bc (decide (n ≤ 1000)) (Nat.ble s.size 1000) false, sv (lets s n), [], 0⟩
  | _ => none
theorem spLet_ok : ZCtOk Try.prog 42 spLet := fun γ w us ax r hs hc hax hN hfz => by
  unfold spLet at hs
  split at hs
  · rename_i s n
    obtain ⟨rfl⟩ := Option.some.inj hs
    have hc : bc (decide (n ≤ 1000)) (Nat.ble s.size 1000) false = true := hc
    obtain ⟨h1, h2⟩ := bcT hc
    have h1 := of_decide_eq_true h1
    have h2 := Nat.le_of_ble_eq_true h2
    have : EndZ 42 .nil false (st0 42 [sv s, iv n]) (sv (lets s n)) [] 0 := .at (.nil _) (MLet.in_t s n) (MLet.loop h1 h2 n.toNat 0 _ (by omega) (by show 0 ≤ _; omega))
    exact this.calls (.nil _) (by kernel_rfl) hax hN hfz
  · cases hs
/-! ### body -/
noncomputable abbrev bCTC : ByteArray := ByteArray.mk #[67, 84, 67]
noncomputable def rowR (k : Int) (i : Nat) : Nat → List (List U)
  | 0 => []
  | m + 1 => wk bCTC (k + i) :: rowR k (i + 1) m
noncomputable def bodyR (n : Nat) : Nat → List (List U)
  | 0 => []
  | k + 1 => rowR k 0 n ++ bodyR n k
theorem rowR_len (k : Int) : ∀ (m i : Nat), (rowR k i m).length = m
  | 0, _ => rfl
  | m + 1, i => by unfold rowR; simp [rowR_len k m]
theorem bodyR_len (n : Nat) : ∀ k, (bodyR n k).length = k * n
  | 0 => by simp [bodyR]
  | k + 1 => by unfold bodyR; rw [List.length_append, rowR_len, bodyR_len n k, Nat.succ_mul]; omega
namespace MBody
noncomputable def RUN (s : ES) : ZF := RZ 43 .nil (atS 0 43 6) [] [[(0,none),(3,some (3, 56, .recs shW [])),(4,none),(5,none)]] false s

noncomputable def sBody (n : Int) (q : List (List U)) (nn : Bool) (k i : Int) : NS := ⟨[⟨43, 25, [(0, (EV.v (Value.int IntKind.i64 (n)))), (3, EV.slO 0 3 q.length nn), (4, iv k), (5, iv i)], [.it (.code (nav [1, 1, 0, 1, 0, 0, 1, 0, 0, 1, 0, 0, 0] (bodyOf Try.f43))), .it (.code (nav [1, 1, 0, 1, 0, 0, 1, 0, 0, 1, 0, 0, 1] (bodyOf Try.f43))), .it (.inLoop (nav [1, 1, 0, 1, 0, 0, 1, 0, 0, 1, 0, 0] (bodyOf Try.f43))), .it (.inBlock 2), .it (.inBlock 1), .it (.code (nav [1, 1, 0, 1, 0, 0, 1, 1] (bodyOf Try.f43))), .it (.inLoop (nav [1, 1, 0, 1, 0, 0] (bodyOf Try.f43))), .it (.inBlock 0), .it (.code (nav [1, 1, 1] (bodyOf Try.f43)))], [], Option.none⟩], [(0, EK.seq 56 (.recs shW q) nn)], 1⟩
theorem in_t (n : Int) : RUN (st0 43 [iv n]) = (bc (Decidable.decide (0 ≤ IntKind.wrap IntKind.i64 (n - 1)))
  (.at (sBody (n) ([]) (Bool.false) (IntKind.wrap IntKind.i64 (n - 1)) (0)))
  (.done (EV.v (Value.slice Option.none 0 0)) [] 0)) := by kernel_rfl
theorem step_t (n : Int) (q : List (List U)) (nn : Bool) (k i : Int) : RUN (stOf (sBody n q nn k i)) = (bc (Decidable.decide (i < n))
  (bc (bc (Nat.beq (List.length q) (List.length q)) (bc (Nat.ble (List.length q + List.length [[U.i 1, U.i (IntKind.wrap IntKind.i64 (k + i)), U.s { data := #[67, 84, 67] }]]) 65536) (bc nn Bool.true (bc nn Bool.false Bool.true)) Bool.false) Bool.false)
    (.at (sBody (n) (q ++ [[U.i 1, U.i (IntKind.wrap IntKind.i64 (k + i)), U.s { data := #[67, 84, 67] }]]) (bc nn Bool.true (Nat.blt 0 (List.length [[U.i 1, U.i (IntKind.wrap IntKind.i64 (k + i)), U.s { data := #[67, 84, 67] }]]))) (k) (IntKind.wrap IntKind.i64 (i + 1))))
    .bad)
  (bc (Decidable.decide (0 ≤ IntKind.wrap IntKind.i64 (k - 1)))
    (.at (sBody (n) (q) (nn) (IntKind.wrap IntKind.i64 (k - 1)) (0)))
    (bc (Nat.beq (List.length q) (List.length q))
      (.done (EV.lst (SyC.recs [(Sh.int IntKind.i64), (Sh.int IntKind.i64), Sh.str] (q))) [] 0)
      .bad))) := by kernel_rfl
theorem step {n k i : Nat} {q : List (List U)} {nn : Bool} (hi : i < n) (hn : n ≤ 100) (hk : k < n) (hq : q.length < 65536) : RUN (stOf (sBody n q nn k i)) = .at (sBody n (q ++ [wk bCTC ((k : Int) + i)]) true k (i + 1 : Nat)) := by
  rw [step_t]
  simp (disch := omega) only [Nat.add_eq, eqSy_self, eqN_self, bc_same, List.length_cons, ofn, wrap_in, dt, df, bltD, bltN, ble_of, bleN, beqD, bc_t, bc_f, nn_ok, Nat.zero_add, to_nat, Int.zero_add, Int.sub_zero, Int.sub_self, Int.cast_ofNat_Int, Int.natCast_zero, Int.toNat_zero, List.take_zero, List.nil_append, List.length_append, List.length_nil]
  rfl
theorem next {n k i : Nat} {q : List (List U)} {nn : Bool} (hi : n ≤ i) (hn : n ≤ 100) (hk : k + 1 < n) : RUN (stOf (sBody n q nn (k + 1 : Nat) i)) = .at (sBody n q nn k 0) := by
  rw [step_t]
  have e : ((k + 1 : Nat) : Int) - 1 = k := by omega
  simp (disch := omega) only [Nat.add_eq, eqSy_self, eqN_self, bc_same, List.length_cons, ofn, wrap_in, dt, df, bltD, bltN, ble_of, bleN, beqD, bc_t, bc_f, nn_ok, Nat.zero_add, to_nat, Int.zero_add, Int.sub_zero, Int.sub_self, Int.cast_ofNat_Int, Int.natCast_zero, Int.toNat_zero, List.take_zero, List.nil_append, List.length_append, List.length_nil, e]
theorem fin {n i : Nat} {q : List (List U)} {nn : Bool} (hi : n ≤ i) (hn : n ≤ 100) : RUN (stOf (sBody n q nn 0 i)) = .done (wl q) [] 0 := by
  rw [step_t]
  simp (disch := omega) only [Nat.add_eq, eqSy_self, eqN_self, bc_same, List.length_cons, ofn, wrap_in, dt, df, bltD, bltN, ble_of, bleN, beqD, bc_t, bc_f, nn_ok, Nat.zero_add, to_nat, Int.zero_add, Int.sub_zero, Int.sub_self, Int.cast_ofNat_Int, Int.natCast_zero, Int.toNat_zero, List.take_zero, List.nil_append, List.length_append, List.length_nil]
  rfl
theorem rows {n : Nat} (hn : n ≤ 100) : ∀ (k m i : Nat) (q : List (List U)) (nn : Bool), i + m = n → k < n → q.length + m + k * n ≤ 60000 → EndZ 43 .nil false (stOf (sBody n q nn k i)) (wl (q ++ (rowR k i m ++ bodyR n k))) [] 0
  | k, m + 1, i, q, nn, h, hk, hq => by
    have := rows hn k m (i + 1) (q ++ [wk bCTC ((k : Int) + i)]) true (by omega) hk (by rw [List.length_append]; simp only [List.length_cons, List.length_nil]; omega)
    have e : q ++ (rowR k i (m + 1) ++ bodyR n k) = (q ++ [wk bCTC ((k : Int) + i)]) ++ (rowR k (i + 1) m ++ bodyR n k) := by
      show q ++ (wk bCTC ((k : Int) + i) :: rowR k (i + 1) m ++ bodyR n k) = _
      simp
    rw [e]
    exact .at (.nil _) (step (by omega) hn hk (by omega)) this
  | 0, 0, i, q, nn, h, hk, hq => by
    show EndZ _ _ _ _ (wl (q ++ ([] ++ []))) _ _
    rw [List.append_nil, List.append_nil]
    exact .done (fin (by omega) hn)
  | k + 1, 0, i, q, nn, h, hk, hq => by
    have := rows hn k n 0 q nn (by omega) (by omega) (by rw [Nat.succ_mul] at hq; omega)
    show EndZ _ _ _ _ (wl (q ++ ([] ++ (rowR k 0 n ++ bodyR n k)))) _ _
    rw [List.nil_append]
    exact .at (.nil _) (next (by omega) hn hk) this
termination_by k m => (k, m)
end MBody
noncomputable def bodyL (n : Int) : List (List U) := bodyR n.toNat n.toNat
noncomputable def spBody : ZCT := fun ax => match ax with
  | [.v (.int .i64 n)] => some ⟨bc (decide (1 ≤ n)) (decide (n ≤ 100)) false, wl (bodyL n), [], 0⟩
  | _ => none
theorem spBody_ok : ZCtOk Try.prog 43 spBody := fun γ w us ax r hs hc hax hN hfz => by
  unfold spBody at hs
  split at hs
  · rename_i n
    obtain ⟨rfl⟩ := Option.some.inj hs
    obtain ⟨h1, h2⟩ := bcT (show bc (decide (1 ≤ n)) (decide (n ≤ 100)) false = true from hc)
    have h1 := of_decide_eq_true h1
    have h2 := of_decide_eq_true h2
    have h := MBody.in_t n
    rw [wrap_in _ (by omega) (by omega), dt (show 0 ≤ n - 1 by omega), bc_t] at h
    obtain ⟨k, rfl⟩ : ∃ k : Nat, n = ((k + 1 : Nat) : Int) := ⟨(n - 1).toNat, by omega⟩
    rw [show ((k + 1 : Nat) : Int) - 1 = k by omega] at h
    have := MBody.rows (n := k + 1) (by omega) k (k + 1) 0 [] false (by omega) (by omega) (by
      have : k * (k + 1) ≤ 100 * 100 := Nat.mul_le_mul (by omega) (by omega)
      simp only [List.length_nil]; omega)
    exact EndZ.calls (.at (.nil _) h this) (.nil _) (by kernel_rfl) hax hN hfz
  · cases hs
/-! ### Plait -/
namespace MRPlait
noncomputable def RUN (s : ES) : ZF := RZ 19 .nil (atS 0 19 5) [] [[(0,none),(2,none),(4,some (3, 56, .recs shW [])),(5,none)]] false s

noncomputable def sRP (n : Int) (i : Int) (q : List (List U)) (nn : Bool) : NS := ⟨[⟨19, 26, [(0, (EV.v (Value.int IntKind.i64 (n)))), (2, (EV.ptr 0 0)), (4, (EV.ptr 1 0)), (5, iv i)], [.it (.code (nav [1, 1, 1, 0, 1, 0, 0, 0] (bodyOf Try.f19))), .it (.code (nav [1, 1, 1, 0, 1, 0, 0, 1] (bodyOf Try.f19))), .it (.inLoop (nav [1, 1, 1, 0, 1, 0, 0] (bodyOf Try.f19))), .it (.inBlock 0), .it (.code (nav [1, 1, 1, 1] (bodyOf Try.f19)))], [], Option.none⟩], [(0, (EK.cells 24 [(EV.v (Value.int IntKind.i64 (0))), (EV.v (Value.slice Option.none 0 0))] true)), (1, EK.cells 24 [iv 2, EV.slO 2 3 q.length nn] true), (2, EK.seq 56 (.recs shW q) nn)], 3⟩
theorem in_t (n : Int) : RUN (st0 19 [iv n]) = (bc (Decidable.decide (n < 1))
  (.done (EV.tup [(EV.v (Value.agg (Array.mk [(Value.int IntKind.i64 (0)), (Value.slice Option.none 0 0)]))), (EV.v (Value.int IntKind.i64 (7)))]) [] 0)
  (bc (Decidable.decide (100 < n))
    (.done (EV.tup [(EV.v (Value.agg (Array.mk [(Value.int IntKind.i64 (0)), (Value.slice Option.none 0 0)]))), (EV.v (Value.int IntKind.i64 (7)))]) [] 0)
    (.at (sRP (n) (0) ([]) (Bool.false))))) := by kernel_rfl
theorem step_t (n : Int) (i : Int) (q : List (List U)) (nn : Bool) : RUN (stOf (sRP n i q nn)) = (bc (Decidable.decide (i < n))
  (bc (bc (bc (bc (Nat.beq (List.length q) (List.length q)) (bc (Nat.ble (List.length q + List.length [[U.i 1, U.i 0, U.s { data := #[67, 84] }]]) 65536) (bc nn Bool.true (bc nn Bool.false Bool.true)) Bool.false) Bool.false) Bool.true Bool.false) (bc (bc (bc (bc (Nat.beq (List.length q) (List.length q)) (eqN nn nn) Bool.false) Bool.true Bool.false) Bool.true Bool.false) Bool.true Bool.false) Bool.false)
    (.at (sRP (n) (IntKind.wrap IntKind.i64 (i + 1)) (q ++ [[U.i 1, U.i 0, U.s { data := #[67, 84] }]]) (bc nn Bool.true (Nat.blt 0 (List.length [[U.i 1, U.i 0, U.s { data := #[67, 84] }]])))))
    .bad)
  (bc (bc (bc (Nat.beq (List.length q) (List.length q)) Bool.true Bool.false) Bool.true Bool.false)
    (.done (EV.tup [(EV.agg [(EV.v (Value.int IntKind.i64 (2))), (EV.lst (SyC.recs [(Sh.int IntKind.i64), (Sh.int IntKind.i64), Sh.str] (q)))]), (EV.v (Value.int IntKind.i64 (0)))]) [] 0)
    .bad)) := by kernel_rfl
theorem step {n : Int} {i : Nat} {q : List (List U)} {nn : Bool} (hi : (i : Int) < n) (hn : n ≤ 100) (hq : q.length < 65536) : RUN (stOf (sRP n i q nn)) = .at (sRP n (i + 1 : Nat) (q ++ [wk bCT 0]) true) := by
  rw [step_t]
  simp (disch := omega) only [Nat.add_eq, eqSy_self, eqN_self, bc_same, List.length_cons, ofn, wrap_in, dt, df, bltD, bltN, ble_of, bleN, beqD, bc_t, bc_f, nn_ok, Nat.zero_add, to_nat, Int.zero_add, Int.sub_zero, Int.sub_self, Int.cast_ofNat_Int, Int.natCast_zero, Int.toNat_zero, List.take_zero, List.nil_append, List.length_append, List.length_nil]
  rfl
theorem last {n : Int} {i : Nat} {q : List (List U)} {nn : Bool} (hi : n ≤ (i : Int)) : RUN (stOf (sRP n i q nn)) = .done (shE 2 q 0) [] 0 := by
  rw [step_t]
  simp (disch := omega) only [Nat.add_eq, eqSy_self, eqN_self, bc_same, List.length_cons, ofn, wrap_in, dt, df, bltD, bltN, ble_of, bleN, beqD, bc_t, bc_f, nn_ok, Nat.zero_add, to_nat, Int.zero_add, Int.sub_zero, Int.sub_self, Int.cast_ofNat_Int, Int.natCast_zero, Int.toNat_zero, List.take_zero, List.nil_append, List.length_append, List.length_nil]
  rfl
theorem loop {n : Int} (hn : n ≤ 100) : ∀ (k i : Nat) (q : List (List U)) (nn : Bool), (i : Int) + k = n → q.length ≤ 100 + i → EndZ 19 .nil false (stOf (sRP n i q nn)) (shE 2 (q ++ List.replicate k (wk bCT 0)) 0) [] 0
  | 0, i, q, nn, h, hq => by
    rw [List.replicate_zero, List.append_nil]
    exact .done (last (by omega))
  | k + 1, i, q, nn, h, hq => by
    rw [List.replicate_succ, show q ++ wk bCT 0 :: List.replicate k (wk bCT 0) = (q ++ [wk bCT 0]) ++ List.replicate k (wk bCT 0) by simp]
    exact .at (.nil _) (step (by omega) hn (by omega)) (loop hn k (i + 1) _ _ (by omega) (by simp; omega))
end MRPlait
theorem MRPlait.ends (n : Int) : EndZ 19 .nil false (st0 19 [iv n]) (shE (plaitP n) (plaitL n) (plaitE n)) [] 0 := by
  have h := MRPlait.in_t n
  unfold plaitP plaitL plaitE
  by_cases h1 : n < 1
  · simp only [dt h1, bc_t] at h ⊢; exact (EndZ.done h).weak (shN_weak 7)
  by_cases h2 : 100 < n
  · simp only [df h1, dt h2, bc_t, bc_f] at h ⊢; exact (EndZ.done h).weak (shN_weak 7)
  · simp only [df h1, df h2, bc_f, bc_t] at h ⊢
    have := MRPlait.loop (n := n) (by omega) n.toNat 0 [] false (by omega) (by simp)
    exact .at (.nil _) h this
theorem spRPlait_ok : ZCtOk Try.prog 19 spPlait := fun γ w us ax r hs hc hax hN hfz => by
  unfold spPlait at hs
  split at hs
  · rename_i n
    obtain ⟨rfl⟩ := Option.some.inj hs
    exact (MRPlait.ends n).calls (.nil _) (by kernel_rfl) hax hN hfz
  · cases hs
/-! ### Picot, Windmill -/
noncomputable def ctR1 : Tr ZCC := (Tr.nil.put 42 (some (dC spLet))).put 43 (some (dC spBody))
theorem ctR1_ok : ZCtsOk Try.prog ctR1 := ((ZCtsOk.nil _).add rfl spLet_ok).add rfl spBody_ok
namespace MRPic
noncomputable def RUN (s : ES) : ZF := RZ 21 ctR1 (fun _ => false) [] [] false s
theorem in_t (n : Int) : RUN (st0 21 [iv n]) = (bc (Decidable.decide (n < 1))
  (.done (EV.tup [(EV.v (Value.agg (Array.mk [(Value.int IntKind.i64 (0)), (Value.slice Option.none 0 0)]))), (EV.v (Value.int IntKind.i64 (7)))]) [] 0)
  (bc (Decidable.decide (7 < n))
    (.done (EV.tup [(EV.v (Value.agg (Array.mk [(Value.int IntKind.i64 (0)), (Value.slice Option.none 0 0)]))), (EV.v (Value.int IntKind.i64 (7)))]) [] 0)
    (bc (bc (bc (Decidable.decide (n ≤ 1000)) (Nat.ble (ByteArray.size { data := #[76] }) 1000) Bool.false) Bool.true Bool.false)
      (bc (bc (Nat.blt (Nat.add (ByteArray.size (lets { data := #[76] } n)) (ByteArray.size { data := #[80] })) 9223372036854775808) Bool.true Bool.false)
        (bc (bc (bc (Decidable.decide (n ≤ 1000)) (Nat.ble (ByteArray.size { data := #[76] }) 1000) Bool.false) Bool.true Bool.false)
          (bc (bc (Nat.blt (Nat.add (ByteArray.size (lets { data := #[76] } n ++ { data := #[80] })) (ByteArray.size (lets { data := #[76] } n))) 9223372036854775808) Bool.true Bool.false)
            (.done (EV.tup [(EV.agg [(EV.v (Value.int IntKind.i64 (2))), (EV.lst (SyC.recs [(Sh.int IntKind.i64), (Sh.int IntKind.i64), Sh.str] ([[U.i 1, U.i 0, U.s (lets { data := #[76] } n ++ { data := #[80] } ++ lets { data := #[76] } n)]])))]), (EV.v (Value.int IntKind.i64 (0)))]) [] 0)
            .bad)
          .bad)
        .bad)
      .bad))) := by kernel_rfl
end MRPic
namespace MRWin
noncomputable def RUN (s : ES) : ZF := RZ 25 ctR1 (fun _ => false) [] [] false s
theorem in_t (u : Nat) : RUN (st0 25 []) = (.done (EV.agg [(EV.v (Value.int IntKind.i64 (4))), (EV.lst (SyC.recs [(Sh.int IntKind.i64), (Sh.int IntKind.i64), Sh.str] [[(U.i 1), (U.i 1), (U.s { data := #[67, 84, 67] })], [(U.i 1), (U.i 0), (U.s { data := #[67, 84, 67] })], [(U.i 1), (U.i 2), (U.s { data := #[67, 84, 67] })], [(U.i 1), (U.i 1), (U.s { data := #[80] })], [(U.i 1), (U.i 1), (U.s { data := #[67, 84, 67] })]]))]) [] 0) := by kernel_rfl
end MRWin
namespace MRSp
noncomputable def RUN (s : ES) : ZF := RZ 22 ctR1 (atS 0 22 5) [] [[(0,none),(1,none),(4,none),(6,some (3, 56, .recs shW [])),(7,none)]] false s

noncomputable def sRS (n t : Int) (i : Int) (q : List (List U)) (nn : Bool) : NS := ⟨[⟨22, 75, [(0, (EV.v (Value.int IntKind.i64 (n)))), (1, (EV.v (Value.int IntKind.i64 (t)))), (4, (EV.ptr 0 0)), (6, EV.slO 1 3 q.length nn), (7, iv i)], [.it (.code (nav [1, 1, 1, 0, 1, 0, 0, 0] (bodyOf Try.f22))), .it (.code (nav [1, 1, 1, 0, 1, 0, 0, 1] (bodyOf Try.f22))), .it (.inLoop (nav [1, 1, 1, 0, 1, 0, 0] (bodyOf Try.f22))), .it (.inBlock 0), .it (.code (nav [1, 1, 1, 1] (bodyOf Try.f22)))], [], Option.none⟩], [(0, (EK.cells 24 [(EV.v (Value.int IntKind.i64 (0))), (EV.v (Value.slice Option.none 0 0))] true)), (1, EK.seq 56 (.recs shW q) nn)], 2⟩
theorem in_t (n t : Int) : RUN (st0 22 [iv n, iv t]) = (bc (Decidable.decide (n < 1))
  (.done (EV.tup [(EV.v (Value.agg (Array.mk [(Value.int IntKind.i64 (0)), (Value.slice Option.none 0 0)]))), (EV.v (Value.int IntKind.i64 (7)))]) [] 0)
  (bc (Decidable.decide (6 < n))
    (.done (EV.tup [(EV.v (Value.agg (Array.mk [(Value.int IntKind.i64 (0)), (Value.slice Option.none 0 0)]))), (EV.v (Value.int IntKind.i64 (7)))]) [] 0)
    (bc (Decidable.decide (t < 0))
      (.done (EV.tup [(EV.v (Value.agg (Array.mk [(Value.int IntKind.i64 (0)), (Value.slice Option.none 0 0)]))), (EV.v (Value.int IntKind.i64 (7)))]) [] 0)
      (bc (Decidable.decide (16 < t))
        (.done (EV.tup [(EV.v (Value.agg (Array.mk [(Value.int IntKind.i64 (0)), (Value.slice Option.none 0 0)]))), (EV.v (Value.int IntKind.i64 (7)))]) [] 0)
        (.at (sRS (n) (t) (0) ([]) (Bool.false))))))) := by kernel_rfl
theorem step_t (n t : Int) (i : Int) (q : List (List U)) (nn : Bool) : RUN (stOf (sRS n t i q nn)) = (bc (Decidable.decide (i < n))
  (bc (Decidable.decide (0 < t))
    (bc (bc (bc (Decidable.decide (t ≤ 1000)) (Nat.ble (ByteArray.size { data := #[84] }) 1000) Bool.false) Bool.true Bool.false)
      (bc (bc (Nat.beq (List.length q) (List.length q)) (bc (Nat.ble (List.length q + List.length [[U.i 1, U.i (IntKind.wrap IntKind.i64 (2 * i)), U.s (lets { data := #[84] } t)]]) 65536) (bc nn Bool.true (bc nn Bool.false Bool.true)) Bool.false) Bool.false)
        (.at (sRS (n) (t) (IntKind.wrap IntKind.i64 (i + 1)) (q ++ [[U.i 1, U.i (IntKind.wrap IntKind.i64 (2 * i)), U.s (lets { data := #[84] } t)]]) (bc nn Bool.true (Nat.blt 0 (List.length [[U.i 1, U.i (IntKind.wrap IntKind.i64 (2 * i)), U.s (lets { data := #[84] } t)]])))))
        .bad)
      .bad)
    (bc (bc (Nat.beq (List.length q) (List.length q)) (bc (Nat.ble (0 + List.length q) 65536) Bool.true Bool.false) Bool.false)
      (bc (bc (bc (bc (Decidable.decide (1 ≤ n)) (Decidable.decide (n ≤ 100)) Bool.false) (bc (bc (Nat.beq (List.length ([] ++ q)) (List.length ([] ++ q))) (bc (Nat.ble (List.length ([] ++ q) + List.length (bodyL n)) 65536) (bc (Nat.blt 0 (List.length q)) Bool.true (bc (Nat.blt 0 (List.length q)) Bool.false Bool.true)) Bool.false) Bool.false) Bool.true Bool.false) Bool.false) (bc (bc (bc (bc (Nat.beq (List.length ([] ++ q)) (List.length ([] ++ q))) (eqN (Nat.blt 0 (List.length q)) (Nat.blt 0 (List.length q))) Bool.false) Bool.true Bool.false) Bool.true Bool.false) Bool.true Bool.false) Bool.false)
        (bc (bc (bc (bc (Nat.beq (List.length ([] ++ q ++ bodyL n)) (List.length ([] ++ q ++ bodyL n))) (bc (Nat.ble (List.length ([] ++ q ++ bodyL n) + List.length [[U.i 1, U.i (IntKind.wrap IntKind.i64 (n - 1)), U.s { data := #[80] }]]) 65536) (bc (bc (Nat.blt 0 (List.length q)) Bool.true (Nat.blt 0 (List.length (bodyL n)))) Bool.true (bc (bc (Nat.blt 0 (List.length q)) Bool.true (Nat.blt 0 (List.length (bodyL n)))) Bool.false Bool.true)) Bool.false) Bool.false) Bool.true Bool.false) (bc (bc (bc (bc (Nat.beq (List.length ([] ++ q ++ bodyL n)) (List.length ([] ++ q ++ bodyL n))) (eqN (bc (Nat.blt 0 (List.length q)) Bool.true (Nat.blt 0 (List.length (bodyL n)))) (bc (Nat.blt 0 (List.length q)) Bool.true (Nat.blt 0 (List.length (bodyL n))))) Bool.false) Bool.true Bool.false) Bool.true Bool.false) Bool.true Bool.false) Bool.false)
          (bc (bc (bc (bc (Decidable.decide (1 ≤ n)) (Decidable.decide (n ≤ 100)) Bool.false) (bc (bc (Nat.beq (List.length ([] ++ q ++ bodyL n ++ [[U.i 1, U.i (IntKind.wrap IntKind.i64 (n - 1)), U.s { data := #[80] }]])) (List.length ([] ++ q ++ bodyL n ++ [[U.i 1, U.i (IntKind.wrap IntKind.i64 (n - 1)), U.s { data := #[80] }]]))) (bc (Nat.ble (List.length ([] ++ q ++ bodyL n ++ [[U.i 1, U.i (IntKind.wrap IntKind.i64 (n - 1)), U.s { data := #[80] }]]) + List.length (bodyL n)) 65536) (bc (bc (bc (Nat.blt 0 (List.length q)) Bool.true (Nat.blt 0 (List.length (bodyL n)))) Bool.true (Nat.blt 0 (List.length [[U.i 1, U.i (IntKind.wrap IntKind.i64 (n - 1)), U.s { data := #[80] }]]))) Bool.true (bc (bc (bc (Nat.blt 0 (List.length q)) Bool.true (Nat.blt 0 (List.length (bodyL n)))) Bool.true (Nat.blt 0 (List.length [[U.i 1, U.i (IntKind.wrap IntKind.i64 (n - 1)), U.s { data := #[80] }]]))) Bool.false Bool.true)) Bool.false) Bool.false) Bool.true Bool.false) Bool.false) (bc (bc (bc (bc (Nat.beq (List.length ([] ++ q ++ bodyL n ++ [[U.i 1, U.i (IntKind.wrap IntKind.i64 (n - 1)), U.s { data := #[80] }]])) (List.length ([] ++ q ++ bodyL n ++ [[U.i 1, U.i (IntKind.wrap IntKind.i64 (n - 1)), U.s { data := #[80] }]]))) (eqN (bc (bc (Nat.blt 0 (List.length q)) Bool.true (Nat.blt 0 (List.length (bodyL n)))) Bool.true (Nat.blt 0 (List.length [[U.i 1, U.i (IntKind.wrap IntKind.i64 (n - 1)), U.s { data := #[80] }]]))) (bc (bc (Nat.blt 0 (List.length q)) Bool.true (Nat.blt 0 (List.length (bodyL n)))) Bool.true (Nat.blt 0 (List.length [[U.i 1, U.i (IntKind.wrap IntKind.i64 (n - 1)), U.s { data := #[80] }]])))) Bool.false) Bool.true Bool.false) Bool.true Bool.false) Bool.true Bool.false) Bool.false)
            (bc (bc (Nat.beq (List.length q) (List.length q)) (bc (Nat.beq (List.length ([] ++ q ++ bodyL n ++ [[U.i 1, U.i (IntKind.wrap IntKind.i64 (n - 1)), U.s { data := #[80] }]] ++ bodyL n)) (List.length ([] ++ q ++ bodyL n ++ [[U.i 1, U.i (IntKind.wrap IntKind.i64 (n - 1)), U.s { data := #[80] }]] ++ bodyL n))) (bc (Nat.ble (List.length ([] ++ q ++ bodyL n ++ [[U.i 1, U.i (IntKind.wrap IntKind.i64 (n - 1)), U.s { data := #[80] }]] ++ bodyL n) + List.length q) 65536) (bc (bc (bc (bc (Nat.blt 0 (List.length q)) Bool.true (Nat.blt 0 (List.length (bodyL n)))) Bool.true (Nat.blt 0 (List.length [[U.i 1, U.i (IntKind.wrap IntKind.i64 (n - 1)), U.s { data := #[80] }]]))) Bool.true (Nat.blt 0 (List.length (bodyL n)))) Bool.true (bc (bc (bc (bc (Nat.blt 0 (List.length q)) Bool.true (Nat.blt 0 (List.length (bodyL n)))) Bool.true (Nat.blt 0 (List.length [[U.i 1, U.i (IntKind.wrap IntKind.i64 (n - 1)), U.s { data := #[80] }]]))) Bool.true (Nat.blt 0 (List.length (bodyL n)))) Bool.false Bool.true)) Bool.false) Bool.false) Bool.false)
              (bc (bc (bc (Nat.beq (List.length ([] ++ q ++ bodyL n ++ [[U.i 1, U.i (IntKind.wrap IntKind.i64 (n - 1)), U.s { data := #[80] }]] ++ bodyL n ++ q)) (List.length ([] ++ q ++ bodyL n ++ [[U.i 1, U.i (IntKind.wrap IntKind.i64 (n - 1)), U.s { data := #[80] }]] ++ bodyL n ++ q))) Bool.true Bool.false) Bool.true Bool.false)
                (.done (EV.tup [(EV.agg [(EV.v (Value.int IntKind.i64 (IntKind.wrap IntKind.i64 (2 * n)))), (EV.lst (SyC.recs [(Sh.int IntKind.i64), (Sh.int IntKind.i64), Sh.str] ([] ++ q ++ bodyL n ++ [[U.i 1, U.i (IntKind.wrap IntKind.i64 (n - 1)), U.s { data := #[80] }]] ++ bodyL n ++ q)))]), (EV.v (Value.int IntKind.i64 (0)))]) [] 0)
                .bad)
              .bad)
            .bad)
          .bad)
        .bad)
      .bad))
  (bc (bc (Nat.beq (List.length q) (List.length q)) (bc (Nat.ble (0 + List.length q) 65536) Bool.true Bool.false) Bool.false)
    (bc (bc (bc (bc (Decidable.decide (1 ≤ n)) (Decidable.decide (n ≤ 100)) Bool.false) (bc (bc (Nat.beq (List.length ([] ++ q)) (List.length ([] ++ q))) (bc (Nat.ble (List.length ([] ++ q) + List.length (bodyL n)) 65536) (bc (Nat.blt 0 (List.length q)) Bool.true (bc (Nat.blt 0 (List.length q)) Bool.false Bool.true)) Bool.false) Bool.false) Bool.true Bool.false) Bool.false) (bc (bc (bc (bc (Nat.beq (List.length ([] ++ q)) (List.length ([] ++ q))) (eqN (Nat.blt 0 (List.length q)) (Nat.blt 0 (List.length q))) Bool.false) Bool.true Bool.false) Bool.true Bool.false) Bool.true Bool.false) Bool.false)
      (bc (bc (bc (bc (Nat.beq (List.length ([] ++ q ++ bodyL n)) (List.length ([] ++ q ++ bodyL n))) (bc (Nat.ble (List.length ([] ++ q ++ bodyL n) + List.length [[U.i 1, U.i (IntKind.wrap IntKind.i64 (n - 1)), U.s { data := #[80] }]]) 65536) (bc (bc (Nat.blt 0 (List.length q)) Bool.true (Nat.blt 0 (List.length (bodyL n)))) Bool.true (bc (bc (Nat.blt 0 (List.length q)) Bool.true (Nat.blt 0 (List.length (bodyL n)))) Bool.false Bool.true)) Bool.false) Bool.false) Bool.true Bool.false) (bc (bc (bc (bc (Nat.beq (List.length ([] ++ q ++ bodyL n)) (List.length ([] ++ q ++ bodyL n))) (eqN (bc (Nat.blt 0 (List.length q)) Bool.true (Nat.blt 0 (List.length (bodyL n)))) (bc (Nat.blt 0 (List.length q)) Bool.true (Nat.blt 0 (List.length (bodyL n))))) Bool.false) Bool.true Bool.false) Bool.true Bool.false) Bool.true Bool.false) Bool.false)
        (bc (bc (bc (bc (Decidable.decide (1 ≤ n)) (Decidable.decide (n ≤ 100)) Bool.false) (bc (bc (Nat.beq (List.length ([] ++ q ++ bodyL n ++ [[U.i 1, U.i (IntKind.wrap IntKind.i64 (n - 1)), U.s { data := #[80] }]])) (List.length ([] ++ q ++ bodyL n ++ [[U.i 1, U.i (IntKind.wrap IntKind.i64 (n - 1)), U.s { data := #[80] }]]))) (bc (Nat.ble (List.length ([] ++ q ++ bodyL n ++ [[U.i 1, U.i (IntKind.wrap IntKind.i64 (n - 1)), U.s { data := #[80] }]]) + List.length (bodyL n)) 65536) (bc (bc (bc (Nat.blt 0 (List.length q)) Bool.true (Nat.blt 0 (List.length (bodyL n)))) Bool.true (Nat.blt 0 (List.length [[U.i 1, U.i (IntKind.wrap IntKind.i64 (n - 1)), U.s { data := #[80] }]]))) Bool.true (bc (bc (bc (Nat.blt 0 (List.length q)) Bool.true (Nat.blt 0 (List.length (bodyL n)))) Bool.true (Nat.blt 0 (List.length [[U.i 1, U.i (IntKind.wrap IntKind.i64 (n - 1)), U.s { data := #[80] }]]))) Bool.false Bool.true)) Bool.false) Bool.false) Bool.true Bool.false) Bool.false) (bc (bc (bc (bc (Nat.beq (List.length ([] ++ q ++ bodyL n ++ [[U.i 1, U.i (IntKind.wrap IntKind.i64 (n - 1)), U.s { data := #[80] }]])) (List.length ([] ++ q ++ bodyL n ++ [[U.i 1, U.i (IntKind.wrap IntKind.i64 (n - 1)), U.s { data := #[80] }]]))) (eqN (bc (bc (Nat.blt 0 (List.length q)) Bool.true (Nat.blt 0 (List.length (bodyL n)))) Bool.true (Nat.blt 0 (List.length [[U.i 1, U.i (IntKind.wrap IntKind.i64 (n - 1)), U.s { data := #[80] }]]))) (bc (bc (Nat.blt 0 (List.length q)) Bool.true (Nat.blt 0 (List.length (bodyL n)))) Bool.true (Nat.blt 0 (List.length [[U.i 1, U.i (IntKind.wrap IntKind.i64 (n - 1)), U.s { data := #[80] }]])))) Bool.false) Bool.true Bool.false) Bool.true Bool.false) Bool.true Bool.false) Bool.false)
          (bc (bc (Nat.beq (List.length q) (List.length q)) (bc (Nat.beq (List.length ([] ++ q ++ bodyL n ++ [[U.i 1, U.i (IntKind.wrap IntKind.i64 (n - 1)), U.s { data := #[80] }]] ++ bodyL n)) (List.length ([] ++ q ++ bodyL n ++ [[U.i 1, U.i (IntKind.wrap IntKind.i64 (n - 1)), U.s { data := #[80] }]] ++ bodyL n))) (bc (Nat.ble (List.length ([] ++ q ++ bodyL n ++ [[U.i 1, U.i (IntKind.wrap IntKind.i64 (n - 1)), U.s { data := #[80] }]] ++ bodyL n) + List.length q) 65536) (bc (bc (bc (bc (Nat.blt 0 (List.length q)) Bool.true (Nat.blt 0 (List.length (bodyL n)))) Bool.true (Nat.blt 0 (List.length [[U.i 1, U.i (IntKind.wrap IntKind.i64 (n - 1)), U.s { data := #[80] }]]))) Bool.true (Nat.blt 0 (List.length (bodyL n)))) Bool.true (bc (bc (bc (bc (Nat.blt 0 (List.length q)) Bool.true (Nat.blt 0 (List.length (bodyL n)))) Bool.true (Nat.blt 0 (List.length [[U.i 1, U.i (IntKind.wrap IntKind.i64 (n - 1)), U.s { data := #[80] }]]))) Bool.true (Nat.blt 0 (List.length (bodyL n)))) Bool.false Bool.true)) Bool.false) Bool.false) Bool.false)
            (bc (bc (bc (Nat.beq (List.length ([] ++ q ++ bodyL n ++ [[U.i 1, U.i (IntKind.wrap IntKind.i64 (n - 1)), U.s { data := #[80] }]] ++ bodyL n ++ q)) (List.length ([] ++ q ++ bodyL n ++ [[U.i 1, U.i (IntKind.wrap IntKind.i64 (n - 1)), U.s { data := #[80] }]] ++ bodyL n ++ q))) Bool.true Bool.false) Bool.true Bool.false)
              (.done (EV.tup [(EV.agg [(EV.v (Value.int IntKind.i64 (IntKind.wrap IntKind.i64 (2 * n)))), (EV.lst (SyC.recs [(Sh.int IntKind.i64), (Sh.int IntKind.i64), Sh.str] ([] ++ q ++ bodyL n ++ [[U.i 1, U.i (IntKind.wrap IntKind.i64 (n - 1)), U.s { data := #[80] }]] ++ bodyL n ++ q)))]), (EV.v (Value.int IntKind.i64 (0)))]) [] 0)
              .bad)
            .bad)
          .bad)
        .bad)
      .bad)
    .bad)) := by kernel_rfl
end MRSp
end Go.Proofs.Ytojbgacoolanlaa.Ev
namespace Go.Proofs.Ytojbgacoolanlaa.Ev
open Go.Proofs
theorem lets_size (s : ByteArray) (n : Int) : (lets s n).size = n.toNat * s.size := by
  unfold lets
  rw [catN_size]
  show 0 + _ = _
  omega
noncomputable abbrev bP : ByteArray := ByteArray.mk #[80]
noncomputable abbrev bL : ByteArray := ByteArray.mk #[76]
noncomputable abbrev bT : ByteArray := ByteArray.mk #[84]
noncomputable def picW (n : Int) : ByteArray := lets bL n ++ bP ++ lets bL n
noncomputable def picL (n : Int) : List (List U) := bc (decide (n < 1)) [] (bc (decide (7 < n)) [] [wk (picW n) 0])
noncomputable def picP (n : Int) : Int := bc (decide (n < 1)) 0 (bc (decide (7 < n)) 0 2)
noncomputable def picE (n : Int) : Int := bc (decide (n < 1)) 7 (bc (decide (7 < n)) 7 0)
theorem MRPic.ends (n : Int) : EndZ 21 ctR1 false (st0 21 [iv n]) (shE (picP n) (picL n) (picE n)) [] 0 := by
  have h := MRPic.in_t n
  unfold picP picL picE
  by_cases h1 : n < 1
  · simp only [dt h1, bc_t] at h ⊢; exact (EndZ.done h).weak (shN_weak 7)
  by_cases h2 : 7 < n
  · simp only [df h1, dt h2, bc_t, bc_f] at h ⊢; exact (EndZ.done h).weak (shN_weak 7)
  · have e1 : (ByteArray.mk #[76]).size = 1 := rfl
    have e2 : (ByteArray.mk #[80]).size = 1 := rfl
    simp (disch := omega) only [Nat.add_eq, eqSy_self, eqN_self, bc_same, List.length_cons, ofn, wrap_in, dt, df, bltD, bltN, ble_of, bleN, beqD, bc_t, bc_f, nn_ok, Nat.zero_add, to_nat, Int.zero_add, Int.sub_zero, Int.sub_self, Int.cast_ofNat_Int, Int.natCast_zero, Int.toNat_zero, List.take_zero, List.nil_append, List.length_append, List.length_nil, df h1, df h2, ByteArray.size_append, lets_size, e1, e2] at h ⊢
    exact .done h
noncomputable def spPic : ZCT := fun ax => match ax with
  | [.v (.int .i64 n)] => some ⟨true, shE (picP n) (picL n) (picE n), [], 0⟩
  | _ => none
theorem spRPic_ok : ZCtOk Try.prog 21 spPic := fun γ w us ax r hs hc hax hN hfz => by
  unfold spPic at hs
  split at hs
  · rename_i n
    obtain ⟨rfl⟩ := Option.some.inj hs
    exact (MRPic.ends n).calls ctR1_ok (by kernel_rfl) hax hN hfz
  · cases hs
noncomputable def winL : List (List U) := [wk bCTC 1, wk bCTC 0, wk bCTC 2, wk bP 1, wk bCTC 1]
noncomputable def spWin : ZCT := fun ax => match ax with
  | [] => some ⟨true, .agg [iv 4, wl winL], [], 0⟩
  | _ => none
theorem spRWin_ok : ZCtOk Try.prog 25 spWin := fun γ w us ax r hs hc hax hN hfz => by
  unfold spWin at hs
  split at hs
  · obtain ⟨rfl⟩ := Option.some.inj hs
    exact (EndZ.done (MRWin.in_t 0)).calls ctR1_ok (by kernel_rfl) hax hN hfz
  · cases hs
/-! ### Spider -/
noncomputable def twR (t : Int) (i : Nat) : Nat → List (List U)
  | 0 => []
  | m + 1 => wk (lets bT t) (2 * (i : Int)) :: twR t (i + 1) m
noncomputable def tws (n t : Int) : List (List U) := bc (decide (0 < t)) (twR t 0 n.toNat) []
noncomputable def spiL (n : Int) (q : List (List U)) : List (List U) := q ++ bodyL n ++ [wk bP (n - 1)] ++ bodyL n ++ q
theorem bodyL_len {n : Int} (h : n ≤ 6) : (bodyL n).length ≤ 36 := by
  unfold bodyL
  rw [bodyR_len]
  exact Nat.le_trans (Nat.mul_le_mul (show n.toNat ≤ 6 by omega) (show n.toNat ≤ 6 by omega)) (by omega)
namespace MRSp
theorem step {n t : Int} {i : Nat} {q : List (List U)} {nn : Bool} (hi : (i : Int) < n) (hn : n ≤ 6) (ht : 0 < t) (ht2 : t ≤ 16) (hq : q.length < 65536) : RUN (stOf (sRS n t i q nn)) = .at (sRS n t (i + 1 : Nat) (q ++ [wk (lets bT t) (2 * (i : Int))]) true) := by
  rw [step_t]
  have e1 : (ByteArray.mk #[84]).size = 1 := rfl
  simp (disch := omega) only [Nat.add_eq, eqSy_self, eqN_self, bc_same, List.length_cons, ofn, wrap_in, dt, df, bltD, bltN, ble_of, bleN, beqD, bc_t, bc_f, nn_ok, Nat.zero_add, to_nat, Int.zero_add, Int.sub_zero, Int.sub_self, Int.cast_ofNat_Int, Int.natCast_zero, Int.toNat_zero, List.take_zero, List.nil_append, List.length_append, List.length_nil, e1]
  rfl
theorem fin {n t : Int} {i : Nat} {q : List (List U)} {nn : Bool} (hn1 : 1 ≤ n) (hn : n ≤ 6) (h : n ≤ (i : Int) ∨ t ≤ 0) (hq : q.length ≤ 1000) : RUN (stOf (sRS n t i q nn)) = .done (shE (2 * n) (spiL n q) 0) [] 0 := by
  rw [step_t]
  have hb := bodyL_len hn
  by_cases hi : (i : Int) < n
  · have ht : ¬ 0 < t := by omega
    simp (disch := omega) only [Nat.add_eq, eqSy_self, eqN_self, bc_same, List.length_cons, ofn, wrap_in, dt, df, bltD, bltN, ble_of, bleN, beqD, bc_t, bc_f, nn_ok, Nat.zero_add, to_nat, Int.zero_add, Int.sub_zero, Int.sub_self, Int.cast_ofNat_Int, Int.natCast_zero, Int.toNat_zero, List.take_zero, List.nil_append, List.length_append, List.length_nil, dt hi, df ht]
    rfl
  · simp (disch := omega) only [Nat.add_eq, eqSy_self, eqN_self, bc_same, List.length_cons, ofn, wrap_in, dt, df, bltD, bltN, ble_of, bleN, beqD, bc_t, bc_f, nn_ok, Nat.zero_add, to_nat, Int.zero_add, Int.sub_zero, Int.sub_self, Int.cast_ofNat_Int, Int.natCast_zero, Int.toNat_zero, List.take_zero, List.nil_append, List.length_append, List.length_nil, df hi]
    rfl
theorem loop {n t : Int} (hn1 : 1 ≤ n) (hn : n ≤ 6) (ht : 0 < t) (ht2 : t ≤ 16) : ∀ (k i : Nat) (q : List (List U)) (nn : Bool), (i : Int) + k = n → q.length ≤ 100 + i → EndZ 22 ctR1 false (stOf (sRS n t i q nn)) (shE (2 * n) (spiL n (q ++ twR t i k)) 0) [] 0
  | 0, i, q, nn, h, hq => by
    show EndZ _ _ _ _ (shE (2 * n) (spiL n (q ++ [])) 0) _ _
    rw [List.append_nil]
    exact .done (fin hn1 hn (by omega) (by omega))
  | k + 1, i, q, nn, h, hq => by
    show EndZ _ _ _ _ (shE (2 * n) (spiL n (q ++ (wk (lets bT t) (2 * (i : Int)) :: twR t (i + 1) k))) 0) _ _
    rw [show q ++ wk (lets bT t) (2 * (i : Int)) :: twR t (i + 1) k = (q ++ [wk (lets bT t) (2 * (i : Int))]) ++ twR t (i + 1) k by simp]
    exact .at ctR1_ok (step (by omega) hn ht ht2 (by omega)) (loop hn1 hn ht ht2 k (i + 1) _ _ (by omega) (by simp; omega))
end MRSp
noncomputable def spiOk (n t : Int) : Bool := bc (decide (n < 1)) false (bc (decide (6 < n)) false (bc (decide (t < 0)) false (bc (decide (16 < t)) false true)))
noncomputable def spSpi : ZCT := fun ax => match ax with
  | [.v (.int .i64 n), .v (.int .i64 t)] => some ⟨true, shE (bc (spiOk n t) (2 * n) 0) (bc (spiOk n t) (spiL n (tws n t)) []) (bc (spiOk n t) 0 7), [], 0⟩
  | _ => none
theorem MRSp.ends (n t : Int) : EndZ 22 ctR1 false (st0 22 [iv n, iv t]) (shE (bc (spiOk n t) (2 * n) 0) (bc (spiOk n t) (spiL n (tws n t)) []) (bc (spiOk n t) 0 7)) [] 0 := by
  have h := MRSp.in_t n t
  unfold spiOk
  by_cases h1 : n < 1
  · simp only [dt h1, bc_t, bc_f] at h ⊢; exact (EndZ.done h).weak (shN_weak 7)
  by_cases h2 : 6 < n
  · simp only [df h1, dt h2, bc_t, bc_f] at h ⊢; exact (EndZ.done h).weak (shN_weak 7)
  by_cases h3 : t < 0
  · simp only [df h1, df h2, dt h3, bc_t, bc_f] at h ⊢; exact (EndZ.done h).weak (shN_weak 7)
  by_cases h4 : 16 < t
  · simp only [df h1, df h2, df h3, dt h4, bc_t, bc_f] at h ⊢; exact (EndZ.done h).weak (shN_weak 7)
  simp only [df h1, df h2, df h3, df h4, bc_t, bc_f] at h ⊢
  unfold tws
  by_cases h5 : 0 < t
  · rw [dt h5, bc_t]
    exact .at ctR1_ok h (MRSp.loop (by omega) (by omega) h5 (by omega) n.toNat 0 [] false (by omega) (by simp))
  · rw [df h5, bc_f]
    exact .at ctR1_ok h (.done (MRSp.fin (i := 0) (by omega) (by omega) (by omega) (by simp)))
theorem spRSpi_ok : ZCtOk Try.prog 22 spSpi := fun γ w us ax r hs hc hax hN hfz => by
  unfold spSpi at hs
  split at hs
  · rename_i n t
    obtain ⟨rfl⟩ := Option.some.inj hs
    exact (MRSp.ends n t).calls ctR1_ok (by kernel_rfl) hax hN hfz
  · cases hs
/-! ### Fan -/
noncomputable abbrev bRP : ByteArray := ByteArray.mk #[82, 80]
noncomputable abbrev bLLP : ByteArray := ByteArray.mk #[76, 76, 80]
noncomputable def upR (i : Nat) : Nat → List (List U)
  | 0 => []
  | m + 1 => wk bCTC (i : Int) :: upR (i + 1) m
noncomputable def downR : Nat → List (List U)
  | 0 => []
  | j + 1 => wk bCTC (j : Int) :: downR j
theorem upR_len : ∀ (m i : Nat), (upR i m).length = m
  | 0, _ => rfl
  | m + 1, i => by unfold upR; simp [upR_len m]
theorem downR_len : ∀ (j : Nat), (downR j).length = j
  | 0 => rfl
  | j + 1 => by unfold downR; simp [downR_len j]
noncomputable def thereL (w : ByteArray) (k : Nat) : List (List U) := upR 0 k ++ [wk w ((k : Int) - 1)] ++ downR k
def kk (n r : Nat) : Nat := if 2 * n - r < r then 2 * n - r else r
theorem kk_le {n r : Nat} (h : 1 ≤ r) (h2 : r < 2 * n) : 1 ≤ kk n r ∧ kk n r ≤ n := by unfold kk; split <;> omega
noncomputable def fanR (n r : Nat) : Nat → List (List U)
  | 0 => []
  | m + 1 => thereL bRP (kk n r) ++ fanR n (r + 1) m
namespace MRFan
noncomputable def RUN (s : ES) : ZF := RZs 23 ctR1 [(atS 0 23 9, [[(0,none),(2,none),(4,some (3, 56, .recs shW [])),(5,none),(6,none),(7,none)]]), (atS 0 23 14, [[(0,none),(2,none),(4,some (3, 56, .recs shW [])),(5,none),(8,none)]])] [] false s

noncomputable def sA (n r k i : Int) (q : List (List U)) (nn : Bool) : NS := ⟨[⟨23, 66, [(0, (EV.v (Value.int IntKind.i64 (n)))), (2, (EV.ptr 0 0)), (4, (EV.ptr 1 0)), (5, iv r), (6, iv k), (7, iv i)], [.it (.code (nav [1, 1, 1, 0, 1, 0, 0, 1, 0, 0, 1, 0, 1, 0, 0, 0] (bodyOf Try.f23))), .it (.code (nav [1, 1, 1, 0, 1, 0, 0, 1, 0, 0, 1, 0, 1, 0, 0, 1] (bodyOf Try.f23))), .it (.inLoop (nav [1, 1, 1, 0, 1, 0, 0, 1, 0, 0, 1, 0, 1, 0, 0] (bodyOf Try.f23))), .it (.inBlock 2), .it (.code (nav [1, 1, 1, 0, 1, 0, 0, 1, 0, 0, 1, 1] (bodyOf Try.f23))), .it (.inBlock 1), .it (.code (nav [1, 1, 1, 0, 1, 0, 0, 1, 1] (bodyOf Try.f23))), .it (.inLoop (nav [1, 1, 1, 0, 1, 0, 0] (bodyOf Try.f23))), .it (.inBlock 0), .it (.code (nav [1, 1, 1, 1] (bodyOf Try.f23)))], [], Option.none⟩], [(0, (EK.cells 24 [(EV.v (Value.int IntKind.i64 (0))), (EV.v (Value.slice Option.none 0 0))] true)), (1, EK.cells 24 [iv (IntKind.i64.wrap (n + 1)), EV.slO 2 3 q.length nn] true), (2, EK.seq 56 (.recs shW q) nn)], 3⟩
noncomputable def sB (n r i : Int) (q : List (List U)) (nn : Bool) : NS := ⟨[⟨23, 66, [(0, (EV.v (Value.int IntKind.i64 (n)))), (2, (EV.ptr 0 0)), (4, (EV.ptr 1 0)), (5, iv r), (8, iv i)], [.it (.code (nav [1, 1, 1, 0, 1, 0, 0, 1, 0, 0, 1, 1, 1, 1, 0, 0, 0] (bodyOf Try.f23))), .it (.code (nav [1, 1, 1, 0, 1, 0, 0, 1, 0, 0, 1, 1, 1, 1, 0, 0, 1] (bodyOf Try.f23))), .it (.inLoop (nav [1, 1, 1, 0, 1, 0, 0, 1, 0, 0, 1, 1, 1, 1, 0, 0] (bodyOf Try.f23))), .it (.inBlock 4), .it (.inBlock 1), .it (.code (nav [1, 1, 1, 0, 1, 0, 0, 1, 1] (bodyOf Try.f23))), .it (.inLoop (nav [1, 1, 1, 0, 1, 0, 0] (bodyOf Try.f23))), .it (.inBlock 0), .it (.code (nav [1, 1, 1, 1] (bodyOf Try.f23)))], [], Option.none⟩], [(0, (EK.cells 24 [(EV.v (Value.int IntKind.i64 (0))), (EV.v (Value.slice Option.none 0 0))] true)), (1, EK.cells 24 [iv (IntKind.i64.wrap (n + 1)), EV.slO 2 3 q.length nn] true), (2, EK.seq 56 (.recs shW q) nn)], 3⟩
theorem in_t (n : Int) : RUN (st0 23 [iv n]) = (bc (Decidable.decide (n < 1))
  (.done (EV.tup [(EV.v (Value.agg (Array.mk [(Value.int IntKind.i64 (0)), (Value.slice Option.none 0 0)]))), (EV.v (Value.int IntKind.i64 (7)))]) [] 0)
  (bc (Decidable.decide (12 < n))
    (.done (EV.tup [(EV.v (Value.agg (Array.mk [(Value.int IntKind.i64 (0)), (Value.slice Option.none 0 0)]))), (EV.v (Value.int IntKind.i64 (7)))]) [] 0)
    (bc (Decidable.decide (1 ≤ IntKind.wrap IntKind.i64 (IntKind.wrap IntKind.i64 (2 * n) - 1)))
      (.at (sA (n) (1) (if IntKind.wrap IntKind.i64 (IntKind.wrap IntKind.i64 (2 * n) - 1) < 1 then IntKind.wrap IntKind.i64 (IntKind.wrap IntKind.i64 (2 * n) - 1) else 1) (0) ([]) (Bool.false)))
      (.done (EV.tup [(EV.v (Value.agg (Array.mk [(Value.int IntKind.i64 (IntKind.wrap IntKind.i64 (n + 1))), (Value.slice Option.none 0 0)]))), (EV.v (Value.int IntKind.i64 (0)))]) [] 0)))) := by kernel_rfl
theorem a_t (n r k i : Int) (q : List (List U)) (nn : Bool) : RUN (stOf (sA n r k i q nn)) = (bc (Decidable.decide (i < k))
  (bc (bc (bc (bc (Nat.beq (List.length q) (List.length q)) (bc (Nat.ble (List.length q + List.length [[U.i 1, U.i i, U.s { data := #[67, 84, 67] }]]) 65536) (bc nn Bool.true (bc nn Bool.false Bool.true)) Bool.false) Bool.false) Bool.true Bool.false) (bc (bc (bc (bc (Nat.beq (List.length q) (List.length q)) (eqN nn nn) Bool.false) Bool.true Bool.false) Bool.true Bool.false) Bool.true Bool.false) Bool.false)
    (.at (sA (n) (r) (k) (IntKind.wrap IntKind.i64 (i + 1)) (q ++ [[U.i 1, U.i i, U.s { data := #[67, 84, 67] }]]) (bc nn Bool.true (Nat.blt 0 (List.length [[U.i 1, U.i i, U.s { data := #[67, 84, 67] }]])))))
    .bad)
  (bc (bc (bc (bc (Nat.beq (List.length q) (List.length q)) (bc (Nat.ble (List.length q + List.length [[U.i 1, U.i (IntKind.wrap IntKind.i64 (k - 1)), U.s { data := #[82, 80] }]]) 65536) (bc nn Bool.true (bc nn Bool.false Bool.true)) Bool.false) Bool.false) Bool.true Bool.false) (bc (bc (bc (bc (Nat.beq (List.length q) (List.length q)) (eqN nn nn) Bool.false) Bool.true Bool.false) Bool.true Bool.false) Bool.true Bool.false) Bool.false)
    (.at (sB (n) (r) (IntKind.wrap IntKind.i64 (k - 1)) (q ++ [[U.i 1, U.i (IntKind.wrap IntKind.i64 (k - 1)), U.s { data := #[82, 80] }]]) (bc nn Bool.true (Nat.blt 0 (List.length [[U.i 1, U.i (IntKind.wrap IntKind.i64 (k - 1)), U.s { data := #[82, 80] }]])))))
    .bad)) := by kernel_rfl
theorem b_t (n r i : Int) (q : List (List U)) (nn : Bool) : RUN (stOf (sB n r i q nn)) = (bc (Decidable.decide (0 ≤ i))
  (bc (bc (bc (bc (Nat.beq (List.length q) (List.length q)) (bc (Nat.ble (List.length q + List.length [[U.i 1, U.i i, U.s { data := #[67, 84, 67] }]]) 65536) (bc nn Bool.true (bc nn Bool.false Bool.true)) Bool.false) Bool.false) Bool.true Bool.false) (bc (bc (bc (bc (Nat.beq (List.length q) (List.length q)) (eqN nn nn) Bool.false) Bool.true Bool.false) Bool.true Bool.false) Bool.true Bool.false) Bool.false)
    (.at (sB (n) (r) (IntKind.wrap IntKind.i64 (i - 1)) (q ++ [[U.i 1, U.i i, U.s { data := #[67, 84, 67] }]]) (bc nn Bool.true (Nat.blt 0 (List.length [[U.i 1, U.i i, U.s { data := #[67, 84, 67] }]])))))
    .bad)
  (bc (Decidable.decide (IntKind.wrap IntKind.i64 (r + 1) ≤ IntKind.wrap IntKind.i64 (IntKind.wrap IntKind.i64 (2 * n) - 1)))
    (.at (sA (n) (IntKind.wrap IntKind.i64 (r + 1)) (if IntKind.wrap IntKind.i64 (IntKind.wrap IntKind.i64 (2 * n) - IntKind.wrap IntKind.i64 (r + 1)) < IntKind.wrap IntKind.i64 (r + 1) then IntKind.wrap IntKind.i64 (IntKind.wrap IntKind.i64 (2 * n) - IntKind.wrap IntKind.i64 (r + 1)) else IntKind.wrap IntKind.i64 (r + 1)) (0) (q) (nn)))
    (bc (bc (bc (Nat.beq (List.length q) (List.length q)) Bool.true Bool.false) Bool.true Bool.false)
      (.done (EV.tup [(EV.agg [(EV.v (Value.int IntKind.i64 (IntKind.wrap IntKind.i64 (n + 1)))), (EV.lst (SyC.recs [(Sh.int IntKind.i64), (Sh.int IntKind.i64), Sh.str] (q)))]), (EV.v (Value.int IntKind.i64 (0)))]) [] 0)
      .bad))) := by kernel_rfl
theorem aStep {n r : Int} {k i : Nat} {q : List (List U)} {nn : Bool} (hi : i < k) (hk : k ≤ 12) (hq : q.length < 65536) : RUN (stOf (sA n r k i q nn)) = .at (sA n r k (i + 1 : Nat) (q ++ [wk bCTC i]) true) := by
  rw [a_t]
  simp (disch := omega) only [Nat.add_eq, eqSy_self, eqN_self, bc_same, List.length_cons, ofn, wrap_in, dt, df, bltD, bltN, ble_of, bleN, beqD, bc_t, bc_f, nn_ok, Nat.zero_add, to_nat, Int.zero_add, Int.sub_zero, Int.sub_self, Int.cast_ofNat_Int, Int.natCast_zero, Int.toNat_zero, List.take_zero, List.nil_append, List.length_append, List.length_nil]
  rfl
theorem aEnd {n r : Int} {k i : Nat} {q : List (List U)} {nn : Bool} (hi : k ≤ i) (h1 : 1 ≤ k) (hk : k ≤ 12) (hq : q.length < 65536) : RUN (stOf (sA n r k i q nn)) = .at (sB n r ((k : Int) - 1) (q ++ [wk bRP ((k : Int) - 1)]) true) := by
  rw [a_t]
  simp (disch := omega) only [Nat.add_eq, eqSy_self, eqN_self, bc_same, List.length_cons, ofn, wrap_in, dt, df, bltD, bltN, ble_of, bleN, beqD, bc_t, bc_f, nn_ok, Nat.zero_add, to_nat, Int.zero_add, Int.sub_zero, Int.sub_self, Int.cast_ofNat_Int, Int.natCast_zero, Int.toNat_zero, List.take_zero, List.nil_append, List.length_append, List.length_nil]
  rfl
theorem aLoop {n r : Int} {k : Nat} (h1 : 1 ≤ k) (hk : k ≤ 12) : ∀ (m i : Nat) (q : List (List U)) (nn : Bool), i + m = k → q.length + m < 65000 → LeadsZ Try.prog (stOf (sA n r k i q nn)) (stOf (sB n r ((k : Int) - 1) (q ++ upR i m ++ [wk bRP ((k : Int) - 1)]) true))
  | 0, i, q, nn, h, hq => by
    show LeadsZ _ _ (stOf (sB n r ((k : Int) - 1) (q ++ [] ++ [wk bRP ((k : Int) - 1)]) true))
    rw [List.append_nil]
    exact leadsZ ctR1_ok (aEnd (by omega) h1 hk (by omega))
  | m + 1, i, q, nn, h, hq => by
    show LeadsZ _ _ (stOf (sB n r ((k : Int) - 1) (q ++ (wk bCTC (i : Int) :: upR (i + 1) m) ++ [wk bRP ((k : Int) - 1)]) true))
    rw [show q ++ (wk bCTC (i : Int) :: upR (i + 1) m) = (q ++ [wk bCTC (i : Int)]) ++ upR (i + 1) m by simp]
    exact (leadsZ ctR1_ok (aStep (by omega) hk (by omega))).trans (aLoop h1 hk m (i + 1) _ _ (by omega) (by rw [List.length_append]; simp only [List.length_cons, List.length_nil]; omega))
theorem bStep {n r : Int} {j : Nat} {q : List (List U)} {nn : Bool} (hj : j ≤ 12) (hq : q.length < 65536) : RUN (stOf (sB n r j q nn)) = .at (sB n r ((j : Int) - 1) (q ++ [wk bCTC j]) true) := by
  rw [b_t]
  simp (disch := omega) only [Nat.add_eq, eqSy_self, eqN_self, bc_same, List.length_cons, ofn, wrap_in, dt, df, bltD, bltN, ble_of, bleN, beqD, bc_t, bc_f, nn_ok, Nat.zero_add, to_nat, Int.zero_add, Int.sub_zero, Int.sub_self, Int.cast_ofNat_Int, Int.natCast_zero, Int.toNat_zero, List.take_zero, List.nil_append, List.length_append, List.length_nil]
  rfl
theorem bLoop {n r : Int} : ∀ (j : Nat) (q : List (List U)), j ≤ 12 → q.length + j < 65000 → LeadsZ Try.prog (stOf (sB n r ((j : Int) - 1) q true)) (stOf (sB n r (-1) (q ++ downR j) true))
  | 0, q, hj, hq => by
    show LeadsZ _ _ (stOf (sB n r (-1) (q ++ []) true))
    rw [List.append_nil]
    exact LeadsZ.refl _
  | j + 1, q, hj, hq => by
    show LeadsZ _ _ (stOf (sB n r (-1) (q ++ (wk bCTC (j : Int) :: downR j)) true))
    rw [show ((j + 1 : Nat) : Int) - 1 = j by omega, show q ++ (wk bCTC (j : Int) :: downR j) = (q ++ [wk bCTC (j : Int)]) ++ downR j by simp]
    exact (leadsZ ctR1_ok (bStep (by omega) (by omega))).trans (bLoop j _ (by omega) (by rw [List.length_append]; simp only [List.length_cons, List.length_nil]; omega))
theorem bNext {n r : Nat} {q : List (List U)} (hn : n ≤ 12) (hr : r + 2 ≤ 2 * n) (h0 : 1 ≤ r) : RUN (stOf (sB n r (-1) q true)) = .at (sA n (r + 1 : Nat) (kk n (r + 1) : Nat) 0 q true) := by
  rw [b_t]
  have e : (if 2 * (n : Int) - ((r + 1 : Nat) : Int) < ((r + 1 : Nat) : Int) then 2 * (n : Int) - ((r + 1 : Nat) : Int) else ((r + 1 : Nat) : Int)) = (kk n (r + 1) : Nat) := by
    unfold kk
    split <;> split <;> omega
  have e0 : ((r : Int) + 1) = ((r + 1 : Nat) : Int) := rfl
  simp (disch := omega) only [Nat.add_eq, eqSy_self, eqN_self, bc_same, List.length_cons, ofn, wrap_in, dt, df, bltD, bltN, ble_of, bleN, beqD, bc_t, bc_f, nn_ok, Nat.zero_add, to_nat, Int.zero_add, Int.sub_zero, Int.sub_self, Int.cast_ofNat_Int, Int.natCast_zero, Int.toNat_zero, List.take_zero, List.nil_append, List.length_append, List.length_nil, e0, e]
theorem bFin {n r : Nat} {q : List (List U)} (hn : n ≤ 12) (hr : 2 * n ≤ r + 1) (hr2 : r ≤ 24) : RUN (stOf (sB n r (-1) q true)) = .done (shE ((n : Int) + 1) q 0) [] 0 := by
  rw [b_t]
  simp (disch := omega) only [Nat.add_eq, eqSy_self, eqN_self, bc_same, List.length_cons, ofn, wrap_in, dt, df, bltD, bltN, ble_of, bleN, beqD, bc_t, bc_f, nn_ok, Nat.zero_add, to_nat, Int.zero_add, Int.sub_zero, Int.sub_self, Int.cast_ofNat_Int, Int.natCast_zero, Int.toNat_zero, List.take_zero, List.nil_append, List.length_append, List.length_nil]
  rfl
theorem rows {n : Nat} (h1 : 1 ≤ n) (hn : n ≤ 12) : ∀ (m r : Nat) (q : List (List U)) (nn : Bool), r + m + 1 = 2 * n → 1 ≤ r → q.length ≤ 25 * r → EndZ 23 ctR1 false (stOf (sA n r (kk n r : Nat) 0 q nn)) (shE ((n : Int) + 1) (q ++ fanR n r (m + 1)) 0) [] 0
  | 0, r, q, nn, h, hr, hq => by
    have hk := kk_le (n := n) (r := r) hr (by omega)
    have l1 := aLoop (n := n) (r := r) (k := kk n r) (by omega) (by omega) (kk n r) 0 q nn (by omega) (by omega)
    have l2 := bLoop (n := n) (r := r) (kk n r) (q ++ upR 0 (kk n r) ++ [wk bRP ((kk n r : Nat) - 1 : Int)]) (by omega) (by simp [upR_len]; omega)
    have e : q ++ fanR n r 1 = q ++ upR 0 (kk n r) ++ [wk bRP ((kk n r : Nat) - 1 : Int)] ++ downR (kk n r) := by unfold fanR fanR thereL; simp
    rw [e]
    exact .lead (l1.trans l2) (.done (bFin hn (by omega) (by omega)))
  | m + 1, r, q, nn, h, hr, hq => by
    have hk := kk_le (n := n) (r := r) hr (by omega)
    have l1 := aLoop (n := n) (r := r) (k := kk n r) (by omega) (by omega) (kk n r) 0 q nn (by omega) (by omega)
    have l2 := bLoop (n := n) (r := r) (kk n r) (q ++ upR 0 (kk n r) ++ [wk bRP ((kk n r : Nat) - 1 : Int)]) (by omega) (by simp [upR_len]; omega)
    have e : q ++ fanR n r (m + 1 + 1) = q ++ upR 0 (kk n r) ++ [wk bRP ((kk n r : Nat) - 1 : Int)] ++ downR (kk n r) ++ fanR n (r + 1) (m + 1) := by
      show q ++ (thereL bRP (kk n r) ++ fanR n (r + 1) (m + 1)) = _
      unfold thereL; simp
    rw [e]
    exact .lead (l1.trans l2) (.at ctR1_ok (bNext hn (by omega) hr) (rows h1 hn m (r + 1) _ true (by omega) (by omega) (by simp [upR_len, downR_len]; omega)))
end MRFan
noncomputable def fanL (n : Int) : List (List U) := bc (decide (n < 1)) [] (bc (decide (12 < n)) [] (fanR n.toNat 1 (2 * n.toNat - 1)))
noncomputable def fanP (n : Int) : Int := bc (decide (n < 1)) 0 (bc (decide (12 < n)) 0 (n + 1))
noncomputable def fanE (n : Int) : Int := bc (decide (n < 1)) 7 (bc (decide (12 < n)) 7 0)
theorem MRFan.ends (n : Int) : EndZ 23 ctR1 false (st0 23 [iv n]) (shE (fanP n) (fanL n) (fanE n)) [] 0 := by
  have h := MRFan.in_t n
  unfold fanP fanL fanE
  by_cases h1 : n < 1
  · simp only [dt h1, bc_t] at h ⊢; exact (EndZ.done h).weak (shN_weak 7)
  by_cases h2 : 12 < n
  · simp only [df h1, dt h2, bc_t, bc_f] at h ⊢; exact (EndZ.done h).weak (shN_weak 7)
  obtain ⟨k, rfl⟩ : ∃ k : Nat, n = (k : Int) := ⟨n.toNat, by omega⟩
  simp (disch := omega) only [df h1, df h2, bc_f, bc_t, wrap_in, dt] at h ⊢
  rw [if_neg (by omega)] at h
  rw [Int.toNat_natCast]
  have e : kk k 1 = 1 := by unfold kk; split <;> omega
  have := MRFan.rows (n := k) (by omega) (by omega) (2 * k - 2) 1 [] false (by omega) (by omega) (by simp)
  rw [e, show 2 * k - 2 + 1 = 2 * k - 1 by omega, List.nil_append] at this
  exact .at ctR1_ok h this
noncomputable def spFan : ZCT := fun ax => match ax with
  | [.v (.int .i64 n)] => some ⟨true, shE (fanP n) (fanL n) (fanE n), [], 0⟩
  | _ => none
theorem spRFan_ok : ZCtOk Try.prog 23 spFan := fun γ w us ax r hs hc hax hN hfz => by
  unfold spFan at hs
  split at hs
  · rename_i n
    obtain ⟨rfl⟩ := Option.some.inj hs
    exact (MRFan.ends n).calls ctR1_ok (by kernel_rfl) hax hN hfz
  · cases hs
/-! ### Footside -/
noncomputable def footL1 (n : Nat) : List (List U) := downR n ++ [wk bLLP 0] ++ upR 0 n
noncomputable def footR (n : Nat) : Nat → List (List U)
  | 0 => []
  | m + 1 => footL1 n ++ footR n m
namespace MRFoot
noncomputable def RUN (s : ES) : ZF := RZs 24 ctR1 [(atS 0 24 10, [[(0,none),(1,none),(4,none),(6,some (3, 56, .recs shW [])),(7,none),(8,none)]]), (atS 0 24 15, [[(0,none),(1,none),(4,none),(6,some (3, 56, .recs shW [])),(7,none),(9,none)]])] [] false s

noncomputable def sA (n m r i : Int) (q : List (List U)) (nn : Bool) : NS := ⟨[⟨24, 68, [(0, (EV.v (Value.int IntKind.i64 (n)))), (1, (EV.v (Value.int IntKind.i64 (m)))), (4, (EV.ptr 0 0)), (6, (EV.ptr 1 0)), (7, iv r), (8, iv i)], [.it (.code (nav [1, 1, 1, 1, 0, 1, 0, 0, 1, 0, 0, 0, 1, 0, 0, 0] (bodyOf Try.f24))), .it (.code (nav [1, 1, 1, 1, 0, 1, 0, 0, 1, 0, 0, 0, 1, 0, 0, 1] (bodyOf Try.f24))), .it (.inLoop (nav [1, 1, 1, 1, 0, 1, 0, 0, 1, 0, 0, 0, 1, 0, 0] (bodyOf Try.f24))), .it (.inBlock 2), .it (.code (nav [1, 1, 1, 1, 0, 1, 0, 0, 1, 0, 0, 1] (bodyOf Try.f24))), .it (.inBlock 1), .it (.code (nav [1, 1, 1, 1, 0, 1, 0, 0, 1, 1] (bodyOf Try.f24))), .it (.inLoop (nav [1, 1, 1, 1, 0, 1, 0, 0] (bodyOf Try.f24))), .it (.inBlock 0), .it (.code (nav [1, 1, 1, 1, 1] (bodyOf Try.f24)))], [], Option.none⟩], [(0, (EK.cells 24 [(EV.v (Value.int IntKind.i64 (0))), (EV.v (Value.slice Option.none 0 0))] true)), (1, EK.cells 24 [iv (IntKind.i64.wrap (n + 1)), EV.slO 2 3 q.length nn] true), (2, EK.seq 56 (.recs shW q) nn)], 3⟩
noncomputable def sB (n m r i : Int) (q : List (List U)) (nn : Bool) : NS := ⟨[⟨24, 68, [(0, (EV.v (Value.int IntKind.i64 (n)))), (1, (EV.v (Value.int IntKind.i64 (m)))), (4, (EV.ptr 0 0)), (6, (EV.ptr 1 0)), (7, iv r), (9, iv i)], [.it (.code (nav [1, 1, 1, 1, 0, 1, 0, 0, 1, 0, 0, 1, 1, 1, 0, 0, 0] (bodyOf Try.f24))), .it (.code (nav [1, 1, 1, 1, 0, 1, 0, 0, 1, 0, 0, 1, 1, 1, 0, 0, 1] (bodyOf Try.f24))), .it (.inLoop (nav [1, 1, 1, 1, 0, 1, 0, 0, 1, 0, 0, 1, 1, 1, 0, 0] (bodyOf Try.f24))), .it (.inBlock 4), .it (.inBlock 1), .it (.code (nav [1, 1, 1, 1, 0, 1, 0, 0, 1, 1] (bodyOf Try.f24))), .it (.inLoop (nav [1, 1, 1, 1, 0, 1, 0, 0] (bodyOf Try.f24))), .it (.inBlock 0), .it (.code (nav [1, 1, 1, 1, 1] (bodyOf Try.f24)))], [], Option.none⟩], [(0, (EK.cells 24 [(EV.v (Value.int IntKind.i64 (0))), (EV.v (Value.slice Option.none 0 0))] true)), (1, EK.cells 24 [iv (IntKind.i64.wrap (n + 1)), EV.slO 2 3 q.length nn] true), (2, EK.seq 56 (.recs shW q) nn)], 3⟩
theorem in_t (n m : Int) : RUN (st0 24 [iv n, iv m]) = (bc (Decidable.decide (n < 1))
  (.done (EV.tup [(EV.v (Value.agg (Array.mk [(Value.int IntKind.i64 (0)), (Value.slice Option.none 0 0)]))), (EV.v (Value.int IntKind.i64 (7)))]) [] 0)
  (bc (Decidable.decide (23 < n))
    (.done (EV.tup [(EV.v (Value.agg (Array.mk [(Value.int IntKind.i64 (0)), (Value.slice Option.none 0 0)]))), (EV.v (Value.int IntKind.i64 (7)))]) [] 0)
    (bc (Decidable.decide (m < 1))
      (.done (EV.tup [(EV.v (Value.agg (Array.mk [(Value.int IntKind.i64 (0)), (Value.slice Option.none 0 0)]))), (EV.v (Value.int IntKind.i64 (7)))]) [] 0)
      (bc (bc (bnot (IntKind.wrap IntKind.i64 (IntKind.wrap IntKind.i64 (2 * n) + 1) == 0)) Bool.true Bool.false)
        (bc (Decidable.decide (IntKind.wrap IntKind.i64 (Int.tdiv 400 (IntKind.wrap IntKind.i64 (IntKind.wrap IntKind.i64 (2 * n) + 1))) < m))
          (.done (EV.tup [(EV.v (Value.agg (Array.mk [(Value.int IntKind.i64 (0)), (Value.slice Option.none 0 0)]))), (EV.v (Value.int IntKind.i64 (3)))]) [] 0)
          (bc (Decidable.decide (0 < m))
            (.at (sA (n) (m) (0) (IntKind.wrap IntKind.i64 (n - 1)) ([]) (Bool.false)))
            (.done (EV.tup [(EV.v (Value.agg (Array.mk [(Value.int IntKind.i64 (IntKind.wrap IntKind.i64 (n + 1))), (Value.slice Option.none 0 0)]))), (EV.v (Value.int IntKind.i64 (0)))]) [] 0)))
        .bad)))) := by kernel_rfl
theorem a_t (n m r i : Int) (q : List (List U)) (nn : Bool) : RUN (stOf (sA n m r i q nn)) = (bc (Decidable.decide (0 ≤ i))
  (bc (bc (bc (bc (Nat.beq (List.length q) (List.length q)) (bc (Nat.ble (List.length q + List.length [[U.i 1, U.i i, U.s { data := #[67, 84, 67] }]]) 65536) (bc nn Bool.true (bc nn Bool.false Bool.true)) Bool.false) Bool.false) Bool.true Bool.false) (bc (bc (bc (bc (Nat.beq (List.length q) (List.length q)) (eqN nn nn) Bool.false) Bool.true Bool.false) Bool.true Bool.false) Bool.true Bool.false) Bool.false)
    (.at (sA (n) (m) (r) (IntKind.wrap IntKind.i64 (i - 1)) (q ++ [[U.i 1, U.i i, U.s { data := #[67, 84, 67] }]]) (bc nn Bool.true (Nat.blt 0 (List.length [[U.i 1, U.i i, U.s { data := #[67, 84, 67] }]])))))
    .bad)
  (bc (bc (bc (bc (Nat.beq (List.length q) (List.length q)) (bc (Nat.ble (List.length q + List.length [[U.i 1, U.i 0, U.s { data := #[76, 76, 80] }]]) 65536) (bc nn Bool.true (bc nn Bool.false Bool.true)) Bool.false) Bool.false) Bool.true Bool.false) (bc (bc (bc (bc (Nat.beq (List.length q) (List.length q)) (eqN nn nn) Bool.false) Bool.true Bool.false) Bool.true Bool.false) Bool.true Bool.false) Bool.false)
    (.at (sB (n) (m) (r) (0) (q ++ [[U.i 1, U.i 0, U.s { data := #[76, 76, 80] }]]) (bc nn Bool.true (Nat.blt 0 (List.length [[U.i 1, U.i 0, U.s { data := #[76, 76, 80] }]])))))
    .bad)) := by kernel_rfl
theorem b_t (n m r i : Int) (q : List (List U)) (nn : Bool) : RUN (stOf (sB n m r i q nn)) = (bc (Decidable.decide (i < n))
  (bc (bc (bc (bc (Nat.beq (List.length q) (List.length q)) (bc (Nat.ble (List.length q + List.length [[U.i 1, U.i i, U.s { data := #[67, 84, 67] }]]) 65536) (bc nn Bool.true (bc nn Bool.false Bool.true)) Bool.false) Bool.false) Bool.true Bool.false) (bc (bc (bc (bc (Nat.beq (List.length q) (List.length q)) (eqN nn nn) Bool.false) Bool.true Bool.false) Bool.true Bool.false) Bool.true Bool.false) Bool.false)
    (.at (sB (n) (m) (r) (IntKind.wrap IntKind.i64 (i + 1)) (q ++ [[U.i 1, U.i i, U.s { data := #[67, 84, 67] }]]) (bc nn Bool.true (Nat.blt 0 (List.length [[U.i 1, U.i i, U.s { data := #[67, 84, 67] }]])))))
    .bad)
  (bc (Decidable.decide (IntKind.wrap IntKind.i64 (r + 1) < m))
    (.at (sA (n) (m) (IntKind.wrap IntKind.i64 (r + 1)) (IntKind.wrap IntKind.i64 (n - 1)) (q) (nn)))
    (bc (bc (bc (Nat.beq (List.length q) (List.length q)) Bool.true Bool.false) Bool.true Bool.false)
      (.done (EV.tup [(EV.agg [(EV.v (Value.int IntKind.i64 (IntKind.wrap IntKind.i64 (n + 1)))), (EV.lst (SyC.recs [(Sh.int IntKind.i64), (Sh.int IntKind.i64), Sh.str] (q)))]), (EV.v (Value.int IntKind.i64 (0)))]) [] 0)
      .bad))) := by kernel_rfl
theorem aStep {n m r : Int} {j : Nat} {q : List (List U)} {nn : Bool} (hj : j ≤ 30) (hq : q.length < 65536) : RUN (stOf (sA n m r j q nn)) = .at (sA n m r ((j : Int) - 1) (q ++ [wk bCTC j]) true) := by
  rw [a_t]
  simp (disch := omega) only [Nat.add_eq, eqSy_self, eqN_self, bc_same, List.length_cons, ofn, wrap_in, dt, df, bltD, bltN, ble_of, bleN, beqD, bc_t, bc_f, nn_ok, Nat.zero_add, to_nat, Int.zero_add, Int.sub_zero, Int.sub_self, Int.cast_ofNat_Int, Int.natCast_zero, Int.toNat_zero, List.take_zero, List.nil_append, List.length_append, List.length_nil]
  rfl
theorem aEnd {n m r : Int} {q : List (List U)} {nn : Bool} (hq : q.length < 65536) : RUN (stOf (sA n m r (-1) q nn)) = .at (sB n m r 0 (q ++ [wk bLLP 0]) true) := by
  rw [a_t]
  simp (disch := omega) only [Nat.add_eq, eqSy_self, eqN_self, bc_same, List.length_cons, ofn, wrap_in, dt, df, bltD, bltN, ble_of, bleN, beqD, bc_t, bc_f, nn_ok, Nat.zero_add, to_nat, Int.zero_add, Int.sub_zero, Int.sub_self, Int.cast_ofNat_Int, Int.natCast_zero, Int.toNat_zero, List.take_zero, List.nil_append, List.length_append, List.length_nil]
  rfl
theorem aLoop {n m r : Int} : ∀ (j : Nat) (q : List (List U)) (nn : Bool), j ≤ 30 → q.length + j < 65000 → LeadsZ Try.prog (stOf (sA n m r ((j : Int) - 1) q nn)) (stOf (sB n m r 0 (q ++ downR j ++ [wk bLLP 0]) true))
  | 0, q, nn, hj, hq => by
    show LeadsZ _ _ (stOf (sB n m r 0 (q ++ [] ++ [wk bLLP 0]) true))
    rw [List.append_nil]
    exact leadsZ ctR1_ok (aEnd (by omega))
  | j + 1, q, nn, hj, hq => by
    show LeadsZ _ _ (stOf (sB n m r 0 (q ++ (wk bCTC (j : Int) :: downR j) ++ [wk bLLP 0]) true))
    rw [show ((j + 1 : Nat) : Int) - 1 = j by omega, show q ++ (wk bCTC (j : Int) :: downR j) = (q ++ [wk bCTC (j : Int)]) ++ downR j by simp]
    exact (leadsZ ctR1_ok (aStep (by omega) (by omega))).trans (aLoop j _ _ (by omega) (by rw [List.length_append]; simp only [List.length_cons, List.length_nil]; omega))
theorem bStep {m r : Int} {n i : Nat} {q : List (List U)} {nn : Bool} (hi : i < n) (hn : n ≤ 30) (hq : q.length < 65536) : RUN (stOf (sB n m r i q nn)) = .at (sB n m r (i + 1 : Nat) (q ++ [wk bCTC i]) true) := by
  rw [b_t]
  simp (disch := omega) only [Nat.add_eq, eqSy_self, eqN_self, bc_same, List.length_cons, ofn, wrap_in, dt, df, bltD, bltN, ble_of, bleN, beqD, bc_t, bc_f, nn_ok, Nat.zero_add, to_nat, Int.zero_add, Int.sub_zero, Int.sub_self, Int.cast_ofNat_Int, Int.natCast_zero, Int.toNat_zero, List.take_zero, List.nil_append, List.length_append, List.length_nil]
  rfl
theorem bLoop {m r : Int} {n : Nat} (hn : n ≤ 30) : ∀ (k i : Nat) (q : List (List U)), i + k = n → q.length + k < 65000 → LeadsZ Try.prog (stOf (sB n m r i q true)) (stOf (sB n m r n (q ++ upR i k) true))
  | 0, i, q, h, hq => by
    have : i = n := by omega
    subst this
    show LeadsZ _ _ (stOf (sB i m r i (q ++ []) true))
    rw [List.append_nil]
    exact LeadsZ.refl _
  | k + 1, i, q, h, hq => by
    show LeadsZ _ _ (stOf (sB n m r n (q ++ (wk bCTC (i : Int) :: upR (i + 1) k)) true))
    rw [show q ++ (wk bCTC (i : Int) :: upR (i + 1) k) = (q ++ [wk bCTC (i : Int)]) ++ upR (i + 1) k by simp]
    exact (leadsZ ctR1_ok (bStep (by omega) hn (by omega))).trans (bLoop hn k (i + 1) _ (by omega) (by rw [List.length_append]; simp only [List.length_cons, List.length_nil]; omega))
theorem bNext {n m r : Nat} {q : List (List U)} (hn : n ≤ 30) (h1 : 1 ≤ n) (hr : r + 1 < m) (hm : m ≤ 1000) : RUN (stOf (sB n m r n q true)) = .at (sA n m (r + 1 : Nat) ((n : Int) - 1) q true) := by
  rw [b_t]
  have e0 : ((r : Int) + 1) = ((r + 1 : Nat) : Int) := rfl
  simp (disch := omega) only [Nat.add_eq, eqSy_self, eqN_self, bc_same, List.length_cons, ofn, wrap_in, dt, df, bltD, bltN, ble_of, bleN, beqD, bc_t, bc_f, nn_ok, Nat.zero_add, to_nat, Int.zero_add, Int.sub_zero, Int.sub_self, Int.cast_ofNat_Int, Int.natCast_zero, Int.toNat_zero, List.take_zero, List.nil_append, List.length_append, List.length_nil, e0]
theorem bFin {n m r : Nat} {q : List (List U)} (hn : n ≤ 30) (hr : m ≤ r + 1) (hm : r ≤ 1000) : RUN (stOf (sB n m r n q true)) = .done (shE ((n : Int) + 1) q 0) [] 0 := by
  rw [b_t]
  simp (disch := omega) only [Nat.add_eq, eqSy_self, eqN_self, bc_same, List.length_cons, ofn, wrap_in, dt, df, bltD, bltN, ble_of, bleN, beqD, bc_t, bc_f, nn_ok, Nat.zero_add, to_nat, Int.zero_add, Int.sub_zero, Int.sub_self, Int.cast_ofNat_Int, Int.natCast_zero, Int.toNat_zero, List.take_zero, List.nil_append, List.length_append, List.length_nil]
  rfl
theorem rows {n m : Nat} (h1 : 1 ≤ n) (hn : n ≤ 23) (hm : m ≤ 400) : ∀ (k r : Nat) (q : List (List U)) (nn : Bool), r + k + 1 = m → q.length ≤ 47 * r → EndZ 24 ctR1 false (stOf (sA n m r ((n : Int) - 1) q nn)) (shE ((n : Int) + 1) (q ++ footR n (k + 1)) 0) [] 0
  | 0, r, q, nn, h, hq => by
    have l1 := aLoop (n := n) (m := m) (r := r) n q nn (by omega) (by omega)
    have l2 := bLoop (m := m) (r := r) (n := n) (by omega) n 0 (q ++ downR n ++ [wk bLLP 0]) (by omega) (by simp [downR_len]; omega)
    have e : q ++ footR n 1 = q ++ downR n ++ [wk bLLP 0] ++ upR 0 n := by unfold footR footR footL1; simp
    rw [e]
    exact .lead (l1.trans l2) (.done (bFin (by omega) (by omega) (by omega)))
  | k + 1, r, q, nn, h, hq => by
    have l1 := aLoop (n := n) (m := m) (r := r) n q nn (by omega) (by omega)
    have l2 := bLoop (m := m) (r := r) (n := n) (by omega) n 0 (q ++ downR n ++ [wk bLLP 0]) (by omega) (by simp [downR_len]; omega)
    have e : q ++ footR n (k + 1 + 1) = q ++ downR n ++ [wk bLLP 0] ++ upR 0 n ++ footR n (k + 1) := by
      show q ++ (footL1 n ++ footR n (k + 1)) = _
      unfold footL1; simp
    rw [e]
    exact .lead (l1.trans l2) (.at ctR1_ok (bNext (by omega) h1 (by omega) (by omega)) (rows h1 hn hm k (r + 1) _ true (by omega) (by simp [upR_len, downR_len]; omega)))
end MRFoot
noncomputable def footE (n m : Int) : Int := bc (decide (n < 1)) 7 (bc (decide (23 < n)) 7 (bc (decide (m < 1)) 7 (bc (decide (Int.tdiv 400 (2 * n + 1) < m)) 3 0)))
noncomputable def footP (n m : Int) : Int := bc (footE n m == 0) (n + 1) 0
noncomputable def footL (n m : Int) : List (List U) := bc (footE n m == 0) (footR n.toNat m.toNat) []
theorem MRFoot.ends (n m : Int) : EndZ 24 ctR1 false (st0 24 [iv n, iv m]) (shE (footP n m) (footL n m) (footE n m)) [] 0 := by
  have h := MRFoot.in_t n m
  unfold footP footL
  by_cases h1 : n < 1
  · have e : footE n m = 7 := by unfold footE; rw [dt h1, bc_t]
    rw [e]; simp only [dt h1, bc_t] at h; exact (EndZ.done h).weak (shN_weak 7)
  by_cases h2 : 23 < n
  · have e : footE n m = 7 := by unfold footE; rw [df h1, bc_f, dt h2, bc_t]
    rw [e]; simp only [df h1, dt h2, bc_t, bc_f] at h; exact (EndZ.done h).weak (shN_weak 7)
  by_cases h3 : m < 1
  · have e : footE n m = 7 := by unfold footE; rw [df h1, bc_f, df h2, bc_f, dt h3, bc_t]
    rw [e]; simp only [df h1, df h2, dt h3, bc_t, bc_f] at h; exact (EndZ.done h).weak (shN_weak 7)
  have g1 : 0 ≤ Int.tdiv 400 (2 * n + 1) := Int.tdiv_nonneg (by omega) (by omega)
  have g2 : Int.tdiv 400 (2 * n + 1) ≤ 400 := Int.tdiv_le_self _ (by omega)
  have g3 : (2 * n + 1 == 0) = false := by simp; omega
  have g4 : bnot (2 * n + 1 == 0) = true := by rw [g3]; rfl
  rw [wrap_in (2 * n) (by omega) (by omega), wrap_in (2 * n + 1) (by omega) (by omega), wrap_in (Int.tdiv 400 (2 * n + 1)) (by omega) (by omega)] at h
  by_cases h4 : Int.tdiv 400 (2 * n + 1) < m
  · have e : footE n m = 3 := by unfold footE; rw [df h1, bc_f, df h2, bc_f, df h3, bc_f, dt h4, bc_t]
    rw [e]; simp only [df h1, df h2, df h3, dt h4, g4, bc_t, bc_f] at h; exact (EndZ.done h).weak (shN_weak 3)
  have e : footE n m = 0 := by unfold footE; rw [df h1, bc_f, df h2, bc_f, df h3, bc_f, df h4, bc_f]
  rw [e]
  simp (disch := omega) only [df h1, df h2, df h3, df h4, g4, bc_t, bc_f, dt, wrap_in] at h
  obtain ⟨n', rfl⟩ : ∃ k : Nat, n = (k : Int) := ⟨n.toNat, by omega⟩
  obtain ⟨m', rfl⟩ : ∃ k : Nat, m = (k : Int) := ⟨m.toNat, by omega⟩
  have := MRFoot.rows (n := n') (m := m') (by omega) (by omega) (by omega) (m' - 1) 0 [] false (by omega) (by simp)
  rw [show m' - 1 + 1 = m' by omega, List.nil_append] at this
  exact .at ctR1_ok h this
noncomputable def spFoot : ZCT := fun ax => match ax with
  | [.v (.int .i64 n), .v (.int .i64 m)] => some ⟨true, shE (footP n m) (footL n m) (footE n m), [], 0⟩
  | _ => none
theorem spRFoot_ok : ZCtOk Try.prog 24 spFoot := fun γ w us ax r hs hc hax hN hfz => by
  unfold spFoot at hs
  split at hs
  · rename_i n m
    obtain ⟨rfl⟩ := Option.some.inj hs
    exact (MRFoot.ends n m).calls ctR1_ok (by kernel_rfl) hax hN hfz
  · cases hs
end Go.Proofs.Ytojbgacoolanlaa.Ev
namespace Go.Proofs.Ytojbgacoolanlaa.Ev
open Go.RowKit
variable {P : Program} {γ γ' : G} {w0 : Bs} {w w' : World} {H H' : Tr EK} {n n' : Nat}
theorem HR.start (hN : ∀ i, γ i = none) (hfz : FzAt γ w) : HR γ (Bs.ofG w γ) .nil 0 w :=
  ⟨(fun i k hk => by cases hk), (fun i j ki kj hi => by cases hi), (fun i _ => hN i), (fun i hi => hi.elim), (fun i p hp => by rw [hN i] at hp; cases hp), ⟨rfl, rfl, rfl, Nat.le_refl _, fun _ _ => rfl⟩, FZ.init hfz⟩
theorem UOk.list_cases {fz : Nat → Option (Array Value)} {sh : List Sh} {u : U} {x : Value} (h : UOk fz (.list sh) u x) : (∃ a c, u.list = [] ∧ x = .slice a 0 c) ∨ ∃ k off c, x = .slice (some ⟨k, off, none⟩) u.list.length c ∧ u.list.length ≤ c ∧ c ≤ maxLen ∧ ∃ arr, fz k = some arr := by
  cases h with
  | empty _ _ a c hl hc hn => exact .inl ⟨a, c, hl, rfl⟩
  | list _ _ k off c arr hk hl hc hs hh => exact .inr ⟨k, off, c, rfl, hl, hc, arr, hk⟩
/-- a string so many times -/
noncomputable def zrep (s : ByteArray) (k : Nat) : ByteArray := ⟨(Lib.repeatL s.data.toList k).toArray⟩
noncomputable def zjoin (l : List ByteArray) (sep : ByteArray) : ByteArray := ⟨(Lib.join (l.map (·.data.toList)) sep.data.toList).toArray⟩
noncomputable def spRepeat : ZCT := fun ax => match ax with
  | [.v (.string s), .v (.int .i64 n)] => some ⟨bc (decide (0 ≤ n)) (bc (decide (n ≤ 65536)) (Nat.ble s.size 65536) false) false, .v (.string (zrep s n.toNat)), [], 0⟩
  | _ => none
theorem spRepeat_ok {f : FuncId} (h : ∀ (s : ByteArray) (c : Nat) (w : World), c ≤ 9223372036854775807 → s.size * c ≤ 140737488355328 → Calls P f #[.string s, .int .i64 c] w fun e w' => e = .returned (.string ⟨(Lib.repeatL s.data.toList c).toArray⟩) ∧ Below w.heap.size w w') : ZCtOk P f spRepeat := fun γ w us ax r hs hc hax hN hfz => by
  unfold spRepeat at hs
  split at hs
  case h_2 => cases hs
  rename_i s n
  obtain ⟨rfl⟩ := Option.some.inj hs
  obtain ⟨h1, hc⟩ := bcT (show bc (decide (0 ≤ n)) (bc (decide (n ≤ 65536)) (Nat.ble s.size 65536) false) false = true from hc)
  obtain ⟨h2, h3⟩ := bcT hc
  have h1 := of_decide_eq_true h1
  have h2 := of_decide_eq_true h2
  have h3 := Nat.le_of_ble_eq_true h3
  obtain ⟨x, r1, e1, hx, hc1⟩ := ECL.inv hax
  obtain ⟨y, r2, e2, hy, hc2⟩ := ECL.inv hc1
  have e3 : r2 = [] := by apply List.eq_nil_of_length_eq_zero; have := hc2.1; simpa using this.symm
  have hx := ec_v hx
  have hy := ec_v hy
  subst hx; subst hy; subst e3; subst e2
  obtain ⟨c, rfl⟩ : ∃ c : Nat, n = (c : Int) := ⟨n.toNat, by omega⟩
  have eu : us = #[.string s, .int .i64 (c : Int)] := by apply Array.ext'; simpa using e1
  rw [eu]
  refine (h s c w (by omega) (by have := Nat.mul_le_mul h3 (show c ≤ 65536 by omega); omega)).mono ?_
  rintro e w' ⟨rfl, hb⟩
  exact ⟨γ, _, rfl, .v _, (HR.start hN hfz).below hb⟩
noncomputable def spJoin : ZCT := fun ax => match ax with
  | [.lst (.strs l), .v (.string sep)] => some ⟨bc (Nat.ble l.length 65536) (Nat.ble (Lib.join (l.map (·.data.toList)) sep.data.toList).length 65536) false, .v (.string (zjoin l sep)), [], 0⟩
  | _ => none
theorem spJoin_ok {f : FuncId} (h0 : ∀ (a : Option Addr) (c : Nat) (sep : ByteArray) (w : World), Calls P f #[.slice a 0 c, .string sep] w fun e w' => e = .returned (.string ⟨#[]⟩) ∧ w' = w)
    (h : ∀ (bk o c : Nat) (xs : List ByteArray) (sep : ByteArray) (w : World), (∀ (j : Nat) x, xs[j]? = some x → w.cell? ⟨bk, o + j, none⟩ = some (.string x)) → bk < w.heap.size → xs.length ≤ 140737488355328 → xs.length ≤ c → (Lib.join (xs.map (·.data.toList)) sep.data.toList).length ≤ 140737488355328 →
      Calls P f #[.slice (some ⟨bk, o, none⟩) xs.length c, .string sep] w fun e w' => e = .returned (.string ⟨(Lib.join (xs.map (·.data.toList)) sep.data.toList).toArray⟩) ∧ Below w.heap.size w w') : ZCtOk P f spJoin := fun γ w us ax r hs hc hax hN hfz => by
  unfold spJoin at hs
  split at hs
  case h_2 => cases hs
  rename_i l sep
  obtain ⟨rfl⟩ := Option.some.inj hs
  obtain ⟨h1, h2⟩ := bcT (show bc (Nat.ble l.length 65536) (Nat.ble (Lib.join (l.map (·.data.toList)) sep.data.toList).length 65536) false = true from hc)
  have h1 := Nat.le_of_ble_eq_true h1
  have h2 := Nat.le_of_ble_eq_true h2
  obtain ⟨x, r1, e1, hx, hc1⟩ := ECL.inv hax
  obtain ⟨y, r2, e2, hy, hc2⟩ := ECL.inv hc1
  have e3 : r2 = [] := by apply List.eq_nil_of_length_eq_zero; have := hc2.1; simpa using this.symm
  have hy := ec_v hy
  subst hy; subst e3; subst e2
  have eu : us = #[x, .string sep] := by apply Array.ext'; simpa using e1
  rw [eu]
  cases hx with
  | lst _ _ hu =>
    have hlen : (SyC.strs l).rows.length = l.length := by simp [SyC.rows]
    have hget : ∀ (fz : Nat → Option (Array Value)) (k off c j : Nat), γ.fz = fz → UOk fz (.list (SyC.strs l).sh) (.l (SyC.strs l).rows) (.slice (some ⟨k, off, none⟩) (SyC.strs l).rows.length c) → ∀ s, l[j]? = some s → ∃ arr, fz k = some arr ∧ arr[off + j]? = some (.string s) := fun fz k off c j _ hu s hs => by
      have hj : j < (SyC.strs l).rows.length := by rw [hlen]; exact (List.getElem?_eq_some_iff.1 hs).1
      obtain ⟨arr, y, q1, q2, q3⟩ := UOk.get (f := 0) (s := .str) hu (show j < (U.list (.l (SyC.strs l).rows)).length from hj) rfl
      have q2 : arr[off + (j * 1 + 0)]? = some y := q2
      rw [show off + (j * 1 + 0) = off + j by omega] at q2
      refine ⟨arr, q1, ?_⟩
      rw [q2]
      have e : (((U.list (.l (SyC.strs l).rows)).getD j []).getD 0 (.i 0)).str = s := by
        show (((SyC.strs l).rows.getD j []).getD 0 (.i 0)).str = s
        simp [SyC.rows, List.getD_eq_getElem?_getD, hs]
        rfl
      cases q3 with
      | str => rw [e]
    rcases UOk.list_cases hu with ⟨a, c, hl, rfl⟩ | ⟨k, off, c, rfl, hlc, hcm, arr, hk⟩
    · have : l = [] := List.eq_nil_of_length_eq_zero (by rw [← hlen]; exact congrArg List.length hl)
      subst this
      refine (h0 a c sep w).mono ?_
      rintro e w' ⟨rfl, rfl⟩
      exact ⟨γ, _, rfl, .v _, HR.start hN hfz⟩
    · have hle : (U.l (SyC.strs l).rows).list.length = l.length := hlen
      obtain ⟨ty, fz, hb⟩ := hfz k arr hk
      have hkl : k < w.heap.size := (Array.getElem?_eq_some_iff.1 hb).1
      have hcells : ∀ (j : Nat) s, l[j]? = some s → w.cell? ⟨k, off + j, none⟩ = some (.string s) := fun j s hs => by
        obtain ⟨arr2, q1, q2⟩ := hget γ.fz k off c j rfl hu s hs
        rw [hk] at q1; injection q1 with q1; subst q1
        simp [World.cell?, hb, q2]
      rw [hle] at hlc
      have := h k off c l sep w hcells hkl (by omega) hlc (by omega)
      rw [← hle] at this
      refine this.mono ?_
      rintro e w' ⟨rfl, hbw⟩
      exact ⟨γ, _, rfl, .v _, (HR.start hN hfz).below hbw⟩
end Go.Proofs.Ytojbgacoolanlaa.Ev
namespace Go.Proofs.Ytojbgacoolanlaa.Ev
open Go.Proofs
theorem spRep_ok : ZCtOk Try.prog 35 spRepeat := spRepeat_ok Try.strings_Repeat
theorem spJo_ok : ZCtOk Try.prog 53 spJoin := spJoin_ok Try.strings_Join_none Try.strings_Join
/-! ### way -/
noncomputable def upI (a : Int) : Nat → List Int
  | 0 => []
  | k + 1 => (a + 1) :: upI (a + 1) k
noncomputable def dnI (a : Int) : Nat → List Int
  | 0 => []
  | k + 1 => (a - 1) :: dnI (a - 1) k
noncomputable def wayL (a b : Int) : List Int := a :: bc (decide (a < b)) (upI a (b - a).toNat) (dnI a (a - b).toNat)
namespace MWay
noncomputable def RUN (s : ES) : ZF := RZ 37 .nil (atS 0 37 3) [] [[(1,none),(5,none),(6,none)]] false s

noncomputable def sD (n : Int) (i : Int) (q : List Int) : NS := ⟨[⟨37, 25, [(1, (EV.v (Value.int IntKind.i64 (n)))), (5, EV.slO 0 1 q.length true), (6, iv i)], [.it (.code (nav [1, 1, 0, 1, 0, 0, 0] (bodyOf Try.f37))), .it (.code (nav [1, 1, 0, 1, 0, 0, 1] (bodyOf Try.f37))), .it (.inLoop (nav [1, 1, 0, 1, 0, 0] (bodyOf Try.f37))), .it (.inBlock 0), .it (.code (nav [1, 1, 1] (bodyOf Try.f37)))], [], Option.none⟩], [(0, EK.seq 3 (.ints .i64 q) true)], 1⟩
theorem in_t (n m : Int) : RUN (st0 37 [iv n, iv m]) = (.at (sD (m) (n) (List.map (fun r => U.int (List.headD r (U.i 0))) [[U.i n]]))) := by kernel_rfl
theorem step_t (n : Int) (i : Int) (q : List Int) : RUN (stOf (sD n i q)) = (bc (i != n)
  (bc (Decidable.decide (i < n))
    (bc (bc (Nat.beq (List.length q) (List.length q)) (bc (Nat.ble (List.length q + List.length (List.map (fun r => U.int (List.headD r (U.i 0))) [[U.i (IntKind.wrap IntKind.i64 (i + 1))]])) 65536) Bool.true Bool.false) Bool.false)
      (.at (sD (n) (IntKind.wrap IntKind.i64 (i + 1)) (q ++ List.map (fun r => U.int (List.headD r (U.i 0))) [[U.i (IntKind.wrap IntKind.i64 (i + 1))]])))
      .bad)
    (bc (bc (Nat.beq (List.length q) (List.length q)) (bc (Nat.ble (List.length q + List.length (List.map (fun r => U.int (List.headD r (U.i 0))) [[U.i (IntKind.wrap IntKind.i64 (i - 1))]])) 65536) Bool.true Bool.false) Bool.false)
      (.at (sD (n) (IntKind.wrap IntKind.i64 (i - 1)) (q ++ List.map (fun r => U.int (List.headD r (U.i 0))) [[U.i (IntKind.wrap IntKind.i64 (i - 1))]])))
      .bad))
  (bc (Nat.beq (List.length q) (List.length q))
    (.done (EV.lst (SyC.ints IntKind.i64 (q))) [] 0)
    .bad)) := by kernel_rfl
theorem up {n i : Int} {q : List Int} (h : i < n) (hi : -1000 ≤ i) (hn : n ≤ 1000) (hq : q.length ≤ 5000) : RUN (stOf (sD n i q)) = .at (sD n (i + 1) (q ++ [i + 1])) := by
  rw [step_t]
  have e : (i != n) = true := by simp; omega
  simp (disch := omega) only [Nat.add_eq, eqSy_self, eqN_self, bc_same, List.length_cons, ofn, wrap_in, dt, df, bltD, bltN, ble_of, bleN, beqD, bc_t, bc_f, nn_ok, Nat.zero_add, to_nat, Int.zero_add, Int.sub_zero, Int.sub_self, Int.cast_ofNat_Int, Int.natCast_zero, Int.toNat_zero, List.take_zero, List.nil_append, List.length_append, List.length_nil, e, List.length_map]
  rfl
theorem dn {n i : Int} {q : List Int} (h : n < i) (hi : i ≤ 1000) (hn : -1000 ≤ n) (hq : q.length ≤ 5000) : RUN (stOf (sD n i q)) = .at (sD n (i - 1) (q ++ [i - 1])) := by
  rw [step_t]
  have e : (i != n) = true := by simp; omega
  simp (disch := omega) only [Nat.add_eq, eqSy_self, eqN_self, bc_same, List.length_cons, ofn, wrap_in, dt, df, bltD, bltN, ble_of, bleN, beqD, bc_t, bc_f, nn_ok, Nat.zero_add, to_nat, Int.zero_add, Int.sub_zero, Int.sub_self, Int.cast_ofNat_Int, Int.natCast_zero, Int.toNat_zero, List.take_zero, List.nil_append, List.length_append, List.length_nil, e, List.length_map]
  rfl
theorem last {n : Int} {q : List Int} : RUN (stOf (sD n n q)) = .done (il q) [] 0 := by
  rw [step_t]
  have e : (n != n) = false := by simp
  simp (disch := omega) only [Nat.add_eq, eqSy_self, eqN_self, bc_same, List.length_cons, ofn, wrap_in, dt, df, bltD, bltN, ble_of, bleN, beqD, bc_t, bc_f, nn_ok, Nat.zero_add, to_nat, Int.zero_add, Int.sub_zero, Int.sub_self, Int.cast_ofNat_Int, Int.natCast_zero, Int.toNat_zero, List.take_zero, List.nil_append, List.length_append, List.length_nil, e]
theorem ups {n : Int} (hn : n ≤ 1000) : ∀ (k : Nat) (i : Int) (q : List Int), i + k = n → -1000 ≤ i → q.length + k ≤ 5000 → EndZ 37 .nil false (stOf (sD n i q)) (il (q ++ upI i k)) [] 0
  | 0, i, q, h, _, hq => by
    have : i = n := by omega
    subst this
    show EndZ _ _ _ _ (il (q ++ [])) _ _
    rw [List.append_nil]
    exact .done last
  | k + 1, i, q, h, hi, hq => by
    show EndZ _ _ _ _ (il (q ++ ((i + 1) :: upI (i + 1) k))) _ _
    rw [show q ++ (i + 1) :: upI (i + 1) k = (q ++ [i + 1]) ++ upI (i + 1) k by simp]
    exact .at (.nil _) (up (by omega) hi hn (by omega)) (ups hn k (i + 1) _ (by omega) (by omega) (by simp; omega))
theorem dns {n : Int} (hn : -1000 ≤ n) : ∀ (k : Nat) (i : Int) (q : List Int), i - k = n → i ≤ 1000 → q.length + k ≤ 5000 → EndZ 37 .nil false (stOf (sD n i q)) (il (q ++ dnI i k)) [] 0
  | 0, i, q, h, _, hq => by
    have : i = n := by omega
    subst this
    show EndZ _ _ _ _ (il (q ++ [])) _ _
    rw [List.append_nil]
    exact .done last
  | k + 1, i, q, h, hi, hq => by
    show EndZ _ _ _ _ (il (q ++ ((i - 1) :: dnI (i - 1) k))) _ _
    rw [show q ++ (i - 1) :: dnI (i - 1) k = (q ++ [i - 1]) ++ dnI (i - 1) k by simp]
    exact .at (.nil _) (dn (by omega) hi hn (by omega)) (dns hn k (i - 1) _ (by omega) (by omega) (by simp; omega))
theorem ends {a b : Int} (ha : -1000 ≤ a) (ha2 : a ≤ 1000) (hb : -1000 ≤ b) (hb2 : b ≤ 1000) : EndZ 37 .nil false (st0 37 [iv a, iv b]) (il (wayL a b)) [] 0 := by
  unfold wayL
  have h := in_t a b
  by_cases hab : a < b
  · rw [dt hab, bc_t]
    exact .at (.nil _) h (ups hb2 (b - a).toNat a [a] (by omega) ha (by simp; omega))
  · rw [df hab, bc_f]
    exact .at (.nil _) h (dns hb (a - b).toNat a [a] (by omega) ha2 (by simp; omega))
end MWay
noncomputable def spWay : ZCT := fun ax => match ax with
  | [.v (.int .i64 a), .v (.int .i64 b)] => some ⟨bc (decide (-1000 ≤ a)) (bc (decide (a ≤ 1000)) (bc (decide (-1000 ≤ b)) (decide (b ≤ 1000)) false) false) false, il (wayL a b), [], 0⟩
  | _ => none
theorem spWay_ok : ZCtOk Try.prog 37 spWay := fun γ w us ax r hs hc hax hN hfz => by
  unfold spWay at hs
  split at hs
  · rename_i a b
    obtain ⟨rfl⟩ := Option.some.inj hs
    obtain ⟨h1, hc⟩ := bcT (show bc (decide (-1000 ≤ a)) (bc (decide (a ≤ 1000)) (bc (decide (-1000 ≤ b)) (decide (b ≤ 1000)) false) false) false = true from hc)
    obtain ⟨h2, hc⟩ := bcT hc
    obtain ⟨h3, h4⟩ := bcT hc
    exact (MWay.ends (of_decide_eq_true h1) (of_decide_eq_true h2) (of_decide_eq_true h3) (of_decide_eq_true h4)).calls (.nil _) (by kernel_rfl) hax hN hfz
  · cases hs
noncomputable def ctP : Tr ZCC := ((Tr.nil.put 35 (some (dC spRepeat))).put 53 (some (dC spJoin))).put 37 (some (dC spWay))
theorem ctP_ok : ZCtsOk Try.prog ctP := (((ZCtsOk.nil _).add rfl spRep_ok).add rfl spJo_ok).add rfl spWay_ok
namespace MPic
noncomputable def RUN (s : ES) : ZF := RZ 20 ctP (fun _ => false) [] [] false s
theorem in_t (n : Int) : RUN (st0 20 [iv n]) = (bc (Decidable.decide (n < 1))
  (.done (EV.tup [(EV.v (Value.agg (Array.mk [(Value.int IntKind.i64 (0)), (Value.slice Option.none 0 0)]))), (EV.v (Value.int IntKind.i64 (7)))]) [] 0)
  (bc (Decidable.decide (7 < n))
    (.done (EV.tup [(EV.v (Value.agg (Array.mk [(Value.int IntKind.i64 (0)), (Value.slice Option.none 0 0)]))), (EV.v (Value.int IntKind.i64 (7)))]) [] 0)
    (bc (bc (bc (Decidable.decide (0 ≤ n)) (bc (Decidable.decide (n ≤ 65536)) (Nat.ble (ByteArray.size { data := #[76] }) 65536) Bool.false) Bool.false) Bool.true Bool.false)
      (bc (bc (Nat.ble (List.length (Lib.join (List.map (fun x => Array.toList (ByteArray.data x)) (List.map (fun r => U.str (List.headD r (U.i 0))) [[U.s (zrep { data := #[76] } (Int.toNat n))], [U.s { data := #[80] }], [U.s (zrep { data := #[76] } (Int.toNat n))]])) [])) 65536) Bool.true Bool.false)
        (.done (EV.tup [(EV.agg [(EV.v (Value.int IntKind.i64 (2))), (EV.lst (SyC.recs [(Sh.int IntKind.i64), (Sh.int IntKind.i64), Sh.str] ([] ++ [[U.i 1, U.i (List.getD (List.map (fun r => U.int (List.headD r (U.i 0))) [[U.i 0]]) (Int.toNat 0) 0), U.s (zjoin (List.map (fun r => U.str (List.headD r (U.i 0))) [[U.s (zrep { data := #[76] } (Int.toNat n))], [U.s { data := #[80] }], [U.s (zrep { data := #[76] } (Int.toNat n))]]) { data := #[] })]])))]), (EV.v (Value.int IntKind.i64 (0)))]) [] 0)
        .bad)
      .bad))) := by kernel_rfl
end MPic
namespace MWin
noncomputable def RUN (s : ES) : ZF := RZ 13 ctP (fun _ => false) [] [] false s
theorem in_t (u : Nat) : RUN (st0 13 []) = (.done (EV.agg [(EV.v (Value.int IntKind.i64 (4))), (EV.lst (SyC.recs [(Sh.int IntKind.i64), (Sh.int IntKind.i64), Sh.str] [[(U.i 1), (U.i (List.getD (List.map (fun r => U.int (List.headD r (U.i 0))) [[U.i 1], [U.i 0], [U.i 2]]) (Int.toNat 0) 0)), (U.s { data := #[67, 84, 67] })], [(U.i 1), (U.i (List.getD (List.map (fun r => U.int (List.headD r (U.i 0))) [[U.i 1], [U.i 0], [U.i 2]]) (Int.toNat (IntKind.wrap IntKind.i64 (0 + 1))) 0)), (U.s { data := #[67, 84, 67] })], [(U.i 1), (U.i (List.getD (List.map (fun r => U.int (List.headD r (U.i 0))) [[U.i 1], [U.i 0], [U.i 2]]) (Int.toNat (IntKind.wrap IntKind.i64 (IntKind.wrap IntKind.i64 (0 + 1) + 1))) 0)), (U.s { data := #[67, 84, 67] })], [(U.i 1), (U.i (List.getD (List.map (fun r => U.int (List.headD r (U.i 0))) [[U.i 1]]) (Int.toNat 0) 0)), (U.s { data := #[80] })], [(U.i 1), (U.i (List.getD (List.map (fun r => U.int (List.headD r (U.i 0))) [[U.i 1]]) (Int.toNat 0) 0)), (U.s { data := #[67, 84, 67] })]]))]) [] 0) := by kernel_rfl
end MWin
namespace MSp
/-- the caller's function -/
noncomputable def below (f : Nat) (s : ES) : Bool := match s.rest with
  | e :: _ => Nat.beq e.fn f
  | [] => false
noncomputable def pT (s : ES) : Bool := atS 1 33 1 s
noncomputable def pW (s : ES) : Bool := bc (atS 2 34 1 s) (below 36 s) false


end MSp
end Go.Proofs.Ytojbgacoolanlaa.Ev
namespace Go.Proofs.Ytojbgacoolanlaa.Ev
open Go.Proofs
namespace MWith
/-- at is data -/
noncomputable def RT (s : ES) : ZF := RMs 1 34 .nil [(atS 0 34 1, [[(0,some (3, 56, .recs shW [])),(1,none),(8,none),(9,none),(10,none)]])] [] [] s
/-- at is owned -/
noncomputable def RO (s : ES) : ZF := RMs 2 34 .nil [(atS 0 34 1, [[(0,some (3, 56, .recs shW [])),(1,none),(8,none),(9,none),(10,none)]])] [] [] s
noncomputable abbrev pc (p : Int) : List EV := [iv p, .v (.slice none 0 0)]
noncomputable abbrev ps (p : Int) (j len : Nat) (nn : Bool) : List EV := [iv p, .slO j 3 len nn]

noncomputable def sT (p : Int) (w : ByteArray) (l : List Int) (i : Int) (q : List (List U)) (nn : Bool) : NS := ⟨[⟨34, 29, [(0, (EV.ptr 0 0)), (1, (EV.v (Value.string (w)))), (8, (EV.lst (SyC.ints IntKind.i64 (l)))), (9, (EV.v (Value.int IntKind.i64 (Int.ofNat (List.length l))))), (10, iv i)], [.it (.code (nav [1, 0, 0] (bodyOf Try.f34))), .it (.inLoop (nav [1, 0, 0] (bodyOf Try.f34))), .it (.inBlock 0)], [], Option.none⟩], [(0, EK.cells 51 (ps p 1 q.length nn) true), (1, EK.seq 56 (.recs shW q) nn)], 2⟩
theorem inTn (p : Int) (w : ByteArray) (l : List Int) : RT (st0m 34 [.ptr 0 0, sv w, il l] [(0, .cells 51 (pc p) true)] 1) = (.at (sT (p) (w) (l) (0) ([]) (Bool.false))) := by kernel_rfl
theorem inTs (p : Int) (w : ByteArray) (l : List Int) (q : List (List U)) (nn : Bool) : RT (st0m 34 [.ptr 0 0, sv w, il l] [(0, .cells 51 (ps p 1 q.length nn) true), (1, .seq 56 (.recs shW q) nn)] 2) = (.at (sT (p) (w) (l) (0) (q) (nn))) := by kernel_rfl
theorem stT (p : Int) (w : ByteArray) (l : List Int) (i : Int) (q : List (List U)) (nn : Bool) : RT (stOf (sT p w l i q nn)) = (bc (Decidable.decide (i < Int.ofNat (List.length l)))
  (bc (bc (bc (Decidable.decide (0 ≤ i)) (Nat.blt (Int.toNat i) (List.length l)) Bool.false) Bool.true Bool.false)
    (bc (bc (Nat.blt (Int.toNat i) (List.length l)) Bool.true Bool.false)
      (bc (bc (Nat.beq (List.length q) (List.length q)) (bc (Nat.ble (List.length q + List.length [[U.i 1, U.i (List.getD l (Int.toNat i) 0), U.s w]]) 65536) (bc nn Bool.true (bc nn Bool.false Bool.true)) Bool.false) Bool.false)
        (.at (sT (p) (w) (l) (IntKind.wrap IntKind.i64 (i + 1)) (q ++ [[U.i 1, U.i (List.getD l (Int.toNat i) 0), U.s w]]) (bc nn Bool.true (Nat.blt 0 (List.length [[U.i 1, U.i (List.getD l (Int.toNat i) 0), U.s w]])))))
        .bad)
      .bad)
    .bad)
  (.done (EV.tup []) [(0, (EK.cells 51 [(EV.v (Value.int IntKind.i64 (p))), (EV.slO 1 3 (List.length q) (nn))] true)), (1, (EK.seq 56 (SyC.recs [(Sh.int IntKind.i64), (Sh.int IntKind.i64), Sh.str] (q)) (nn)))] 2)) := by kernel_rfl

noncomputable def sO (p : Int) (w : ByteArray) (l : List Int) (i : Int) (q : List (List U)) (nn : Bool) : NS := ⟨[⟨34, 29, [(0, (EV.ptr 0 0)), (1, (EV.v (Value.string (w)))), (8, (EV.slO 1 1 (List.length l) true)), (9, (EV.v (Value.int IntKind.i64 (Int.ofNat (List.length l))))), (10, iv i)], [.it (.code (nav [1, 0, 0] (bodyOf Try.f34))), .it (.inLoop (nav [1, 0, 0] (bodyOf Try.f34))), .it (.inBlock 0)], [], Option.none⟩], [(0, EK.cells 51 (ps p 2 q.length nn) true), (1, (EK.seq 3 (SyC.ints IntKind.i64 (l)) true)), (2, EK.seq 56 (.recs shW q) nn)], 3⟩
theorem inOn (p : Int) (w : ByteArray) (l : List Int) : RO (st0m 34 [.ptr 0 0, sv w, .slO 1 1 l.length true] [(0, .cells 51 (pc p) true), (1, .seq 3 (.ints .i64 l) true)] 2) = (.at (sO (p) (w) (l) (0) ([]) (Bool.false))) := by kernel_rfl
theorem inOs (p : Int) (w : ByteArray) (l : List Int) (q : List (List U)) (nn : Bool) : RO (st0m 34 [.ptr 0 0, sv w, .slO 1 1 l.length true] [(0, .cells 51 (ps p 2 q.length nn) true), (1, .seq 3 (.ints .i64 l) true), (2, .seq 56 (.recs shW q) nn)] 3) = (.at (sO (p) (w) (l) (0) (q) (nn))) := by kernel_rfl
theorem stO (p : Int) (w : ByteArray) (l : List Int) (i : Int) (q : List (List U)) (nn : Bool) : RO (stOf (sO p w l i q nn)) = (bc (Decidable.decide (i < Int.ofNat (List.length l)))
  (bc (bc (bc (Decidable.decide (0 ≤ i)) (Nat.blt (Int.toNat i) (List.length l)) Bool.false) Bool.true Bool.false)
    (bc (bc (Nat.blt (Int.toNat i) (List.length l)) Bool.true Bool.false)
      (bc (bc (Nat.beq (List.length q) (List.length q)) (bc (Nat.ble (List.length q + List.length [[U.i 1, U.i (List.getD l (Int.toNat i) 0), U.s w]]) 65536) (bc nn Bool.true (bc nn Bool.false Bool.true)) Bool.false) Bool.false)
        (.at (sO (p) (w) (l) (IntKind.wrap IntKind.i64 (i + 1)) (q ++ [[U.i 1, U.i (List.getD l (Int.toNat i) 0), U.s w]]) (bc nn Bool.true (Nat.blt 0 (List.length [[U.i 1, U.i (List.getD l (Int.toNat i) 0), U.s w]])))))
        .bad)
      .bad)
    .bad)
  (.done (EV.tup []) [(0, (EK.cells 51 [(EV.v (Value.int IntKind.i64 (p))), (EV.slO 2 3 (List.length q) (nn))] true)), (1, (EK.seq 3 (SyC.ints IntKind.i64 (l)) true)), (2, (EK.seq 56 (SyC.recs [(Sh.int IntKind.i64), (Sh.int IntKind.i64), Sh.str] (q)) (nn)))] 3)) := by kernel_rfl
theorem stepT {p : Int} {w : ByteArray} {l : List Int} {i : Nat} {q : List (List U)} {nn : Bool} (hi : i < l.length) (hl : l.length ≤ 60000) (hq : q.length < 65536) : RT (stOf (sT p w l i q nn)) = .at (sT p w l (i + 1 : Nat) (q ++ [wk w l[i]]) true) := by
  rw [stT]
  have e : l.getD i 0 = l[i] := getD_at hi
  simp (disch := omega) only [Nat.add_eq, eqSy_self, eqN_self, bc_same, List.length_cons, ofn, wrap_in, dt, df, bltD, bltN, ble_of, bleN, beqD, bc_t, bc_f, nn_ok, Nat.zero_add, to_nat, Int.zero_add, Int.sub_zero, Int.sub_self, Int.cast_ofNat_Int, Int.natCast_zero, Int.toNat_zero, List.take_zero, List.nil_append, List.length_append, List.length_nil, e]
  rfl
noncomputable abbrev KT (p : Int) (l : List Int) (q : List (List U)) (nn : Bool) : List (Nat × EK) := [(0, .cells 51 (ps p 1 q.length nn) true), (1, .seq 56 (.recs shW q) nn)]
theorem lastT {p : Int} {w : ByteArray} {l : List Int} {i : Nat} {q : List (List U)} {nn : Bool} (hi : l.length ≤ i) : RT (stOf (sT p w l i q nn)) = .done (.tup []) (KT p l q nn) 2 := by
  rw [stT]
  simp (disch := omega) only [Nat.add_eq, eqSy_self, eqN_self, bc_same, List.length_cons, ofn, wrap_in, dt, df, bltD, bltN, ble_of, bleN, beqD, bc_t, bc_f, nn_ok, Nat.zero_add, to_nat, Int.zero_add, Int.sub_zero, Int.sub_self, Int.cast_ofNat_Int, Int.natCast_zero, Int.toNat_zero, List.take_zero, List.nil_append, List.length_append, List.length_nil]
  rfl
theorem loopT {p : Int} {w : ByteArray} {l : List Int} (hl : l.length ≤ 60000) : ∀ (k i : Nat) (q : List (List U)) (nn : Bool), i + k = l.length → q.length + k < 65536 → EndM 1 34 .nil (stOf (sT p w l i q nn)) (.tup []) (KT p l (q ++ (l.drop i).map (wk w)) (bc nn true (Nat.blt 0 k))) 2
  | 0, i, q, nn, h, hq => by
    rw [List.drop_eq_nil_of_le (by omega), List.map_nil, List.append_nil, show bc nn true (Nat.blt 0 0) = nn by cases nn <;> rfl]
    exact .done (lastT (by omega))
  | k + 1, i, q, nn, h, hq => by
    have hi : i < l.length := by omega
    rw [List.drop_eq_getElem_cons hi, List.map_cons, show q ++ wk w l[i] :: (l.drop (i + 1)).map (wk w) = (q ++ [wk w l[i]]) ++ (l.drop (i + 1)).map (wk w) by simp, show bc nn true (Nat.blt 0 (k + 1)) = bc true true (Nat.blt 0 k) by cases nn <;> rfl]
    exact .at (.nil _) (stepT hi hl (by omega)) (loopT hl k (i + 1) _ true (by omega) (by rw [List.length_append]; simp only [List.length_cons, List.length_nil]; omega))
theorem stepO {p : Int} {w : ByteArray} {l : List Int} {i : Nat} {q : List (List U)} {nn : Bool} (hi : i < l.length) (hl : l.length ≤ 60000) (hq : q.length < 65536) : RO (stOf (sO p w l i q nn)) = .at (sO p w l (i + 1 : Nat) (q ++ [wk w l[i]]) true) := by
  rw [stO]
  have e : l.getD i 0 = l[i] := getD_at hi
  simp (disch := omega) only [Nat.add_eq, eqSy_self, eqN_self, bc_same, List.length_cons, ofn, wrap_in, dt, df, bltD, bltN, ble_of, bleN, beqD, bc_t, bc_f, nn_ok, Nat.zero_add, to_nat, Int.zero_add, Int.sub_zero, Int.sub_self, Int.cast_ofNat_Int, Int.natCast_zero, Int.toNat_zero, List.take_zero, List.nil_append, List.length_append, List.length_nil, e]
  rfl
noncomputable abbrev KO (p : Int) (l : List Int) (q : List (List U)) (nn : Bool) : List (Nat × EK) := [(0, .cells 51 (ps p 2 q.length nn) true), (1, .seq 3 (.ints .i64 l) true), (2, .seq 56 (.recs shW q) nn)]
theorem lastO {p : Int} {w : ByteArray} {l : List Int} {i : Nat} {q : List (List U)} {nn : Bool} (hi : l.length ≤ i) : RO (stOf (sO p w l i q nn)) = .done (.tup []) (KO p l q nn) 3 := by
  rw [stO]
  simp (disch := omega) only [Nat.add_eq, eqSy_self, eqN_self, bc_same, List.length_cons, ofn, wrap_in, dt, df, bltD, bltN, ble_of, bleN, beqD, bc_t, bc_f, nn_ok, Nat.zero_add, to_nat, Int.zero_add, Int.sub_zero, Int.sub_self, Int.cast_ofNat_Int, Int.natCast_zero, Int.toNat_zero, List.take_zero, List.nil_append, List.length_append, List.length_nil]
  rfl
theorem loopO {p : Int} {w : ByteArray} {l : List Int} (hl : l.length ≤ 60000) : ∀ (k i : Nat) (q : List (List U)) (nn : Bool), i + k = l.length → q.length + k < 65536 → EndM 2 34 .nil (stOf (sO p w l i q nn)) (.tup []) (KO p l (q ++ (l.drop i).map (wk w)) (bc nn true (Nat.blt 0 k))) 3
  | 0, i, q, nn, h, hq => by
    rw [List.drop_eq_nil_of_le (by omega), List.map_nil, List.append_nil, show bc nn true (Nat.blt 0 0) = nn by cases nn <;> rfl]
    exact .done (lastO (by omega))
  | k + 1, i, q, nn, h, hq => by
    have hi : i < l.length := by omega
    rw [List.drop_eq_getElem_cons hi, List.map_cons, show q ++ wk w l[i] :: (l.drop (i + 1)).map (wk w) = (q ++ [wk w l[i]]) ++ (l.drop (i + 1)).map (wk w) by simp, show bc nn true (Nat.blt 0 (k + 1)) = bc true true (Nat.blt 0 k) by cases nn <;> rfl]
    exact .at (.nil _) (stepO hi hl (by omega)) (loopO hl k (i + 1) _ true (by omega) (by rw [List.length_append]; simp only [List.length_cons, List.length_nil]; omega))
end MWith
open MWith in
noncomputable def spWith : ZMT := fun ax K0 m => match ax with
  | [.ptr 0 0, .v (.string w), .lst (.ints .i64 l)] => match K0 with
    | [(0, .cells 51 [.v (.int .i64 p), .v (.slice none 0 0)] true)] => bc (Nat.beq m 1) (some ⟨Nat.ble l.length 60000, .tup [], KT p l ([] ++ l.map (wk w)) (bc false true (Nat.blt 0 l.length)), 2, 1⟩) none
    | [(0, .cells 51 [.v (.int .i64 p), .slO 1 3 len nn] true), (1, .seq 56 (.recs [.int .i64, .int .i64, .str] q) nn2)] => bc (Nat.beq m 2) (some ⟨bc (Nat.beq len q.length) (bc (eqN nn nn2) (bc (Nat.ble l.length 60000) (Nat.blt (Nat.add q.length l.length) 65536) false) false) false, .tup [], KT p l (q ++ l.map (wk w)) (bc nn2 true (Nat.blt 0 l.length)), 2, 1⟩) none
    | _ => none
  | [.ptr 0 0, .v (.string w), .slO 1 1 len1 n1] => match K0 with
    | [(0, .cells 51 [.v (.int .i64 p), .v (.slice none 0 0)] true), (1, .seq 3 (.ints .i64 l) n2)] => bc (Nat.beq m 2) (some ⟨bc n1 (bc n2 (bc (Nat.beq len1 l.length) (Nat.ble l.length 60000) false) false) false, .tup [], KO p l ([] ++ l.map (wk w)) (bc false true (Nat.blt 0 l.length)), 3, 2⟩) none
    | [(0, .cells 51 [.v (.int .i64 p), .slO 2 3 len nn] true), (1, .seq 3 (.ints .i64 l) n2), (2, .seq 56 (.recs [.int .i64, .int .i64, .str] q) nn2)] => bc (Nat.beq m 3) (some ⟨bc n1 (bc n2 (bc (Nat.beq len1 l.length) (bc (Nat.beq len q.length) (bc (eqN nn nn2) (bc (Nat.ble l.length 60000) (Nat.blt (Nat.add q.length l.length) 65536) false) false) false) false) false) false, .tup [], KO p l (q ++ l.map (wk w)) (bc nn2 true (Nat.blt 0 l.length)), 3, 2⟩) none
    | _ => none
  | _ => none
open MWith in
theorem spWith_ok : ZMtOk Try.prog 34 spWith := fun γ w0 w us ax K0 m r hs hc hres hax hH => by
  have noN : ∀ {x : ZMR} {b : Bool}, bc b (some x) none = some r → b = true ∧ x = r := fun {x b} h => by
    cases b
    · cases h
    · exact ⟨rfl, Option.some.inj h⟩
  unfold spWith at hs
  split at hs
  · rename_i wd l
    split at hs
    · rename_i p
      obtain ⟨hm, rfl⟩ := noN hs
      have hm := Nat.eq_of_beq_eq_true hm
      subst hm
      have hl := Nat.le_of_ble_eq_true hc
      have g : EndM 1 34 .nil (st0m 34 [.ptr 0 0, sv wd, il l] [(0, .cells 51 (pc p) true)] 1) (.tup []) (KT p l ([] ++ l.map (wk wd)) (bc false true (Nat.blt 0 l.length))) 2 := .at (.nil _) (inTn p wd l) (loopT hl l.length 0 [] false (by omega) (by simp only [List.length_nil]; omega))
      exact g.calls (.nil _) (by kernel_rfl) hres hax hH
    · rename_i p len nn q nn2
      obtain ⟨hm, rfl⟩ := noN hs
      have hm := Nat.eq_of_beq_eq_true hm
      subst hm
      obtain ⟨h1, hc⟩ := bcT (show bc (Nat.beq len q.length) (bc (eqN nn nn2) (bc (Nat.ble l.length 60000) (Nat.blt (Nat.add q.length l.length) 65536) false) false) false = true from hc)
      obtain ⟨h2, hc⟩ := bcT hc
      obtain ⟨h3, h4⟩ := bcT hc
      have h1 := Nat.eq_of_beq_eq_true h1
      have h2 := eqN_ok h2
      subst h1; subst h2
      have h3 := Nat.le_of_ble_eq_true h3
      have h4 : q.length + l.length < 65536 := blt_lt h4
      have g : EndM 1 34 .nil (st0m 34 [.ptr 0 0, sv wd, il l] [(0, .cells 51 (ps p 1 q.length nn) true), (1, .seq 56 (.recs shW q) nn)] 2) (.tup []) (KT p l (q ++ l.map (wk wd)) (bc nn true (Nat.blt 0 l.length))) 2 := .at (.nil _) (inTs p wd l q nn) (loopT h3 l.length 0 q nn (by omega) (by omega))
      exact g.calls (.nil _) (by kernel_rfl) hres hax hH
    · cases hs
  · rename_i wd len1 n1
    split at hs
    · rename_i p l n2
      obtain ⟨hm, rfl⟩ := noN hs
      have hm := Nat.eq_of_beq_eq_true hm
      subst hm
      obtain ⟨h1, hc⟩ := bcT (show bc n1 (bc n2 (bc (Nat.beq len1 l.length) (Nat.ble l.length 60000) false) false) false = true from hc)
      obtain ⟨h2, hc⟩ := bcT hc
      obtain ⟨h3, h4⟩ := bcT hc
      have h3 := Nat.eq_of_beq_eq_true h3
      subst h1; subst h2; subst h3
      have h4 := Nat.le_of_ble_eq_true h4
      have g : EndM 2 34 .nil (st0m 34 [.ptr 0 0, sv wd, .slO 1 1 l.length true] [(0, .cells 51 (pc p) true), (1, .seq 3 (.ints .i64 l) true)] 2) (.tup []) (KO p l ([] ++ l.map (wk wd)) (bc false true (Nat.blt 0 l.length))) 3 := .at (.nil _) (inOn p wd l) (loopO h4 l.length 0 [] false (by omega) (by simp only [List.length_nil]; omega))
      exact g.calls (.nil _) (by kernel_rfl) hres hax hH
    · rename_i p len nn l n2 q nn2
      obtain ⟨hm, rfl⟩ := noN hs
      have hm := Nat.eq_of_beq_eq_true hm
      subst hm
      obtain ⟨h1, hc⟩ := bcT (show bc n1 (bc n2 (bc (Nat.beq len1 l.length) (bc (Nat.beq len q.length) (bc (eqN nn nn2) (bc (Nat.ble l.length 60000) (Nat.blt (Nat.add q.length l.length) 65536) false) false) false) false) false) false = true from hc)
      obtain ⟨h2, hc⟩ := bcT hc
      obtain ⟨h3, hc⟩ := bcT hc
      obtain ⟨h4, hc⟩ := bcT hc
      obtain ⟨h5, hc⟩ := bcT hc
      obtain ⟨h6, h7⟩ := bcT hc
      have h3 := Nat.eq_of_beq_eq_true h3
      have h4 := Nat.eq_of_beq_eq_true h4
      have h5 := eqN_ok h5
      subst h1; subst h2; subst h3; subst h4; subst h5
      have h6 := Nat.le_of_ble_eq_true h6
      have h7 : q.length + l.length < 65536 := blt_lt h7
      have g : EndM 2 34 .nil (st0m 34 [.ptr 0 0, sv wd, .slO 1 1 l.length true] [(0, .cells 51 (ps p 2 q.length nn) true), (1, .seq 3 (.ints .i64 l) true), (2, .seq 56 (.recs shW q) nn)] 3) (.tup []) (KO p l (q ++ l.map (wk wd)) (bc nn true (Nat.blt 0 l.length))) 3 := .at (.nil _) (inOs p wd l q nn) (loopO h6 l.length 0 q nn (by omega) (by omega))
      exact g.calls (.nil _) (by kernel_rfl) hres hax hH
    · cases hs
  · cases hs
noncomputable def ctW : Tr ZCC := ctP.put 34 (some (mC spWith))
theorem ctW_ok : ZCtsOk Try.prog ctW := ctP_ok.addM rfl spWith_ok
end Go.Proofs.Ytojbgacoolanlaa.Ev
namespace Go.Proofs.Ytojbgacoolanlaa.Ev
open Go.Proofs
namespace MTw
noncomputable def R (s : ES) : ZF := RMs 4 33 ctW [(atS 0 33 1, [[(0,none),(1,none),(2,none),(3,none)]])] [] [(3, 3, 56, .recs shW [])] s
noncomputable abbrev K0 (t n p : Int) (x : EV) (r : List (Nat × EK)) : List (Nat × EK) := [(0, .cells 3 [iv t] true), (1, .cells 3 [iv n] true), (2, .cells 49 [.ptr 3 0] true), (3, .cells 51 [iv p, x] true)] ++ r
noncomputable abbrev ax : List EV := [.ptr 0 0, .ptr 1 0, .ptr 2 0]

noncomputable def sN (t n p i : Int) : NS := ⟨[⟨33, 20, [(0, (EV.ptr 0 0)), (1, (EV.ptr 1 0)), (2, (EV.ptr 2 0)), (3, iv i)], [.it (.code (nav [1, 0, 0, 0] (bodyOf Try.f33))), .it (.code (nav [1, 0, 0, 1] (bodyOf Try.f33))), .it (.inLoop (nav [1, 0, 0] (bodyOf Try.f33))), .it (.inBlock 0)], [], Option.none⟩], [(0, (EK.cells 3 [(EV.v (Value.int IntKind.i64 (t)))] true)), (1, (EK.cells 3 [(EV.v (Value.int IntKind.i64 (n)))] true)), (2, (EK.cells 49 [(EV.ptr 3 0)] true)), (3, (EK.cells 51 [(EV.v (Value.int IntKind.i64 (p))), (EV.v (Value.slice Option.none 0 0))] true))], 4⟩
noncomputable def sS (t n p i : Int) (q : List (List U)) (nn : Bool) : NS := ⟨[⟨33, 20, [(0, (EV.ptr 0 0)), (1, (EV.ptr 1 0)), (2, (EV.ptr 2 0)), (3, iv i)], [.it (.code (nav [1, 0, 0, 0] (bodyOf Try.f33))), .it (.code (nav [1, 0, 0, 1] (bodyOf Try.f33))), .it (.inLoop (nav [1, 0, 0] (bodyOf Try.f33))), .it (.inBlock 0)], [], Option.none⟩], [(0, (EK.cells 3 [(EV.v (Value.int IntKind.i64 (t)))] true)), (1, (EK.cells 3 [(EV.v (Value.int IntKind.i64 (n)))] true)), (2, (EK.cells 49 [(EV.ptr 3 0)] true)), (3, (EK.cells 51 [(EV.v (Value.int IntKind.i64 (p))), (EV.slO 4 3 (List.length q) (nn))] true)), (4, (EK.seq 56 (SyC.recs [(Sh.int IntKind.i64), (Sh.int IntKind.i64), Sh.str] (q)) (nn)))], 5⟩
theorem inN (t n p : Int) : R (st0m 33 ax (K0 t n p (.v (.slice none 0 0)) []) 4) = (.at (sN (t) (n) (p) (0))) := by kernel_rfl
theorem inS (t n p : Int) (q : List (List U)) (nn : Bool) : R (st0m 33 ax (K0 t n p (.slO 4 3 q.length nn) [(4, .seq 56 (.recs shW q) nn)]) 5) = (.at (sS (t) (n) (p) (0) (q) (nn))) := by kernel_rfl
theorem stN (t n p i : Int) : R (stOf (sN t n p i)) = (bc (Decidable.decide (0 < t))
  (bc (Decidable.decide (i < n))
    (bc (bc (bc (bc (bc (Decidable.decide (0 ≤ t)) (bc (Decidable.decide (t ≤ 65536)) (Nat.ble (ByteArray.size { data := #[84] }) 65536) Bool.false) Bool.false) Bool.true Bool.false) Bool.true Bool.false) Bool.true Bool.false)
      (.at (sS (t) (n) (p) (IntKind.wrap IntKind.i64 (i + 1)) ([] ++ List.map (wk (zrep { data := #[84] } (Int.toNat t))) (List.map (fun r => U.int (List.headD r (U.i 0))) [[U.i (IntKind.wrap IntKind.i64 (2 * i))]])) (Nat.blt 0 (List.length (List.map (fun r => U.int (List.headD r (U.i 0))) [[U.i (IntKind.wrap IntKind.i64 (2 * i))]])))))
      .bad)
    (.done (EV.tup []) [(0, (EK.cells 3 [(EV.v (Value.int IntKind.i64 (t)))] true)), (1, (EK.cells 3 [(EV.v (Value.int IntKind.i64 (n)))] true)), (2, (EK.cells 49 [(EV.ptr 3 0)] true)), (3, (EK.cells 51 [(EV.v (Value.int IntKind.i64 (p))), (EV.slO 4 3 0 false)] true)), (4, (EK.seq 56 (SyC.recs [(Sh.int IntKind.i64), (Sh.int IntKind.i64), Sh.str] []) false))] 5))
  (.done (EV.tup []) [(0, (EK.cells 3 [(EV.v (Value.int IntKind.i64 (t)))] true)), (1, (EK.cells 3 [(EV.v (Value.int IntKind.i64 (n)))] true)), (2, (EK.cells 49 [(EV.ptr 3 0)] true)), (3, (EK.cells 51 [(EV.v (Value.int IntKind.i64 (p))), (EV.slO 4 3 0 false)] true)), (4, (EK.seq 56 (SyC.recs [(Sh.int IntKind.i64), (Sh.int IntKind.i64), Sh.str] []) false))] 5)) := by kernel_rfl
theorem stS (t n p i : Int) (q : List (List U)) (nn : Bool) : R (stOf (sS t n p i q nn)) = (bc (Decidable.decide (0 < t))
  (bc (Decidable.decide (i < n))
    (bc (bc (bc (bc (bc (Decidable.decide (0 ≤ t)) (bc (Decidable.decide (t ≤ 65536)) (Nat.ble (ByteArray.size { data := #[84] }) 65536) Bool.false) Bool.false) Bool.true Bool.false) (bc (bc (bc (Nat.beq (List.length q) (List.length q)) (bc (eqN nn nn) (Nat.blt (Nat.add (List.length q) (List.length (List.map (fun r => U.int (List.headD r (U.i 0))) [[U.i (IntKind.wrap IntKind.i64 (2 * i))]]))) 65536) Bool.false) Bool.false) Bool.true Bool.false) Bool.true Bool.false) Bool.false) Bool.true Bool.false)
      (.at (sS (t) (n) (p) (IntKind.wrap IntKind.i64 (i + 1)) (q ++ List.map (wk (zrep { data := #[84] } (Int.toNat t))) (List.map (fun r => U.int (List.headD r (U.i 0))) [[U.i (IntKind.wrap IntKind.i64 (2 * i))]])) (bc nn Bool.true (Nat.blt 0 (List.length (List.map (fun r => U.int (List.headD r (U.i 0))) [[U.i (IntKind.wrap IntKind.i64 (2 * i))]]))))))
      .bad)
    (.done (EV.tup []) [(0, (EK.cells 3 [(EV.v (Value.int IntKind.i64 (t)))] true)), (1, (EK.cells 3 [(EV.v (Value.int IntKind.i64 (n)))] true)), (2, (EK.cells 49 [(EV.ptr 3 0)] true)), (3, (EK.cells 51 [(EV.v (Value.int IntKind.i64 (p))), (EV.slO 4 3 (List.length q) (nn))] true)), (4, (EK.seq 56 (SyC.recs [(Sh.int IntKind.i64), (Sh.int IntKind.i64), Sh.str] (q)) (nn)))] 5))
  (.done (EV.tup []) [(0, (EK.cells 3 [(EV.v (Value.int IntKind.i64 (t)))] true)), (1, (EK.cells 3 [(EV.v (Value.int IntKind.i64 (n)))] true)), (2, (EK.cells 49 [(EV.ptr 3 0)] true)), (3, (EK.cells 51 [(EV.v (Value.int IntKind.i64 (p))), (EV.slO 4 3 (List.length q) (nn))] true)), (4, (EK.seq 56 (SyC.recs [(Sh.int IntKind.i64), (Sh.int IntKind.i64), Sh.str] (q)) (nn)))] 5)) := by kernel_rfl
/-- rows i .. of the twists -/
noncomputable def twQ (t : Int) (i : Nat) : Nat → List (List U)
  | 0 => []
  | m + 1 => wk (zrep bT t.toNat) (2 * (i : Int)) :: twQ t (i + 1) m
noncomputable abbrev KT (t n p : Int) (q : List (List U)) (nn : Bool) : List (Nat × EK) := K0 t n p (.slO 4 3 q.length nn) [(4, .seq 56 (.recs shW q) nn)]
theorem goS {t n p : Int} {i : Nat} {q : List (List U)} {nn : Bool} (ht : 0 < t) (ht2 : t ≤ 100) (hi : (i : Int) < n) (hn : n ≤ 100) (hq : q.length ≤ 1000) : R (stOf (sS t n p i q nn)) = .at (sS t n p (i + 1 : Nat) (q ++ [wk (zrep bT t.toNat) (2 * (i : Int))]) true) := by
  rw [stS]
  have e1 : (ByteArray.mk #[84]).size = 1 := rfl
  simp (disch := omega) only [Nat.add_eq, eqSy_self, eqN_self, bc_same, List.length_cons, ofn, wrap_in, dt, df, bltD, bltN, ble_of, bleN, beqD, bc_t, bc_f, nn_ok, Nat.zero_add, to_nat, Int.zero_add, Int.sub_zero, Int.sub_self, Int.cast_ofNat_Int, Int.natCast_zero, Int.toNat_zero, List.take_zero, List.nil_append, List.length_append, List.length_nil, e1, List.map_cons, List.map_nil, dt ht, dt hi]
  rfl
theorem goN {t n p : Int} {i : Nat} (ht : 0 < t) (ht2 : t ≤ 100) (hi : (i : Int) < n) (hn : n ≤ 100) : R (stOf (sN t n p i)) = .at (sS t n p (i + 1 : Nat) [wk (zrep bT t.toNat) (2 * (i : Int))] true) := by
  rw [stN]
  have e1 : (ByteArray.mk #[84]).size = 1 := rfl
  simp (disch := omega) only [Nat.add_eq, eqSy_self, eqN_self, bc_same, List.length_cons, ofn, wrap_in, dt, df, bltD, bltN, ble_of, bleN, beqD, bc_t, bc_f, nn_ok, Nat.zero_add, to_nat, Int.zero_add, Int.sub_zero, Int.sub_self, Int.cast_ofNat_Int, Int.natCast_zero, Int.toNat_zero, List.take_zero, List.nil_append, List.length_append, List.length_nil, e1, List.map_cons, List.map_nil, dt ht, dt hi]
  rfl
theorem finS {t n p : Int} {i : Nat} {q : List (List U)} {nn : Bool} (h : t ≤ 0 ∨ n ≤ (i : Int)) : R (stOf (sS t n p i q nn)) = .done (.tup []) (KT t n p q nn) 5 := by
  rw [stS]
  by_cases ht : 0 < t
  · simp (disch := omega) only [Nat.add_eq, eqSy_self, eqN_self, bc_same, List.length_cons, ofn, wrap_in, dt, df, bltD, bltN, ble_of, bleN, beqD, bc_t, bc_f, nn_ok, Nat.zero_add, to_nat, Int.zero_add, Int.sub_zero, Int.sub_self, Int.cast_ofNat_Int, Int.natCast_zero, Int.toNat_zero, List.take_zero, List.nil_append, List.length_append, List.length_nil, dt ht, df (show ¬ (i : Int) < n by omega)]
    rfl
  · simp (disch := omega) only [Nat.add_eq, eqSy_self, eqN_self, bc_same, List.length_cons, ofn, wrap_in, dt, df, bltD, bltN, ble_of, bleN, beqD, bc_t, bc_f, nn_ok, Nat.zero_add, to_nat, Int.zero_add, Int.sub_zero, Int.sub_self, Int.cast_ofNat_Int, Int.natCast_zero, Int.toNat_zero, List.take_zero, List.nil_append, List.length_append, List.length_nil, df ht]
    rfl
theorem finN {t n p : Int} {i : Nat} (h : t ≤ 0 ∨ n ≤ (i : Int)) : R (stOf (sN t n p i)) = .done (.tup []) (KT t n p [] false) 5 := by
  rw [stN]
  by_cases ht : 0 < t
  · simp (disch := omega) only [Nat.add_eq, eqSy_self, eqN_self, bc_same, List.length_cons, ofn, wrap_in, dt, df, bltD, bltN, ble_of, bleN, beqD, bc_t, bc_f, nn_ok, Nat.zero_add, to_nat, Int.zero_add, Int.sub_zero, Int.sub_self, Int.cast_ofNat_Int, Int.natCast_zero, Int.toNat_zero, List.take_zero, List.nil_append, List.length_append, List.length_nil, dt ht, df (show ¬ (i : Int) < n by omega)]
    rfl
  · simp (disch := omega) only [Nat.add_eq, eqSy_self, eqN_self, bc_same, List.length_cons, ofn, wrap_in, dt, df, bltD, bltN, ble_of, bleN, beqD, bc_t, bc_f, nn_ok, Nat.zero_add, to_nat, Int.zero_add, Int.sub_zero, Int.sub_self, Int.cast_ofNat_Int, Int.natCast_zero, Int.toNat_zero, List.take_zero, List.nil_append, List.length_append, List.length_nil, df ht]
    rfl
theorem loopS {t n p : Int} (ht : 0 < t) (ht2 : t ≤ 100) (hn : n ≤ 100) : ∀ (k i : Nat) (q : List (List U)) (nn : Bool), (i : Int) + k = n → q.length + k ≤ 1000 → EndM 4 33 ctW (stOf (sS t n p i q nn)) (.tup []) (KT t n p (q ++ twQ t i k) (bc nn true (Nat.blt 0 k))) 5
  | 0, i, q, nn, h, hq => by
    rw [show twQ t i 0 = [] from rfl, List.append_nil, show bc nn true (Nat.blt 0 0) = nn by cases nn <;> rfl]
    exact .done (finS (by omega))
  | k + 1, i, q, nn, h, hq => by
    rw [show twQ t i (k + 1) = wk (zrep bT t.toNat) (2 * (i : Int)) :: twQ t (i + 1) k from rfl, show q ++ wk (zrep bT t.toNat) (2 * (i : Int)) :: twQ t (i + 1) k = (q ++ [wk (zrep bT t.toNat) (2 * (i : Int))]) ++ twQ t (i + 1) k by simp, show bc nn true (Nat.blt 0 (k + 1)) = bc true true (Nat.blt 0 k) by cases nn <;> rfl]
    exact .at ctW_ok (goS ht ht2 (by omega) hn (by omega)) (loopS ht ht2 hn k (i + 1) _ true (by omega) (by rw [List.length_append]; simp only [List.length_cons, List.length_nil]; omega))
end MTw
noncomputable def twsQ (n t : Int) : List (List U) := bc (decide (0 < t)) (MTw.twQ t 0 n.toNat) []
open MTw in
theorem MTw.endS {t n p : Int} {q : List (List U)} {nn : Bool} (ht : t ≤ 100) (h0 : 0 ≤ n) (hn : n ≤ 100) (hq : q.length ≤ 800) : EndM 4 33 ctW (st0m 33 ax (K0 t n p (.slO 4 3 q.length nn) [(4, .seq 56 (.recs shW q) nn)]) 5) (.tup []) (KT t n p (q ++ twsQ n t) (bc (decide (0 < t)) (bc nn true (Nat.blt 0 n.toNat)) nn)) 5 := by
  unfold twsQ
  by_cases h : 0 < t
  · rw [dt h, bc_t, bc_t]
    exact .at ctW_ok (inS t n p q nn) (loopS h ht hn n.toNat 0 q nn (by omega) (by omega))
  · rw [df h, bc_f, bc_f, List.append_nil]
    exact .at ctW_ok (inS t n p q nn) (.done (finS (i := 0) (by omega)))
open MTw in
theorem MTw.endN {t n p : Int} (ht : t ≤ 100) (h0 : 0 ≤ n) (hn : n ≤ 100) : EndM 4 33 ctW (st0m 33 ax (K0 t n p (.v (.slice none 0 0)) []) 4) (.tup []) (KT t n p (twsQ n t) (bc (decide (0 < t)) (Nat.blt 0 n.toNat) false)) 5 := by
  unfold twsQ
  by_cases h : 0 < t
  · rw [dt h, bc_t, bc_t]
    by_cases h1 : 0 < n
    · obtain ⟨k, rfl⟩ : ∃ k : Nat, n = ((k + 1 : Nat) : Int) := ⟨(n - 1).toNat, by omega⟩
      rw [Int.toNat_natCast]
      refine .at ctW_ok (inN t _ p) (.at ctW_ok (goN (i := 0) h ht (by omega) hn) ?_)
      have := loopS (p := p) h ht hn k 1 [wk (zrep bT t.toNat) (2 * ((0 : Nat) : Int))] true (by omega) (by simp only [List.length_cons, List.length_nil]; omega)
      exact this
    · have : n = 0 := by omega
      subst this
      exact .at ctW_ok (inN t _ p) (.done (finN (i := 0) (by omega)))
  · rw [df h, bc_f, bc_f]
    exact .at ctW_ok (inN t n p) (.done (finN (i := 0) (by omega)))
open MTw in
noncomputable def spTw : ZMT := fun ax K0 m => match ax with
  | [.ptr 0 0, .ptr 1 0, .ptr 2 0] => match K0 with
    | [(0, .cells 3 [.v (.int .i64 t)] true), (1, .cells 3 [.v (.int .i64 n)] true), (2, .cells 49 [.ptr 3 0] true), (3, .cells 51 [.v (.int .i64 p), .v (.slice none 0 0)] true)] => bc (Nat.beq m 4) (some ⟨bc (decide (t ≤ 100)) (bc (decide (0 ≤ n)) (decide (n ≤ 100)) false) false, .tup [], KT t n p (twsQ n t) (bc (decide (0 < t)) (Nat.blt 0 n.toNat) false), 5, 4⟩) none
    | [(0, .cells 3 [.v (.int .i64 t)] true), (1, .cells 3 [.v (.int .i64 n)] true), (2, .cells 49 [.ptr 3 0] true), (3, .cells 51 [.v (.int .i64 p), .slO 4 3 len nn] true), (4, .seq 56 (.recs [.int .i64, .int .i64, .str] q) nn2)] => bc (Nat.beq m 5) (some ⟨bc (Nat.beq len q.length) (bc (eqN nn nn2) (bc (Nat.ble q.length 800) (bc (decide (t ≤ 100)) (bc (decide (0 ≤ n)) (decide (n ≤ 100)) false) false) false) false) false, .tup [], KT t n p (q ++ twsQ n t) (bc (decide (0 < t)) (bc nn2 true (Nat.blt 0 n.toNat)) nn2), 5, 4⟩) none
    | _ => none
  | _ => none
open MTw in
theorem spTw_ok : ZMtOk Try.prog 33 spTw := fun γ w0 w us ax K0 m r hs hc hres hax hH => by
  have noN : ∀ {x : ZMR} {b : Bool}, bc b (some x) none = some r → b = true ∧ x = r := fun {x b} h => by
    cases b
    · cases h
    · exact ⟨rfl, Option.some.inj h⟩
  unfold spTw at hs
  split at hs
  · split at hs
    · rename_i t n p
      obtain ⟨hm, rfl⟩ := noN hs
      have hm := Nat.eq_of_beq_eq_true hm
      subst hm
      obtain ⟨h1, hc⟩ := bcT (show bc (decide (t ≤ 100)) (bc (decide (0 ≤ n)) (decide (n ≤ 100)) false) false = true from hc)
      obtain ⟨h2, h3⟩ := bcT hc
      exact (endN (p := p) (of_decide_eq_true h1) (of_decide_eq_true h2) (of_decide_eq_true h3)).calls ctW_ok (by kernel_rfl) hres hax hH
    · rename_i t n p len nn q nn2
      obtain ⟨hm, rfl⟩ := noN hs
      have hm := Nat.eq_of_beq_eq_true hm
      subst hm
      obtain ⟨h1, hc⟩ := bcT (show bc (Nat.beq len q.length) (bc (eqN nn nn2) (bc (Nat.ble q.length 800) (bc (decide (t ≤ 100)) (bc (decide (0 ≤ n)) (decide (n ≤ 100)) false) false) false) false) false = true from hc)
      obtain ⟨h2, hc⟩ := bcT hc
      obtain ⟨h3, hc⟩ := bcT hc
      obtain ⟨h4, hc⟩ := bcT hc
      obtain ⟨h5, h6⟩ := bcT hc
      have h1 := Nat.eq_of_beq_eq_true h1
      have h2 := eqN_ok h2
      subst h1; subst h2
      exact (endS (p := p) (q := q) (nn := nn) (of_decide_eq_true h4) (of_decide_eq_true h5) (of_decide_eq_true h6) (Nat.le_of_ble_eq_true h3)).calls ctW_ok (by kernel_rfl) hres hax hH
    · cases hs
  · cases hs
/-! ### body -/
namespace MBo
noncomputable def R (s : ES) : ZF := RMs 3 36 ctW [(atS 0 36 1, [[(0,none),(1,none),(2,none)]])] [] [(2, 3, 56, .recs shW [])] s
noncomputable abbrev K0 (n p : Int) (x : EV) (r : List (Nat × EK)) : List (Nat × EK) := [(0, .cells 3 [iv n] true), (1, .cells 49 [.ptr 2 0] true), (2, .cells 51 [iv p, x] true)] ++ r
noncomputable abbrev ax : List EV := [.ptr 0 0, .ptr 1 0]

noncomputable def sN (n p k : Int) : NS := ⟨[⟨36, 17, [(0, (EV.ptr 0 0)), (1, (EV.ptr 1 0)), (2, iv k)], [.it (.code (nav [1, 0, 0, 0] (bodyOf Try.f36))), .it (.code (nav [1, 0, 0, 1] (bodyOf Try.f36))), .it (.inLoop (nav [1, 0, 0] (bodyOf Try.f36))), .it (.inBlock 0)], [], Option.none⟩], [(0, (EK.cells 3 [(EV.v (Value.int IntKind.i64 (n)))] true)), (1, (EK.cells 49 [(EV.ptr 2 0)] true)), (2, (EK.cells 51 [(EV.v (Value.int IntKind.i64 (p))), (EV.v (Value.slice Option.none 0 0))] true))], 3⟩
noncomputable def sS (n p k : Int) (q : List (List U)) (nn : Bool) : NS := ⟨[⟨36, 17, [(0, (EV.ptr 0 0)), (1, (EV.ptr 1 0)), (2, iv k)], [.it (.code (nav [1, 0, 0, 0] (bodyOf Try.f36))), .it (.code (nav [1, 0, 0, 1] (bodyOf Try.f36))), .it (.inLoop (nav [1, 0, 0] (bodyOf Try.f36))), .it (.inBlock 0)], [], Option.none⟩], [(0, (EK.cells 3 [(EV.v (Value.int IntKind.i64 (n)))] true)), (1, (EK.cells 49 [(EV.ptr 2 0)] true)), (2, (EK.cells 51 [(EV.v (Value.int IntKind.i64 (p))), (EV.slO 3 3 (List.length q) (nn))] true)), (3, (EK.seq 56 (SyC.recs [(Sh.int IntKind.i64), (Sh.int IntKind.i64), Sh.str] (q)) (nn)))], 4⟩
theorem inN (n p : Int) : R (st0m 36 ax (K0 n p (.v (.slice none 0 0)) []) 3) = (.at (sN (n) (p) (IntKind.wrap IntKind.i64 (n - 1)))) := by kernel_rfl
theorem inS (n p : Int) (q : List (List U)) (nn : Bool) : R (st0m 36 ax (K0 n p (.slO 3 3 q.length nn) [(3, .seq 56 (.recs shW q) nn)]) 4) = (.at (sS (n) (p) (IntKind.wrap IntKind.i64 (n - 1)) (q) (nn))) := by kernel_rfl
theorem stN (n p k : Int) : R (stOf (sN n p k)) = (bc (Decidable.decide (0 ≤ k))
  (bc (bc (bc (bc (Decidable.decide (-1000 ≤ k)) (bc (Decidable.decide (k ≤ 1000)) (bc (Decidable.decide (-1000 ≤ IntKind.wrap IntKind.i64 (IntKind.wrap IntKind.i64 (k + n) - 1))) (Decidable.decide (IntKind.wrap IntKind.i64 (IntKind.wrap IntKind.i64 (k + n) - 1) ≤ 1000)) Bool.false) Bool.false) Bool.false) (bc (bc (Nat.ble (List.length (wayL k (IntKind.wrap IntKind.i64 (IntKind.wrap IntKind.i64 (k + n) - 1)))) 60000) Bool.true Bool.false) Bool.true Bool.false) Bool.false) Bool.true Bool.false)
    (.at (sS (n) (p) (IntKind.wrap IntKind.i64 (k - 1)) ([] ++ List.map (wk { data := #[67, 84, 67] }) (wayL k (IntKind.wrap IntKind.i64 (IntKind.wrap IntKind.i64 (k + n) - 1)))) (Nat.blt 0 (List.length (wayL k (IntKind.wrap IntKind.i64 (IntKind.wrap IntKind.i64 (k + n) - 1)))))))
    .bad)
  (.done (EV.tup []) [(0, (EK.cells 3 [(EV.v (Value.int IntKind.i64 (n)))] true)), (1, (EK.cells 49 [(EV.ptr 2 0)] true)), (2, (EK.cells 51 [(EV.v (Value.int IntKind.i64 (p))), (EV.slO 3 3 0 false)] true)), (3, (EK.seq 56 (SyC.recs [(Sh.int IntKind.i64), (Sh.int IntKind.i64), Sh.str] []) false))] 4)) := by kernel_rfl
theorem stS (n p k : Int) (q : List (List U)) (nn : Bool) : R (stOf (sS n p k q nn)) = (bc (Decidable.decide (0 ≤ k))
  (bc (bc (bc (bc (Decidable.decide (-1000 ≤ k)) (bc (Decidable.decide (k ≤ 1000)) (bc (Decidable.decide (-1000 ≤ IntKind.wrap IntKind.i64 (IntKind.wrap IntKind.i64 (k + n) - 1))) (Decidable.decide (IntKind.wrap IntKind.i64 (IntKind.wrap IntKind.i64 (k + n) - 1) ≤ 1000)) Bool.false) Bool.false) Bool.false) (bc (bc (bc (Nat.beq (List.length q) (List.length q)) (bc (eqN nn nn) (bc (Nat.ble (List.length (wayL k (IntKind.wrap IntKind.i64 (IntKind.wrap IntKind.i64 (k + n) - 1)))) 60000) (Nat.blt (Nat.add (List.length q) (List.length (wayL k (IntKind.wrap IntKind.i64 (IntKind.wrap IntKind.i64 (k + n) - 1))))) 65536) Bool.false) Bool.false) Bool.false) Bool.true Bool.false) Bool.true Bool.false) Bool.false) Bool.true Bool.false)
    (.at (sS (n) (p) (IntKind.wrap IntKind.i64 (k - 1)) (q ++ List.map (wk { data := #[67, 84, 67] }) (wayL k (IntKind.wrap IntKind.i64 (IntKind.wrap IntKind.i64 (k + n) - 1)))) (bc nn Bool.true (Nat.blt 0 (List.length (wayL k (IntKind.wrap IntKind.i64 (IntKind.wrap IntKind.i64 (k + n) - 1))))))))
    .bad)
  (.done (EV.tup []) [(0, (EK.cells 3 [(EV.v (Value.int IntKind.i64 (n)))] true)), (1, (EK.cells 49 [(EV.ptr 2 0)] true)), (2, (EK.cells 51 [(EV.v (Value.int IntKind.i64 (p))), (EV.slO 3 3 (List.length q) (nn))] true)), (3, (EK.seq 56 (SyC.recs [(Sh.int IntKind.i64), (Sh.int IntKind.i64), Sh.str] (q)) (nn)))] 4)) := by kernel_rfl
theorem upI_len : ∀ (k : Nat) (a : Int), (upI a k).length = k
  | 0, _ => rfl
  | k + 1, a => by unfold upI; simp [upI_len k]
theorem wayL_len {k n : Int} (h : 1 ≤ n) : (wayL k (k + n - 1)).length = n.toNat := by
  unfold wayL
  by_cases h1 : k < k + n - 1
  · rw [dt h1, bc_t, List.length_cons, upI_len]; omega
  · rw [df h1, bc_f]
    have e : (k - (k + n - 1)).toNat = 0 := by omega
    rw [e]
    show 1 = _
    omega
noncomputable def rowQ (n : Int) (k : Nat) : List (List U) := (wayL k ((k : Int) + n - 1)).map (wk bCTC)
noncomputable def bodyQ (n : Int) : Nat → List (List U)
  | 0 => []
  | k + 1 => rowQ n k ++ bodyQ n k
theorem goS {n p : Int} {k : Nat} {q : List (List U)} {nn : Bool} (hk : k ≤ 100) (h1 : 1 ≤ n) (hn : n ≤ 100) (hq : q.length ≤ 60000) : R (stOf (sS n p k q nn)) = .at (sS n p ((k : Int) - 1) (q ++ rowQ n k) true) := by
  rw [stS]
  have hl := wayL_len (k := k) h1
  simp (disch := omega) only [Nat.add_eq, eqSy_self, eqN_self, bc_same, List.length_cons, ofn, wrap_in, dt, df, bltD, bltN, ble_of, bleN, beqD, bc_t, bc_f, nn_ok, Nat.zero_add, to_nat, Int.zero_add, Int.sub_zero, Int.sub_self, Int.cast_ofNat_Int, Int.natCast_zero, Int.toNat_zero, List.take_zero, List.nil_append, List.length_append, List.length_nil, hl]
  rfl
theorem goN {n p : Int} {k : Nat} (hk : k ≤ 100) (h1 : 1 ≤ n) (hn : n ≤ 100) : R (stOf (sN n p k)) = .at (sS n p ((k : Int) - 1) (rowQ n k) true) := by
  rw [stN]
  have hl := wayL_len (k := k) h1
  simp (disch := omega) only [Nat.add_eq, eqSy_self, eqN_self, bc_same, List.length_cons, ofn, wrap_in, dt, df, bltD, bltN, ble_of, bleN, beqD, bc_t, bc_f, nn_ok, Nat.zero_add, to_nat, Int.zero_add, Int.sub_zero, Int.sub_self, Int.cast_ofNat_Int, Int.natCast_zero, Int.toNat_zero, List.take_zero, List.nil_append, List.length_append, List.length_nil, hl]
  rfl
noncomputable abbrev KB (n p : Int) (q : List (List U)) (nn : Bool) : List (Nat × EK) := K0 n p (.slO 3 3 q.length nn) [(3, .seq 56 (.recs shW q) nn)]
theorem finS {n p : Int} {q : List (List U)} {nn : Bool} : R (stOf (sS n p (-1) q nn)) = .done (.tup []) (KB n p q nn) 4 := by
  rw [stS]
  simp (disch := omega) only [Nat.add_eq, eqSy_self, eqN_self, bc_same, List.length_cons, ofn, wrap_in, dt, df, bltD, bltN, ble_of, bleN, beqD, bc_t, bc_f, nn_ok, Nat.zero_add, to_nat, Int.zero_add, Int.sub_zero, Int.sub_self, Int.cast_ofNat_Int, Int.natCast_zero, Int.toNat_zero, List.take_zero, List.nil_append, List.length_append, List.length_nil]
  rfl
theorem loopS {n p : Int} (h1 : 1 ≤ n) (hn : n ≤ 100) : ∀ (k : Nat) (q : List (List U)) , k ≤ 100 → q.length + k * 100 ≤ 60000 → EndM 3 36 ctW (stOf (sS n p ((k : Int) - 1) q true)) (.tup []) (KB n p (q ++ bodyQ n k) true) 4
  | 0, q, hk, hq => by
    rw [show bodyQ n 0 = [] from rfl, List.append_nil]
    exact .done finS
  | k + 1, q, hk, hq => by
    rw [show bodyQ n (k + 1) = rowQ n k ++ bodyQ n k from rfl, ← List.append_assoc, show ((k + 1 : Nat) : Int) - 1 = k by omega]
    have hl : (rowQ n k).length = n.toNat := by unfold rowQ; rw [List.length_map, wayL_len h1]
    exact .at ctW_ok (goS (by omega) h1 hn (by omega)) (loopS h1 hn k _ (by omega) (by rw [List.length_append, hl]; omega))
end MBo
noncomputable def bodQ (n : Int) : List (List U) := MBo.bodyQ n n.toNat
open MBo in
theorem MBo.endS {n p : Int} {q : List (List U)} {nn : Bool} (h1 : 1 ≤ n) (hn : n ≤ 100) (hq : q.length ≤ 1000) : EndM 3 36 ctW (st0m 36 ax (K0 n p (.slO 3 3 q.length nn) [(3, .seq 56 (.recs shW q) nn)]) 4) (.tup []) (KB n p (q ++ bodQ n) true) 4 := by
  obtain ⟨k, rfl⟩ : ∃ k : Nat, n = ((k + 1 : Nat) : Int) := ⟨(n - 1).toNat, by omega⟩
  have h := inS ((k + 1 : Nat) : Int) p q nn
  rw [wrap_in _ (by omega) (by omega), show ((k + 1 : Nat) : Int) - 1 = k by omega] at h
  have hl : (rowQ ((k + 1 : Nat) : Int) k).length = k + 1 := by unfold rowQ; rw [List.length_map, wayL_len h1]; omega
  have e : q ++ bodQ ((k + 1 : Nat) : Int) = (q ++ rowQ ((k + 1 : Nat) : Int) k) ++ bodyQ ((k + 1 : Nat) : Int) k := by
    unfold bodQ
    rw [Int.toNat_natCast]
    show q ++ (rowQ _ k ++ bodyQ _ k) = _
    simp
  rw [e]
  exact .at ctW_ok h (.at ctW_ok (goS (by omega) h1 hn (by omega)) (loopS h1 hn k _ (by omega) (by rw [List.length_append, hl]; omega)))
open MBo in
theorem MBo.endN {n p : Int} (h1 : 1 ≤ n) (hn : n ≤ 100) : EndM 3 36 ctW (st0m 36 ax (K0 n p (.v (.slice none 0 0)) []) 3) (.tup []) (KB n p (bodQ n) true) 4 := by
  obtain ⟨k, rfl⟩ : ∃ k : Nat, n = ((k + 1 : Nat) : Int) := ⟨(n - 1).toNat, by omega⟩
  have h := inN ((k + 1 : Nat) : Int) p
  rw [wrap_in _ (by omega) (by omega), show ((k + 1 : Nat) : Int) - 1 = k by omega] at h
  have hl : (rowQ ((k + 1 : Nat) : Int) k).length = k + 1 := by unfold rowQ; rw [List.length_map, wayL_len h1]; omega
  have e : bodQ ((k + 1 : Nat) : Int) = rowQ ((k + 1 : Nat) : Int) k ++ bodyQ ((k + 1 : Nat) : Int) k := by
    unfold bodQ
    rw [Int.toNat_natCast]
    rfl
  rw [e]
  exact .at ctW_ok h (.at ctW_ok (goN (by omega) h1 hn) (loopS h1 hn k _ (by omega) (by rw [hl]; omega)))
open MBo in
noncomputable def spBo : ZMT := fun ax K0 m => match ax with
  | [.ptr 0 0, .ptr 1 0] => match K0 with
    | [(0, .cells 3 [.v (.int .i64 n)] true), (1, .cells 49 [.ptr 2 0] true), (2, .cells 51 [.v (.int .i64 p), .v (.slice none 0 0)] true)] => bc (Nat.beq m 3) (some ⟨bc (decide (1 ≤ n)) (decide (n ≤ 100)) false, .tup [], KB n p (bodQ n) true, 4, 3⟩) none
    | [(0, .cells 3 [.v (.int .i64 n)] true), (1, .cells 49 [.ptr 2 0] true), (2, .cells 51 [.v (.int .i64 p), .slO 3 3 len nn] true), (3, .seq 56 (.recs [.int .i64, .int .i64, .str] q) nn2)] => bc (Nat.beq m 4) (some ⟨bc (Nat.beq len q.length) (bc (eqN nn nn2) (bc (Nat.ble q.length 1000) (bc (decide (1 ≤ n)) (decide (n ≤ 100)) false) false) false) false, .tup [], KB n p (q ++ bodQ n) true, 4, 3⟩) none
    | _ => none
  | _ => none
open MBo in
theorem spBo_ok : ZMtOk Try.prog 36 spBo := fun γ w0 w us ax K0 m r hs hc hres hax hH => by
  have noN : ∀ {x : ZMR} {b : Bool}, bc b (some x) none = some r → b = true ∧ x = r := fun {x b} h => by
    cases b
    · cases h
    · exact ⟨rfl, Option.some.inj h⟩
  unfold spBo at hs
  split at hs
  · split at hs
    · rename_i n p
      obtain ⟨hm, rfl⟩ := noN hs
      have hm := Nat.eq_of_beq_eq_true hm
      subst hm
      obtain ⟨h1, h2⟩ := bcT (show bc (decide (1 ≤ n)) (decide (n ≤ 100)) false = true from hc)
      exact (endN (p := p) (of_decide_eq_true h1) (of_decide_eq_true h2)).calls ctW_ok (by kernel_rfl) hres hax hH
    · rename_i n p len nn q nn2
      obtain ⟨hm, rfl⟩ := noN hs
      have hm := Nat.eq_of_beq_eq_true hm
      subst hm
      obtain ⟨h1, hc⟩ := bcT (show bc (Nat.beq len q.length) (bc (eqN nn nn2) (bc (Nat.ble q.length 1000) (bc (decide (1 ≤ n)) (decide (n ≤ 100)) false) false) false) false = true from hc)
      obtain ⟨h2, hc⟩ := bcT hc
      obtain ⟨h3, hc⟩ := bcT hc
      obtain ⟨h4, h5⟩ := bcT hc
      have h1 := Nat.eq_of_beq_eq_true h1
      have h2 := eqN_ok h2
      subst h1; subst h2
      exact (endS (p := p) (q := q) (nn := nn) (of_decide_eq_true h4) (of_decide_eq_true h5) (Nat.le_of_ble_eq_true h3)).calls ctW_ok (by kernel_rfl) hres hax hH
    · cases hs
  · cases hs
noncomputable def ctS : Tr ZCC := (ctW.put 33 (some (mC spTw))).put 36 (some (mC spBo))
theorem ctS_ok : ZCtsOk Try.prog ctS := (ctW_ok.addM rfl spTw_ok).addM rfl spBo_ok
end Go.Proofs.Ytojbgacoolanlaa.Ev
namespace Go.Proofs.Ytojbgacoolanlaa.Ev
open Go.Proofs
theorem twQ_len (t : Int) : ∀ (m i : Nat), (MTw.twQ t i m).length = m
  | 0, _ => rfl
  | m + 1, i => by unfold MTw.twQ; simp [twQ_len t m]
theorem twsQ_len (n t : Int) : (twsQ n t).length ≤ n.toNat := by
  unfold twsQ
  by_cases h : 0 < t
  · rw [dt h, bc_t, twQ_len]; omega
  · rw [df h, bc_f]; simp
theorem bodyQ_len {n : Int} (h : 1 ≤ n) : ∀ k, (MBo.bodyQ n k).length = k * n.toNat
  | 0 => by simp [MBo.bodyQ]
  | k + 1 => by
    show (MBo.rowQ n k ++ MBo.bodyQ n k).length = _
    rw [List.length_append, bodyQ_len h k, Nat.succ_mul]
    have : (MBo.rowQ n k).length = n.toNat := by unfold MBo.rowQ; rw [List.length_map, MBo.wayL_len h]
    omega
theorem bodQ_len {n : Int} (h : 1 ≤ n) (h2 : n ≤ 6) : (bodQ n).length ≤ 36 := by
  unfold bodQ
  rw [bodyQ_len h]
  exact Nat.le_trans (Nat.mul_le_mul (show n.toNat ≤ 6 by omega) (show n.toNat ≤ 6 by omega)) (by omega)
noncomputable def spiQ (n t : Int) : List (List U) := twsQ n t ++ bodQ n ++ [wk bP (n - 1)] ++ bodQ n ++ twsQ n t
namespace MSpi
noncomputable def RUN (s : ES) : ZF := RZ 8 ctS (fun _ => false) [] [] false s
theorem in_t (n t : Int) : RUN (st0 8 [iv n, iv t]) = (bc (Decidable.decide (n < 1))
  (.done (EV.tup [(EV.v (Value.agg (Array.mk [(Value.int IntKind.i64 (0)), (Value.slice Option.none 0 0)]))), (EV.v (Value.int IntKind.i64 (7)))]) [] 0)
  (bc (Decidable.decide (6 < n))
    (.done (EV.tup [(EV.v (Value.agg (Array.mk [(Value.int IntKind.i64 (0)), (Value.slice Option.none 0 0)]))), (EV.v (Value.int IntKind.i64 (7)))]) [] 0)
    (bc (Decidable.decide (t < 0))
      (.done (EV.tup [(EV.v (Value.agg (Array.mk [(Value.int IntKind.i64 (0)), (Value.slice Option.none 0 0)]))), (EV.v (Value.int IntKind.i64 (7)))]) [] 0)
      (bc (Decidable.decide (16 < t))
        (.done (EV.tup [(EV.v (Value.agg (Array.mk [(Value.int IntKind.i64 (0)), (Value.slice Option.none 0 0)]))), (EV.v (Value.int IntKind.i64 (7)))]) [] 0)
        (bc (bc (bc (Decidable.decide (t ≤ 100)) (bc (Decidable.decide (0 ≤ n)) (Decidable.decide (n ≤ 100)) Bool.false) Bool.false) Bool.true Bool.false)
          (bc (bc (bc (Nat.beq (List.length (twsQ n t)) (List.length (twsQ n t))) (bc (eqN (bc (Decidable.decide (0 < t)) (Nat.blt 0 (Int.toNat n)) Bool.false) (bc (Decidable.decide (0 < t)) (Nat.blt 0 (Int.toNat n)) Bool.false)) (bc (Nat.ble (List.length (twsQ n t)) 1000) (bc (Decidable.decide (1 ≤ n)) (Decidable.decide (n ≤ 100)) Bool.false) Bool.false) Bool.false) Bool.false) Bool.true Bool.false)
            (bc (bc (bc (Nat.beq (List.length (twsQ n t ++ bodQ n)) (List.length (twsQ n t ++ bodQ n))) (Nat.blt (Nat.add (List.length (twsQ n t ++ bodQ n)) (List.length (List.map (fun r => U.int (List.headD r (U.i 0))) [[U.i (IntKind.wrap IntKind.i64 (n - 1))]]))) 65536) Bool.false) Bool.true Bool.false)
              (bc (bc (bc (Nat.beq (List.length (twsQ n t ++ bodQ n ++ List.map (wk { data := #[80] }) (List.map (fun r => U.int (List.headD r (U.i 0))) [[U.i (IntKind.wrap IntKind.i64 (n - 1))]]))) (List.length (twsQ n t ++ bodQ n ++ List.map (wk { data := #[80] }) (List.map (fun r => U.int (List.headD r (U.i 0))) [[U.i (IntKind.wrap IntKind.i64 (n - 1))]])))) (bc (Nat.ble (List.length (twsQ n t ++ bodQ n ++ List.map (wk { data := #[80] }) (List.map (fun r => U.int (List.headD r (U.i 0))) [[U.i (IntKind.wrap IntKind.i64 (n - 1))]]))) 1000) (bc (Decidable.decide (1 ≤ n)) (Decidable.decide (n ≤ 100)) Bool.false) Bool.false) Bool.false) Bool.true Bool.false)
                (bc (bc (bc (Nat.beq (List.length (twsQ n t ++ bodQ n ++ List.map (wk { data := #[80] }) (List.map (fun r => U.int (List.headD r (U.i 0))) [[U.i (IntKind.wrap IntKind.i64 (n - 1))]]) ++ bodQ n)) (List.length (twsQ n t ++ bodQ n ++ List.map (wk { data := #[80] }) (List.map (fun r => U.int (List.headD r (U.i 0))) [[U.i (IntKind.wrap IntKind.i64 (n - 1))]]) ++ bodQ n))) (bc (Nat.ble (List.length (twsQ n t ++ bodQ n ++ List.map (wk { data := #[80] }) (List.map (fun r => U.int (List.headD r (U.i 0))) [[U.i (IntKind.wrap IntKind.i64 (n - 1))]]) ++ bodQ n)) 800) (bc (Decidable.decide (t ≤ 100)) (bc (Decidable.decide (0 ≤ n)) (Decidable.decide (n ≤ 100)) Bool.false) Bool.false) Bool.false) Bool.false) Bool.true Bool.false)
                  (bc (bc (bc (Nat.beq (List.length (twsQ n t ++ bodQ n ++ List.map (wk { data := #[80] }) (List.map (fun r => U.int (List.headD r (U.i 0))) [[U.i (IntKind.wrap IntKind.i64 (n - 1))]]) ++ bodQ n ++ twsQ n t)) (List.length (twsQ n t ++ bodQ n ++ List.map (wk { data := #[80] }) (List.map (fun r => U.int (List.headD r (U.i 0))) [[U.i (IntKind.wrap IntKind.i64 (n - 1))]]) ++ bodQ n ++ twsQ n t))) Bool.true Bool.false) Bool.true Bool.false)
                    (.done (EV.tup [(EV.agg [(EV.v (Value.int IntKind.i64 (IntKind.wrap IntKind.i64 (2 * n)))), (EV.lst (SyC.recs [(Sh.int IntKind.i64), (Sh.int IntKind.i64), Sh.str] (twsQ n t ++ bodQ n ++ List.map (wk { data := #[80] }) (List.map (fun r => U.int (List.headD r (U.i 0))) [[U.i (IntKind.wrap IntKind.i64 (n - 1))]]) ++ bodQ n ++ twsQ n t)))]), (EV.v (Value.int IntKind.i64 (0)))]) [] 0)
                    .bad)
                  .bad)
                .bad)
              .bad)
            .bad)
          .bad))))) := by kernel_rfl
theorem ends (n t : Int) : EndZ 8 ctS false (st0 8 [iv n, iv t]) (shE (bc (spiOk n t) (2 * n) 0) (bc (spiOk n t) (spiQ n t) []) (bc (spiOk n t) 0 7)) [] 0 := by
  have h := in_t n t
  unfold spiOk
  by_cases h1 : n < 1
  · simp only [dt h1, bc_t, bc_f] at h ⊢; exact (EndZ.done h).weak (shN_weak 7)
  by_cases h2 : 6 < n
  · simp only [df h1, dt h2, bc_t, bc_f] at h ⊢; exact (EndZ.done h).weak (shN_weak 7)
  by_cases h3 : t < 0
  · simp only [df h1, df h2, dt h3, bc_t, bc_f] at h ⊢; exact (EndZ.done h).weak (shN_weak 7)
  by_cases h4 : 16 < t
  · simp only [df h1, df h2, df h3, dt h4, bc_t, bc_f] at h ⊢; exact (EndZ.done h).weak (shN_weak 7)
  have l1 := twsQ_len n t
  have l2 := bodQ_len (n := n) (by omega) (by omega)
  simp (disch := omega) only [Nat.add_eq, eqSy_self, eqN_self, bc_same, List.length_cons, ofn, wrap_in, dt, df, bltD, bltN, ble_of, bleN, beqD, bc_t, bc_f, nn_ok, Nat.zero_add, to_nat, Int.zero_add, Int.sub_zero, Int.sub_self, Int.cast_ofNat_Int, Int.natCast_zero, Int.toNat_zero, List.take_zero, List.nil_append, List.length_append, List.length_nil, df h1, df h2, df h3, df h4, List.map_cons, List.map_nil, List.length_map] at h ⊢
  exact .done h
end MSpi
end Go.Proofs.Ytojbgacoolanlaa.Ev
namespace Go.Proofs.Ytojbgacoolanlaa.Ev
open Go.Proofs
theorem ba_ext : ∀ {a b : ByteArray}, a.data.toList = b.data.toList → a = b
  | ⟨a⟩, ⟨b⟩, h => by
    have h : a.toList = b.toList := h
    rw [Array.ext' h]
theorem catN_data (s : ByteArray) : ∀ (k : Nat) (o : ByteArray), (catN o s k).data.toList = o.data.toList ++ Lib.repeatL s.data.toList k
  | 0, o => by simp [catN, Lib.repeatL]
  | k + 1, o => by
    unfold catN
    rw [catN_data s k, ByteArray.data_append, Array.toList_append]
    simp [Lib.repeatL]
theorem lets_zrep (s : ByteArray) (n : Int) : lets s n = zrep s n.toNat := by
  apply ba_ext
  unfold lets zrep
  rw [catN_data]
  simp
end Go.Proofs.Ytojbgacoolanlaa.Ev
namespace Go.Proofs.Ytojbgacoolanlaa.Ev
open Go.Proofs
theorem twR_eq (t : Int) : ∀ (m i : Nat), twR t i m = MTw.twQ t i m
  | 0, _ => rfl
  | m + 1, i => by
    unfold twR MTw.twQ
    rw [lets_zrep, twR_eq t m]
theorem tws_eq (n t : Int) : tws n t = twsQ n t := by unfold tws twsQ; rw [twR_eq]
theorem upI_row (k : Int) : ∀ (m i : Nat), (upI (k + i) m).map (wk bCTC) = rowR k (i + 1) m
  | 0, _ => rfl
  | m + 1, i => by
    unfold upI rowR
    rw [List.map_cons, show k + (i : Int) + 1 = k + ((i + 1 : Nat) : Int) by omega, upI_row k m (i + 1)]
theorem rowQ_eq {n : Int} (h : 1 ≤ n) (k : Nat) : MBo.rowQ n k = rowR k 0 n.toNat := by
  obtain ⟨m, rfl⟩ : ∃ m : Nat, n = ((m + 1 : Nat) : Int) := ⟨(n - 1).toNat, by omega⟩
  unfold MBo.rowQ wayL
  rw [Int.toNat_natCast]
  have e := upI_row k m 0
  rw [show (k : Int) + ((0 : Nat) : Int) = k by omega] at e
  show wk bCTC (k : Int) :: _ = wk bCTC ((k : Int) + ((0 : Nat) : Int)) :: rowR k 1 m
  rw [show (k : Int) + ((0 : Nat) : Int) = k by omega, ← e]
  by_cases hm : (k : Int) < (k : Int) + ((m + 1 : Nat) : Int) - 1
  · rw [dt hm, bc_t, show ((k : Int) + ((m + 1 : Nat) : Int) - 1 - k).toNat = m by omega]
  · have : m = 0 := by omega
    subst this
    rw [df hm, bc_f, show ((k : Int) - ((k : Int) + ((0 + 1 : Nat) : Int) - 1)).toNat = 0 by omega]
    rfl
theorem bodyQ_eq {n : Int} (h : 1 ≤ n) : ∀ k, MBo.bodyQ n k = bodyR n.toNat k
  | 0 => rfl
  | k + 1 => by
    show MBo.rowQ n k ++ MBo.bodyQ n k = rowR k 0 n.toNat ++ bodyR n.toNat k
    rw [rowQ_eq h, bodyQ_eq h k]
theorem spiQ_eq {n : Int} (h : 1 ≤ n) (t : Int) : spiQ n t = spiL n (tws n t) := by
  unfold spiQ spiL bodQ bodyL
  rw [tws_eq, bodyQ_eq h]
theorem spiOk_pos {n t : Int} (h : spiOk n t = true) : 1 ≤ n := by
  unfold spiOk at h
  by_cases h1 : n < 1
  · rw [dt h1, bc_t] at h; cases h
  · omega
theorem spPSpi_ok : ZCtOk Try.prog 8 spSpi := fun γ w us ax r hs hc hax hN hfz => by
  unfold spSpi at hs
  split at hs
  · rename_i n t
    obtain ⟨rfl⟩ := Option.some.inj hs
    have e : bc (spiOk n t) (spiL n (tws n t)) [] = bc (spiOk n t) (spiQ n t) [] := by
      cases h : spiOk n t
      · rfl
      · rw [spiQ_eq (spiOk_pos h)]
    show Calls Try.prog _ us w fun e w' => ∃ γ' x, e = .returned x ∧ EC γ' (shE (bc (spiOk n t) (2 * n) 0) (bc (spiOk n t) (spiL n (tws n t)) []) (bc (spiOk n t) 0 7)) x ∧ HR γ' (Bs.ofG w γ) (mkT []) 0 w'
    rw [e]
    exact (MSpi.ends n t).calls ctS_ok (by kernel_rfl) hax hN hfz
  · cases hs
end Go.Proofs.Ytojbgacoolanlaa.Ev
namespace Go.Proofs.Ytojbgacoolanlaa.Ev
open Go.Proofs
theorem spPWin_ok : ZCtOk Try.prog 13 spWin := fun γ w us ax r hs hc hax hN hfz => by
  unfold spWin at hs
  split at hs
  · obtain ⟨rfl⟩ := Option.some.inj hs
    exact (EndZ.done (MWin.in_t 0)).calls ctP_ok (by kernel_rfl) hax hN hfz
  · cases hs
theorem join3 (a b c : List UInt8) : Lib.join [a, b, c] [] = a ++ b ++ c := by
  rw [Lib.join_cons]; simp [Lib.joinTail]
theorem picW_eq (n : Int) : zjoin [zrep bL n.toNat, bP, zrep bL n.toNat] (ByteArray.mk #[]) = picW n := by
  apply ba_ext
  unfold zjoin picW
  rw [lets_zrep, ByteArray.data_append, ByteArray.data_append, Array.toList_append, Array.toList_append]
  show (Lib.join [_, _, _] []) = _
  rw [join3]
theorem MPic.ends (n : Int) : EndZ 20 ctP false (st0 20 [iv n]) (shE (picP n) (picL n) (picE n)) [] 0 := by
  have h := MPic.in_t n
  unfold picP picL picE
  by_cases h1 : n < 1
  · simp only [dt h1, bc_t] at h ⊢; exact (EndZ.done h).weak (shN_weak 7)
  by_cases h2 : 7 < n
  · simp only [df h1, dt h2, bc_t, bc_f] at h ⊢; exact (EndZ.done h).weak (shN_weak 7)
  · have e1 : (ByteArray.mk #[76]).size = 1 := rfl
    have hz : (zrep bL n.toNat).data.toList.length ≤ 7 := by
      rw [← lets_zrep]
      have := lets_size bL n
      have e : (lets bL n).size = (lets bL n).data.toList.length := by rw [Array.length_toList]; rfl
      rw [← e, this, show bL.size = 1 from rfl]; omega
    have hj : (Lib.join [(zrep bL n.toNat).data.toList, [80], (zrep bL n.toNat).data.toList] []).length ≤ 65536 := by
      rw [join3]; simp only [List.length_append, List.length_cons, List.length_nil]; omega
    have hb : Nat.ble (Lib.join [(zrep bL n.toNat).data.toList, [80], (zrep bL n.toNat).data.toList] []).length 65536 = true := ble_of hj
    rw [df h1, bc_f, df h2, bc_f, dt (show 0 ≤ n by omega), bc_t, dt (show n ≤ 65536 by omega), bc_t, e1, show Nat.ble 1 65536 = true from rfl, bc_t, bc_t] at h
    have h' := h.trans (show _ = bc (bc (Nat.ble (Lib.join [(zrep bL n.toNat).data.toList, [80], (zrep bL n.toNat).data.toList] []).length 65536) true false) (ZF.done (shE 2 [wk (zjoin [zrep bL n.toNat, bP, zrep bL n.toNat] (ByteArray.mk #[])) 0] 0) [] 0) .bad from rfl)
    rw [hb, bc_t, bc_t, picW_eq] at h'
    simp only [df h1, df h2, bc_f]
    exact .done h'
theorem spPPic_ok : ZCtOk Try.prog 20 spPic := fun γ w us ax r hs hc hax hN hfz => by
  unfold spPic at hs
  split at hs
  · rename_i n
    obtain ⟨rfl⟩ := Option.some.inj hs
    exact (MPic.ends n).calls ctP_ok (by kernel_rfl) hax hN hfz
  · cases hs
end Go.Proofs.Ytojbgacoolanlaa.Ev
namespace Go.Proofs.Ytojbgacoolanlaa.Ev
open Go.Proofs
namespace MRev
noncomputable def R (s : ES) : ZF := RMs 1 52 ctP [(atS 0 52 1, [[(0,none),(2,none),(3,none)]])] [] [] s

noncomputable def sR (m : Nat) (l : List Int) (i j : Int) : NS := ⟨[⟨52, 28, [(0, EV.slO 0 1 m true), (2, iv i), (3, iv j)], [.it (.code (nav [1, 0, 0, 0] (bodyOf Try.f52))), .it (.code (nav [1, 0, 0, 1] (bodyOf Try.f52))), .it (.inLoop (nav [1, 0, 0] (bodyOf Try.f52))), .it (.inBlock 0)], [], Option.none⟩], [(0, (EK.seq 3 (SyC.ints IntKind.i64 (l)) true))], 1⟩
theorem in_t (l : List Int) : R (st0m 52 [.slO 0 1 l.length true] [(0, .seq 3 (.ints .i64 l) true)] 1) = (.at (sR (List.length l) (l) (0) (IntKind.wrap IntKind.i64 (Int.ofNat (List.length l) - 1)))) := by kernel_rfl
theorem st_t (m : Nat) (l : List Int) (i j : Int) : R (stOf (sR m l i j)) = (bc (Decidable.decide (i < j))
  (bc (bc (bc (bc (bc (Decidable.decide (0 ≤ j)) (Nat.blt (Int.toNat j) m) Bool.false) Bool.true Bool.false) (bc (bc (Nat.blt (Int.toNat j) (List.length l)) Bool.true Bool.false) (bc (bc (bc (Decidable.decide (0 ≤ i)) (Nat.blt (Int.toNat i) m) Bool.false) Bool.true Bool.false) (bc (bc (Nat.blt (Int.toNat i) (List.length l)) Bool.true Bool.false) (bc (bc (bc (Decidable.decide (0 ≤ i)) (Nat.blt (Int.toNat i) m) Bool.false) Bool.true Bool.false) (bc (Nat.blt (Int.toNat i) (List.length l)) (bc (bc (bc (Decidable.decide (0 ≤ j)) (Nat.blt (Int.toNat j) m) Bool.false) Bool.true Bool.false) (bc (Nat.blt (Int.toNat j) (List.length (List.set l (Int.toNat i) (List.getD l (Int.toNat j) 0)))) Bool.true Bool.false) Bool.false) Bool.false) Bool.false) Bool.false) Bool.false) Bool.false) Bool.false) Bool.true Bool.false)
    (.at (sR (m) (List.set (List.set l (Int.toNat i) (List.getD l (Int.toNat j) 0)) (Int.toNat j) (List.getD l (Int.toNat i) 0)) (IntKind.wrap IntKind.i64 (i + 1)) (IntKind.wrap IntKind.i64 (j - 1))))
    .bad)
  (.done (EV.tup []) [(0, (EK.seq 3 (SyC.ints IntKind.i64 (l)) true))] 1)) := by kernel_rfl
theorem step {m : Nat} {l : List Int} {i j : Nat} (hi : i < j) (hj : j < m) (hm : m ≤ 60000) (hl : l.length = m) : R (stOf (sR m l i j)) = .at (sR m ((l.set i (l.getD j 0)).set j (l.getD i 0)) (i + 1 : Nat) ((j : Int) - 1)) := by
  rw [st_t]
  simp (disch := omega) only [Nat.add_eq, eqSy_self, eqN_self, bc_same, List.length_cons, ofn, wrap_in, dt, df, bltD, bltN, ble_of, bleN, beqD, bc_t, bc_f, nn_ok, Nat.zero_add, to_nat, Int.zero_add, Int.sub_zero, Int.sub_self, Int.cast_ofNat_Int, Int.natCast_zero, Int.toNat_zero, List.take_zero, List.nil_append, List.length_append, List.length_nil, List.length_set]
  rfl
theorem last {m : Nat} {l : List Int} {i : Nat} {j : Int} (hi : j ≤ (i : Int)) : R (stOf (sR m l i j)) = .done (.tup []) [(0, .seq 3 (.ints .i64 l) true)] 1 := by
  rw [st_t]
  simp (disch := omega) only [Nat.add_eq, eqSy_self, eqN_self, bc_same, List.length_cons, ofn, wrap_in, dt, df, bltD, bltN, ble_of, bleN, beqD, bc_t, bc_f, nn_ok, Nat.zero_add, to_nat, Int.zero_add, Int.sub_zero, Int.sub_self, Int.cast_ofNat_Int, Int.natCast_zero, Int.toNat_zero, List.take_zero, List.nil_append, List.length_append, List.length_nil]
theorem rev_of {l l0 : List Int} (h0 : l.length = l0.length) (h : ∀ x, x < l0.length → l.getD x 0 = l0.getD (l0.length - 1 - x) 0) : l = l0.reverse := by
  apply List.ext_getElem
  · simp [h0]
  · intro x h1 h2
    have := h x (by omega)
    rw [getD_at h1, getD_at (by omega)] at this
    rw [List.getElem_reverse, this]
theorem getD_set (l : List Int) (i x : Nat) (v : Int) : (l.set i v).getD x 0 = if x = i ∧ i < l.length then v else l.getD x 0 := by
  rw [List.getD_eq_getElem?_getD, List.getD_eq_getElem?_getD, List.getElem?_set]
  by_cases h : i = x
  · subst h
    by_cases h2 : i < l.length
    · simp [h2]
    · simp [h2]
  · rw [if_neg h, if_neg (by omega)]
theorem loop {l0 : List Int} (hl : l0.length ≤ 60000) : ∀ (k i : Nat) (l : List Int), l0.length ≤ 2 * i + k → l.length = l0.length → (∀ x, x < l0.length → l.getD x 0 = if x < i ∨ l0.length < x + i + 1 then l0.getD (l0.length - 1 - x) 0 else l0.getD x 0) → EndM 1 52 ctP (stOf (sR l0.length l i ((l0.length : Int) - 1 - i))) (.tup []) [(0, .seq 3 (.ints .i64 l0.reverse) true)] 1
  | k, i, l, h, h0, hx => by
    by_cases hd : l0.length ≤ 2 * i + 1
    · have : l = l0.reverse := rev_of h0 fun x hxl => by
        rw [hx x hxl]
        split
        · rfl
        · rw [show l0.length - 1 - x = x by omega]
      rw [← this]
      exact .done (last (by omega))
    · match k, h with
      | 0, h => omega
      | k + 1, h =>
        obtain ⟨j, hj⟩ : ∃ j : Nat, l0.length = j + 1 + i := ⟨l0.length - 1 - i, by omega⟩
        have e : (l0.length : Int) - 1 - i = (j : Int) := by omega
        rw [e]
        have hs := step (m := l0.length) (l := l) (i := i) (j := j) (by omega) (by omega) hl h0
        refine .at ctP_ok hs ?_
        have := loop hl k (i + 1) ((l.set i (l.getD j 0)).set j (l.getD i 0)) (by omega) (by simp [h0]) fun x hxl => by
          rw [getD_set, getD_set, List.length_set, h0]
          by_cases e1 : x = j
          · subst e1
            rw [if_pos ⟨rfl, hxl⟩, if_pos (by omega), hx i (by omega), if_neg (by omega), show l0.length - 1 - x = i by omega]
          · rw [if_neg (by omega)]
            by_cases e2 : x = i
            · subst e2
              rw [if_pos ⟨rfl, hxl⟩, if_pos (by omega), hx j (by omega), if_neg (by omega), show l0.length - 1 - x = j by omega]
            · rw [if_neg (by omega), hx x hxl]
              by_cases e3 : x < i ∨ l0.length < x + i + 1
              · rw [if_pos e3, if_pos (by omega)]
              · rw [if_neg e3, if_neg (by omega)]
        rw [show (l0.length : Int) - 1 - ((i + 1 : Nat) : Int) = (j : Int) - 1 by omega] at this
        exact this
theorem ends (l : List Int) (hl : l.length ≤ 60000) : EndM 1 52 ctP (st0m 52 [.slO 0 1 l.length true] [(0, .seq 3 (.ints .i64 l) true)] 1) (.tup []) [(0, .seq 3 (.ints .i64 l.reverse) true)] 1 := by
  have h := in_t l
  simp (disch := omega) only [Nat.add_eq, eqSy_self, eqN_self, bc_same, List.length_cons, ofn, wrap_in, dt, df, bltD, bltN, ble_of, bleN, beqD, bc_t, bc_f, nn_ok, Nat.zero_add, to_nat, Int.zero_add, Int.sub_zero, Int.sub_self, Int.cast_ofNat_Int, Int.natCast_zero, Int.toNat_zero, List.take_zero, List.nil_append, List.length_append, List.length_nil] at h
  refine .at ctP_ok h ?_
  have := loop hl l.length 0 l (by omega) rfl fun x hx => by rw [if_neg (by omega)]
  rwa [show (l.length : Int) - 1 - ((0 : Nat) : Int) = (l.length : Int) - 1 by omega] at this
end MRev
end Go.Proofs.Ytojbgacoolanlaa.Ev
namespace Go.Proofs.Ytojbgacoolanlaa.Ev
open Go.Proofs
noncomputable def spRev : ZMT := fun ax K0 m => match ax, K0 with
  | [.slO 0 1 v_0 v_1], [(0, .seq 3 (.ints .i64 l) v_2)] => bc (Nat.beq m (1)) (some ⟨bc (Nat.beq v_0 (l.length)) (bc (eqN v_1 (true)) (bc (eqN v_2 (true)) (decide (l.length ≤ 60000)) false) false) false, .tup [], [(0, .seq 3 (.ints .i64 l.reverse) true)], 1, 1⟩) none
  | _, _ => none
theorem spRev_ok : ZMtOk Try.prog 52 spRev := fun γ w0 w us ax K0 m r hs hc hres hax hH => by
  unfold spRev at hs
  split at hs
  case h_2 => cases hs
  rename_i v_0 v_1 l v_2
  obtain ⟨hm, rfl⟩ := noN hs
  have hm := Nat.eq_of_beq_eq_true hm
  subst hm
  have hc_0 : bc (Nat.beq v_0 (l.length)) (bc (eqN v_1 (true)) (bc (eqN v_2 (true)) (decide (l.length ≤ 60000)) false) false) false = true := hc
  obtain ⟨q_0, hc_1⟩ := bcT hc_0
  have p_0 := (Nat.eq_of_beq_eq_true q_0).symm
  subst p_0
  obtain ⟨q_1, hc_2⟩ := bcT hc_1
  have p_1 := (eqN_ok q_1).symm
  subst p_1
  obtain ⟨q_2, hc_3⟩ := bcT hc_2
  have p_2 := (eqN_ok q_2).symm
  subst p_2
  have hc := of_decide_eq_true hc_3
  exact EndM.calls (MRev.ends l hc) ctP_ok (by kernel_rfl) hres hax hH
namespace MClo
noncomputable def R (s : ES) : ZF := RMs 1 51 ctP [] [] [] s
theorem in_t (l : List Int) : R (st0m 51 [.slO 0 1 l.length true] [(0, .seq 3 (.ints .i64 l) true)] 1) = (bc (bc (Nat.beq (List.length l) (List.length l)) (bc (Nat.ble (0 + List.length l) 65536) Bool.true Bool.false) Bool.false)
  (.done (EV.slO 1 1 (List.length ([] ++ l)) (Bool.true)) [(0, (EK.seq 3 (SyC.ints IntKind.i64 (l)) true)), (1, (EK.seq 3 (SyC.ints IntKind.i64 ([] ++ l)) (Bool.true)))] 2)
  .bad) := by kernel_rfl
theorem ends (l : List Int) (hl : l.length ≤ 60000) : EndM 1 51 ctP (st0m 51 [.slO 0 1 l.length true] [(0, .seq 3 (.ints .i64 l) true)] 1) (.slO 1 1 l.length true) [(0, .seq 3 (.ints .i64 l) true), (1, .seq 3 (.ints .i64 l) true)] 2 := by
  have h := in_t l
  simp (disch := omega) only [Nat.add_eq, eqSy_self, eqN_self, bc_same, List.length_cons, ofn, wrap_in, dt, df, bltD, bltN, ble_of, bleN, beqD, bc_t, bc_f, nn_ok, Nat.zero_add, to_nat, Int.zero_add, Int.sub_zero, Int.sub_self, Int.cast_ofNat_Int, Int.natCast_zero, Int.toNat_zero, List.take_zero, List.nil_append, List.length_append, List.length_nil] at h
  exact .done h
end MClo
noncomputable def spClo : ZMT := fun ax K0 m => match ax, K0 with
  | [.slO 0 1 v_0 v_1], [(0, .seq 3 (.ints .i64 l) v_2)] => bc (Nat.beq m (1)) (some ⟨bc (Nat.beq v_0 (l.length)) (bc (eqN v_1 (true)) (bc (eqN v_2 (true)) (decide (l.length ≤ 60000)) false) false) false, .slO 1 1 l.length true, [(0, .seq 3 (.ints .i64 l) true), (1, .seq 3 (.ints .i64 l) true)], 2, 1⟩) none
  | _, _ => none
theorem spClo_ok : ZMtOk Try.prog 51 spClo := fun γ w0 w us ax K0 m r hs hc hres hax hH => by
  unfold spClo at hs
  split at hs
  case h_2 => cases hs
  rename_i v_0 v_1 l v_2
  obtain ⟨hm, rfl⟩ := noN hs
  have hm := Nat.eq_of_beq_eq_true hm
  subst hm
  have hc_0 : bc (Nat.beq v_0 (l.length)) (bc (eqN v_1 (true)) (bc (eqN v_2 (true)) (decide (l.length ≤ 60000)) false) false) false = true := hc
  obtain ⟨q_0, hc_1⟩ := bcT hc_0
  have p_0 := (Nat.eq_of_beq_eq_true q_0).symm
  subst p_0
  obtain ⟨q_1, hc_2⟩ := bcT hc_1
  have p_1 := (eqN_ok q_1).symm
  subst p_1
  obtain ⟨q_2, hc_3⟩ := bcT hc_2
  have p_2 := (eqN_ok q_2).symm
  subst p_2
  have hc := of_decide_eq_true hc_3
  exact EndM.calls (MClo.ends l hc) ctP_ok (by kernel_rfl) hres hax hH
noncomputable def ctT : Tr ZCC := (ctW.put 52 (some (mC spRev))).put 51 (some (mC spClo))
theorem ctT_ok : ZCtsOk Try.prog ctT := (ctW_ok.addM rfl spRev_ok).addM rfl spClo_ok
noncomputable def thereQ (w : ByteArray) (l : List Int) : List (List U) := l.map (wk bCTC) ++ [wk w (l.getD (l.length - 1) 0)] ++ l.reverse.map (wk bCTC)
theorem thereQ_len (w : ByteArray) (l : List Int) : (thereQ w l).length = 2 * l.length + 1 := by unfold thereQ; simp; omega
namespace MTher
noncomputable abbrev K0 (p : Int) (l : List Int) (q : List (List U)) (nn : Bool) : List (Nat × EK) := [(0, .cells 51 (MWith.ps p 2 q.length nn) true), (1, .seq 3 (.ints .i64 l) true), (2, .seq 56 (.recs shW q) nn)]
noncomputable def R (s : ES) : ZF := RMs 2 38 ctT [] [] [] s
theorem in_t (p : Int) (l : List Int) (w : ByteArray) (q : List (List U)) (nn : Bool) : R (st0m 38 [.ptr 0 0, .slO 1 1 l.length true, sv w] (K0 p l q nn) 3) = (bc (bc (bc (Nat.beq (List.length l) (List.length l)) (bc (Nat.beq (List.length q) (List.length q)) (bc (eqN nn nn) (bc (Nat.ble (List.length l) 60000) (Nat.blt (Nat.add (List.length q) (List.length l)) 65536) Bool.false) Bool.false) Bool.false) Bool.false) Bool.true Bool.false)
  (bc (bc (bc (Decidable.decide (0 ≤ IntKind.wrap IntKind.i64 (Int.ofNat (List.length l) - 1))) (Nat.blt (Int.toNat (IntKind.wrap IntKind.i64 (Int.ofNat (List.length l) - 1))) (List.length l)) Bool.false) Bool.true Bool.false)
    (bc (bc (Nat.blt (Int.toNat (IntKind.wrap IntKind.i64 (Int.ofNat (List.length l) - 1))) (List.length l)) Bool.true Bool.false)
      (bc (bc (bc (Nat.beq (List.length (q ++ List.map (wk { data := #[67, 84, 67] }) l)) (List.length (q ++ List.map (wk { data := #[67, 84, 67] }) l))) (bc (eqN (bc nn Bool.true (Nat.blt 0 (List.length l))) (bc nn Bool.true (Nat.blt 0 (List.length l)))) (Nat.blt (Nat.add (List.length (q ++ List.map (wk { data := #[67, 84, 67] }) l)) (List.length (List.map (fun r => U.int (List.headD r (U.i 0))) [[U.i (List.getD l (Int.toNat (IntKind.wrap IntKind.i64 (Int.ofNat (List.length l) - 1))) 0)]]))) 65536) Bool.false) Bool.false) Bool.true Bool.false)
        (bc (bc (bc (Nat.beq (List.length l) (List.length l)) (Decidable.decide (List.length l ≤ 60000)) Bool.false) Bool.true Bool.false)
          (bc (bc (bc (Nat.beq (List.length l) (List.length l)) (Decidable.decide (List.length l ≤ 60000)) Bool.false) Bool.true Bool.false)
            (bc (bc (bc (Nat.beq (List.length l) (List.length (List.reverse l))) (bc (Nat.beq (List.length (q ++ List.map (wk { data := #[67, 84, 67] }) l ++ List.map (wk w) (List.map (fun r => U.int (List.headD r (U.i 0))) [[U.i (List.getD l (Int.toNat (IntKind.wrap IntKind.i64 (Int.ofNat (List.length l) - 1))) 0)]]))) (List.length (q ++ List.map (wk { data := #[67, 84, 67] }) l ++ List.map (wk w) (List.map (fun r => U.int (List.headD r (U.i 0))) [[U.i (List.getD l (Int.toNat (IntKind.wrap IntKind.i64 (Int.ofNat (List.length l) - 1))) 0)]])))) (bc (eqN (bc (bc nn Bool.true (Nat.blt 0 (List.length l))) Bool.true (Nat.blt 0 (List.length (List.map (fun r => U.int (List.headD r (U.i 0))) [[U.i (List.getD l (Int.toNat (IntKind.wrap IntKind.i64 (Int.ofNat (List.length l) - 1))) 0)]])))) (bc (bc nn Bool.true (Nat.blt 0 (List.length l))) Bool.true (Nat.blt 0 (List.length (List.map (fun r => U.int (List.headD r (U.i 0))) [[U.i (List.getD l (Int.toNat (IntKind.wrap IntKind.i64 (Int.ofNat (List.length l) - 1))) 0)]]))))) (bc (Nat.ble (List.length (List.reverse l)) 60000) (Nat.blt (Nat.add (List.length (q ++ List.map (wk { data := #[67, 84, 67] }) l ++ List.map (wk w) (List.map (fun r => U.int (List.headD r (U.i 0))) [[U.i (List.getD l (Int.toNat (IntKind.wrap IntKind.i64 (Int.ofNat (List.length l) - 1))) 0)]]))) (List.length (List.reverse l))) 65536) Bool.false) Bool.false) Bool.false) Bool.false) Bool.true Bool.false)
              (.done (EV.tup []) [(0, (EK.cells 51 [(EV.v (Value.int IntKind.i64 (p))), (EV.slO 2 3 (List.length (q ++ List.map (wk { data := #[67, 84, 67] }) l ++ List.map (wk w) (List.map (fun r => U.int (List.headD r (U.i 0))) [[U.i (List.getD l (Int.toNat (IntKind.wrap IntKind.i64 (Int.ofNat (List.length l) - 1))) 0)]]) ++ List.map (wk { data := #[67, 84, 67] }) (List.reverse l))) (bc (bc (bc nn Bool.true (Nat.blt 0 (List.length l))) Bool.true (Nat.blt 0 (List.length (List.map (fun r => U.int (List.headD r (U.i 0))) [[U.i (List.getD l (Int.toNat (IntKind.wrap IntKind.i64 (Int.ofNat (List.length l) - 1))) 0)]])))) Bool.true (Nat.blt 0 (List.length (List.reverse l)))))] true)), (1, (EK.seq 3 (SyC.ints IntKind.i64 (l)) true)), (2, (EK.seq 56 (SyC.recs [(Sh.int IntKind.i64), (Sh.int IntKind.i64), Sh.str] (q ++ List.map (wk { data := #[67, 84, 67] }) l ++ List.map (wk w) (List.map (fun r => U.int (List.headD r (U.i 0))) [[U.i (List.getD l (Int.toNat (IntKind.wrap IntKind.i64 (Int.ofNat (List.length l) - 1))) 0)]]) ++ List.map (wk { data := #[67, 84, 67] }) (List.reverse l))) (bc (bc (bc nn Bool.true (Nat.blt 0 (List.length l))) Bool.true (Nat.blt 0 (List.length (List.map (fun r => U.int (List.headD r (U.i 0))) [[U.i (List.getD l (Int.toNat (IntKind.wrap IntKind.i64 (Int.ofNat (List.length l) - 1))) 0)]])))) Bool.true (Nat.blt 0 (List.length (List.reverse l))))))] 3)
              .bad)
            .bad)
          .bad)
        .bad)
      .bad)
    .bad)
  .bad) := by kernel_rfl
theorem ends (p : Int) (l : List Int) (w : ByteArray) (q : List (List U)) (nn : Bool) (h1 : 1 ≤ l.length) (h2 : l.length ≤ 1000) (h3 : q.length ≤ 60000) : EndM 2 38 ctT (st0m 38 [.ptr 0 0, .slO 1 1 l.length true, sv w] (K0 p l q nn) 3) (.tup []) (K0 p l (q ++ thereQ w l) true) 3 := by
  have h := in_t p l w q nn
  have e1 : Int.toNat ((l.length : Int) - 1) = l.length - 1 := by omega
  have e2 : bc nn true true = true := by cases nn <;> rfl
  have e3 : q ++ thereQ w l = q ++ List.map (wk bCTC) l ++ List.map (wk w) (List.map (fun r => U.int (List.headD r (U.i 0))) [[U.i (List.getD l (l.length - 1) 0)]]) ++ List.map (wk bCTC) (List.reverse l) := by
    unfold thereQ
    simp [U.int]
  simp (disch := omega) only [Nat.add_eq, eqSy_self, eqN_self, bc_same, List.length_cons, ofn, wrap_in, dt, df, bltD, bltN, ble_of, bleN, beqD, bc_t, bc_f, nn_ok, Nat.zero_add, to_nat, Int.zero_add, Int.sub_zero, Int.sub_self, Int.cast_ofNat_Int, Int.natCast_zero, Int.toNat_zero, List.take_zero, List.nil_append, List.length_append, List.length_nil, List.length_map, List.length_reverse, e1, e2, List.map_cons, List.map_nil] at h
  rw [e3]
  refine .done (h.trans ?_)
  simp (disch := omega) only [K0, MWith.ps, Nat.add_eq, eqSy_self, eqN_self, bc_same, List.length_cons, ofn, wrap_in, dt, df, bltD, bltN, ble_of, bleN, beqD, bc_t, bc_f, nn_ok, Nat.zero_add, to_nat, Int.zero_add, Int.sub_zero, Int.sub_self, Int.cast_ofNat_Int, Int.natCast_zero, Int.toNat_zero, List.take_zero, List.nil_append, List.length_append, List.length_nil, List.length_map, List.length_reverse, e1, e2, List.map_cons, List.map_nil]
  rfl
end MTher
noncomputable def spTher : ZMT := fun ax K0 m => match ax, K0 with
  | [.ptr 0 0, .slO 1 1 v_0 v_1, .v (.string w)], [(0, .cells 51 [.v (.int .i64 p), .slO 2 3 v_2 nn] true), (1, .seq 3 (.ints .i64 l) v_3), (2, .seq 56 (.recs [.int .i64, .int .i64, .str] q) v_4)] => bc (Nat.beq m (3)) (some ⟨bc (Nat.beq v_0 (l.length)) (bc (eqN v_1 (true)) (bc (Nat.beq v_2 (q.length)) (bc (eqN v_3 (true)) (bc (eqN v_4 (nn)) (decide (1 ≤ l.length ∧ l.length ≤ 1000 ∧ q.length ≤ 60000)) false) false) false) false) false, .tup [], MTher.K0 p l (q ++ thereQ w l) true, 3, 2⟩) none
  | _, _ => none
theorem spTher_ok : ZMtOk Try.prog 38 spTher := fun γ w0 w us ax K0 m r hs hc hres hax hH => by
  unfold spTher at hs
  split at hs
  case h_2 => cases hs
  rename_i v_0 v_1 w p v_2 nn l v_3 q v_4
  obtain ⟨hm, rfl⟩ := noN hs
  have hm := Nat.eq_of_beq_eq_true hm
  subst hm
  have hc_0 : bc (Nat.beq v_0 (l.length)) (bc (eqN v_1 (true)) (bc (Nat.beq v_2 (q.length)) (bc (eqN v_3 (true)) (bc (eqN v_4 (nn)) (decide (1 ≤ l.length ∧ l.length ≤ 1000 ∧ q.length ≤ 60000)) false) false) false) false) false = true := hc
  obtain ⟨q_0, hc_1⟩ := bcT hc_0
  have p_0 := (Nat.eq_of_beq_eq_true q_0).symm
  subst p_0
  obtain ⟨q_1, hc_2⟩ := bcT hc_1
  have p_1 := (eqN_ok q_1).symm
  subst p_1
  obtain ⟨q_2, hc_3⟩ := bcT hc_2
  have p_2 := (Nat.eq_of_beq_eq_true q_2).symm
  subst p_2
  obtain ⟨q_3, hc_4⟩ := bcT hc_3
  have p_3 := (eqN_ok q_3).symm
  subst p_3
  obtain ⟨q_4, hc_5⟩ := bcT hc_4
  have p_4 := (eqN_ok q_4).symm
  subst p_4
  have hc := of_decide_eq_true hc_5
  exact EndM.calls (MTher.ends p l w q nn hc.1 hc.2.1 hc.2.2) ctT_ok (by kernel_rfl) hres hax hH
end Go.Proofs.Ytojbgacoolanlaa.Ev
