/- BraidsGroup returns true, for all arguments, in every world in which it is called, and nothing that was there turns. -/
import Derived.ProofKit
import Derived.ReadAgain
import Derived.OpenShut
import Derived.Test.YtooimphimnagaaaRows
import Derived.WalkKit
import Derived.Test.YtooimphimnagaaaBGr5
set_option linter.unusedSimpArgs false
set_option linter.unusedVariables false
namespace Go.Proofs.Ytooimphimnagaaa.Ev
variable {n : Nat}
def Shp (S : List (Pm n)) (x : Nat × List (Pm n)) : Prop := ∃ r, S = List.replicate x.1 (Pm.del n) ++ (x.2 ++ List.replicate r (Pm.one n)) ∧ (∀ p, p ∈ x.2 → p ≠ Pm.one n) ∧ ∀ p, p ∈ x.2 → p ≠ Pm.del n
theorem shp_ex {S : List (Pm n)} (h : Nrm S) : ∃ x, Shp S x := by
  obtain ⟨m, F, r, h1, h2, h3⟩ := nrm_shape h; exact ⟨(m, F), r, h1, h2, h3⟩
open Classical in
noncomputable def shp (S : List (Pm n)) : Nat × List (Pm n) := if h : ∃ x, Shp S x then Classical.choose h else (0, [])
theorem shp_ok {S : List (Pm n)} (h : Nrm S) : Shp S (shp S) := by
  have h1 := shp_ex h; unfold shp; rw [dif_pos h1]; exact Classical.choose_spec h1
noncomputable def tmD (F : List (Pm n)) (p : Pm n) : Nat := (shp (NF (F ++ [p]))).1
noncomputable def tmF (F : List (Pm n)) (p : Pm n) : List (Pm n) := (shp (NF (F ++ [p]))).2
theorem tm_ok (F : List (Pm n)) (p : Pm n) : ∃ r, NF (F ++ [p]) = List.replicate (tmD F p) (Pm.del n) ++ (tmF F p ++ List.replicate r (Pm.one n)) ∧ (∀ q, q ∈ tmF F p → q ≠ Pm.one n) ∧ ∀ q, q ∈ tmF F p → q ≠ Pm.del n := shp_ok (NF_nrm _)
theorem tm_len (F : List (Pm n)) (p : Pm n) : tmD F p + (tmF F p).length ≤ F.length + 1 := by
  obtain ⟨r, h, _⟩ := tm_ok F p; have h1 := congrArg List.length h; rw [NF_len, List.length_append, List.length_append, List.length_append, List.length_replicate, List.length_replicate] at h1; simp at h1; omega

structure Frm (n : Nat) where
  pw : Int
  F : List (Pm n)
noncomputable instance (s t : Frm n) : Decidable (s = t) := Classical.propDecidable _
noncomputable def Frm.tim (s : Frm n) (p : Pm n) : Frm n := ⟨s.pw + tmD s.F p, tmF s.F p⟩
noncomputable def Frm.step (s : Frm n) (i : Int) : Frm n :=
  if h : 0 < i.natAbs ∧ i.natAbs < n then (if 0 < i then s.tim (ltr i.natAbs h) else (⟨s.pw - 1, s.F.map Pm.trn⟩ : Frm n).tim (ctr i.natAbs h)) else s

noncomputable def nfW (n : Nat) (w : List Int) : Frm n := w.foldl Frm.step ⟨0, []⟩

noncomputable def rowW (n : Nat) (w : List Int) : Int × List (Pm n) := w.foldl stepW (0, [])
def FRep (s : Frm n) (t : Int × List (Pm n)) : Prop := ∃ m, Rep t.2 m s.F ∧ s.pw = t.1 + m
theorem FRep.tim {s : Frm n} {t : Int × List (Pm n)} (h : FRep s t) (p : Pm n) : FRep (s.tim p) (t.1, t.2 ++ [p]) := by
  obtain ⟨m, h1, h2⟩ := h; obtain ⟨r, g1, g2, g3⟩ := tm_ok s.F p; exact ⟨m + tmD s.F p, h1.more p g1 g2 g3, by show s.pw + (tmD s.F p : Int) = t.1 + ((m + tmD s.F p : Nat) : Int); omega⟩
theorem FRep.trn {s : Frm n} {t : Int × List (Pm n)} (h : FRep s t) : FRep ⟨s.pw - 1, s.F.map Pm.trn⟩ (t.1 - 1, t.2.map Pm.trn) := by
  obtain ⟨m, h1, h2⟩ := h; exact ⟨m, h1.trn, by show s.pw - 1 = t.1 - 1 + m; omega⟩
theorem FRep.step {s : Frm n} {t : Int × List (Pm n)} (h : FRep s t) (i : Int) : FRep (s.step i) (stepW t i) := by
  unfold Frm.step stepW; split
  · split
    · exact h.tim _
    · exact h.trn.tim _
  · exact h
theorem FRep.word {s : Frm n} {t : Int × List (Pm n)} (h : FRep s t) (w : List Int) : FRep (w.foldl Frm.step s) (w.foldl stepW t) := by
  induction w generalizing s t with
  | nil => exact h
  | cons i w ih => exact ih (h.step i)
theorem nfW_rep (n : Nat) (w : List Int) : FRep (nfW n w) (rowW n w) := FRep.word ⟨0, Rep.nil, rfl⟩ w
theorem Frm.ext {s t : Frm n} (h1 : s.pw = t.pw) (h2 : s.F = t.F) : s = t := by cases s; cases t; congr

theorem frm_E (hn : 2 ≤ n) {s s' : Frm n} {t t' : Int × List (Pm n)} (h : FRep s t) (h' : FRep s' t') : E t t' ↔ s = s' := by
  obtain ⟨m, h1, h2⟩ := h; obtain ⟨m', h3, h4⟩ := h'; constructor
  · rintro ⟨q, q', F, k1, k2, k3⟩
    obtain ⟨e1, e2⟩ := rep_uni hn h1 k1; obtain ⟨e3, e4⟩ := rep_uni hn h3 k2; subst e1; subst e3; exact Frm.ext (by omega) (by rw [e2, e4])
  · intro e; subst e; exact ⟨m, m', s.F, h1, h3, by omega⟩
theorem tim_len (s : Frm n) (p : Pm n) : (s.tim p).F.length ≤ s.F.length + 1 := by
  have := tm_len s.F p; show (tmF s.F p).length ≤ _; omega
theorem tim_pw (s : Frm n) (p : Pm n) : s.pw ≤ (s.tim p).pw ∧ (s.tim p).pw ≤ s.pw + s.F.length + 1 := by
  have := tm_len s.F p; show s.pw ≤ s.pw + (tmD s.F p : Int) ∧ s.pw + (tmD s.F p : Int) ≤ _; omega
theorem step_len (s : Frm n) (i : Int) : (s.step i).F.length ≤ s.F.length + 1 ∧ s.pw - 1 ≤ (s.step i).pw ∧ (s.step i).pw ≤ s.pw + s.F.length + 1 := by
  unfold Frm.step; split
  · split
    · have h1 := tim_len s (ltr i.natAbs (by assumption)); have h2 := tim_pw s (ltr i.natAbs (by assumption)); omega
    · have h1 := tim_len (⟨s.pw - 1, s.F.map Pm.trn⟩ : Frm n) (ctr i.natAbs (by assumption)); have h2 := tim_pw (⟨s.pw - 1, s.F.map Pm.trn⟩ : Frm n) (ctr i.natAbs (by assumption)); simp only [List.length_map] at h1 h2; omega
  · omega
theorem tim_nrm (s : Frm n) (p : Pm n) : Nrm (s.tim p).F := by
  obtain ⟨r, h, _⟩ := tm_ok s.F p; have h1 := NF_nrm (s.F ++ [p]); rw [h] at h1; exact nrm_pre (nrm_suf h1)
theorem tim_sum (s : Frm n) (p : Pm n) : (s.tim p).pw + ((s.tim p).F.length : Int) ≤ s.pw + (s.F.length : Int) + 1 := by
  have := tm_len s.F p; show s.pw + (tmD s.F p : Int) + ((tmF s.F p).length : Int) ≤ _; omega

def Vld (n : Nat) (w : List Int) : Prop := ∀ x, x ∈ w → x ≠ 0 ∧ -(n : Int) < x ∧ x < n
theorem step_pos (s : Frm n) {k : Nat} (hk : 0 < k ∧ k < n) : s.step (k : Int) = s.tim (ltr k hk) := by
  unfold Frm.step; have e : ((k : Int)).natAbs = k := rfl; rw [dif_pos (show 0 < ((k : Int)).natAbs ∧ ((k : Int)).natAbs < n from hk), if_pos (by omega)]; rfl
theorem step_neg (s : Frm n) {k : Nat} (hk : 0 < k ∧ k < n) : s.step (-(k : Int)) = (⟨s.pw - 1, s.F.map Pm.trn⟩ : Frm n).tim (ctr k hk) := by
  unfold Frm.step; have e : (-(k : Int)).natAbs = k := by omega
  simp only [e]; rw [dif_pos hk, if_neg (by omega)]
end Go.Proofs.Ytooimphimnagaaa.Ev
namespace Go.Proofs.Ytooimphimnagaaa.Ev
open Go.Proofs
namespace PTim
variable {n : Nat}
theorem step1 {pw : Int} {A B : List (Pm n)} {a b : Pm n} {len : Nat} {k : Int} {tk : Bool} {i : Nat} (hn : n ≤ 12) (hi : 0 < i ∧ i < n) (hb : b.beg i) (hf : ¬ a.fin i) : RT (stOf (sB n pw (encF (A ++ b :: B)) (pA a.inv) len k A.length tk i)) = .at (sB n pw (encF (A ++ b.L i hi :: B)) (pA (a.R i hi).inv) len k A.length true (1 : Nat)) := by
  obtain ⟨j, rfl⟩ : ∃ j, i = j + 1 := ⟨i - 1, by omega⟩; rw [b_t]; have w : IntKind.i64.wrap (((j + 1 : Nat) : Int) - 1) = (j : Int) := by rw [wrap_in _ (by omega) (by omega)]; omega
  have e1 : ((j : Int)).toNat = j := rfl; have e2 : (((j + 1 : Nat) : Int)).toNat = j + 1 := rfl; rw [w, e1, e2]; have i1 : Nat.add (Nat.mul A.length 12) (Nat.add 0 (Nat.mul j 1)) = A.length * 12 + j := by show A.length * 12 + (0 + j * 1) = _; omega
  have i2 : Nat.add (Nat.mul A.length 12) (Nat.add 0 (Nat.mul (j + 1) 1)) = A.length * 12 + (j + 1) := by show A.length * 12 + (0 + (j + 1) * 1) = _; omega
  rw [i1, i2, encF_get A B b (show j < 12 by omega), encF_get A B b (show j + 1 < 12 by omega), pA_get a.inv (show j < 12 by omega), pA_get a.inv (show j + 1 < 12 by omega)]; have l1 := pA_L b hi hn; have l2 := pA_L a.inv hi hn; rw [show j + 1 - 1 = j by omega] at l1 l2; rw [encF_set2 A B b (b.L (j + 1) hi) j (j + 1) _ _ (by omega) (by omega) l1, l2, ← inv_R a hi]; have f1 : (b.f (j + 1) : Int) < (b.f j : Int) := by
    unfold Pm.beg at hb; rw [show j + 1 - 1 = j by omega] at hb; omega
  have f2 : (a.inv.f j : Int) < (a.inv.f (j + 1) : Int) := by
    have := (Pm.nfin hi.1).1 hf; rw [show j + 1 - 1 = j by omega] at this; show (a.g j : Int) < (a.g (j + 1) : Int); omega
  have hlen : (encF (A ++ b :: B)).length = A.length * 12 + 12 + B.length * 12 := by rw [encF_len, List.length_append, List.length_cons]; omega
  have z1 : (Int.ofNat 0 + 1 : Int) = ((1 : Nat) : Int) := rfl; rw [List.length_set, List.length_set, hlen, pA_len]; simp (disch := omega) only [Nat.add_eq, eqSy_self, eqN_self, bc_same, List.length_cons, ofn, wrap_in, dt, df, bltD, bltN, ble_of, bleN, beqD, bc_t, bc_f, nn_ok, Nat.zero_add, to_nat, Int.zero_add, Int.sub_zero, Int.sub_self, Int.cast_ofNat_Int, Int.natCast_zero, Int.toNat_zero, List.take_zero, List.nil_append, List.length_append, List.length_nil, eqB]
theorem step2 {pw : Int} {A B : List (Pm n)} {a b : Pm n} {len : Nat} {k : Int} {tk : Bool} {i : Nat} (hn : n ≤ 12) (hi : 0 < i ∧ i < n) (h : ¬ (b.beg i ∧ ¬ a.fin i)) : RT (stOf (sB n pw (encF (A ++ b :: B)) (pA a.inv) len k A.length tk i)) = .at (sB n pw (encF (A ++ b :: B)) (pA a.inv) len k A.length tk (i + 1 : Nat)) := by
  obtain ⟨j, rfl⟩ : ∃ j, i = j + 1 := ⟨i - 1, by omega⟩; rw [b_t]; have w : IntKind.i64.wrap (((j + 1 : Nat) : Int) - 1) = (j : Int) := by rw [wrap_in _ (by omega) (by omega)]; omega
  have e1 : ((j : Int)).toNat = j := rfl; have e2 : (((j + 1 : Nat) : Int)).toNat = j + 1 := rfl; rw [w, e1, e2]; have i1 : Nat.add (Nat.mul A.length 12) (Nat.add 0 (Nat.mul j 1)) = A.length * 12 + j := by show A.length * 12 + (0 + j * 1) = _; omega
  have i2 : Nat.add (Nat.mul A.length 12) (Nat.add 0 (Nat.mul (j + 1) 1)) = A.length * 12 + (j + 1) := by show A.length * 12 + (0 + (j + 1) * 1) = _; omega
  rw [i1, i2, encF_get A B b (show j < 12 by omega), encF_get A B b (show j + 1 < 12 by omega), pA_get a.inv (show j < 12 by omega), pA_get a.inv (show j + 1 < 12 by omega)]; have hlen : (encF (A ++ b :: B)).length = A.length * 12 + 12 + B.length * 12 := by rw [encF_len, List.length_append, List.length_cons]; omega
  rw [List.length_set, List.length_set, hlen, pA_len]
  by_cases hb : b.beg (j + 1)
  · have hf : a.fin (j + 1) := Classical.byContradiction fun hf => h ⟨hb, hf⟩; have f1 : (b.f (j + 1) : Int) < (b.f j : Int) := by
      unfold Pm.beg at hb; rw [show j + 1 - 1 = j by omega] at hb; omega
    have f2 : ¬ (a.inv.f j : Int) < (a.inv.f (j + 1) : Int) := by
      unfold Pm.fin at hf; rw [show j + 1 - 1 = j by omega] at hf; show ¬ (a.g j : Int) < (a.g (j + 1) : Int); omega
    simp (disch := omega) only [Nat.add_eq, eqSy_self, eqN_self, bc_same, List.length_cons, ofn, wrap_in, dt, df, bltD, bltN, ble_of, bleN, beqD, bc_t, bc_f, nn_ok, Nat.zero_add, to_nat, Int.zero_add, Int.sub_zero, Int.sub_self, Int.cast_ofNat_Int, Int.natCast_zero, Int.toNat_zero, List.take_zero, List.nil_append, List.length_append, List.length_nil, eqB]; rfl
  · have f1 : ¬ (b.f (j + 1) : Int) < (b.f j : Int) := by
      unfold Pm.beg at hb; rw [show j + 1 - 1 = j by omega] at hb; omega
    simp (disch := omega) only [Nat.add_eq, eqSy_self, eqN_self, bc_same, List.length_cons, ofn, wrap_in, dt, df, bltD, bltN, ble_of, bleN, beqD, bc_t, bc_f, nn_ok, Nat.zero_add, to_nat, Int.zero_add, Int.sub_zero, Int.sub_self, Int.cast_ofNat_Int, Int.natCast_zero, Int.toNat_zero, List.take_zero, List.nil_append, List.length_append, List.length_nil, eqB]; rfl

theorem loopB {pw : Int} {A B : List (Pm n)} {len : Nat} {k : Int} (hn : n ≤ 12) : ∀ (μ : Nat) (a b : Pm n) (i : Nat) (tk : Bool), a.W * (n + 1) + (n - i) ≤ μ → 1 ≤ i → i ≤ n → (∀ j, 0 < j → j < i → ¬ (b.beg j ∧ ¬ a.fin j)) →
    ∃ a' b' tk', Mvs [a, b] [a', b'] ∧ Lw a' b' ∧ (tk' = false → tk = false ∧ a' = a ∧ b' = b) ∧ (tk' = true → tk = true ∨ a'.W < a.W) ∧ LeadsM Try.prog 1 (stOf (sB n pw (encF (A ++ b :: B)) (pA a.inv) len k A.length tk i)) (stOf (sB n pw (encF (A ++ b' :: B)) (pA a'.inv) len k A.length tk' n))
  | μ, a, b, i, tk, hμ, h1, h2, hj => by
    by_cases hi : i = n
    · subst hi; exact ⟨a, b, tk, .refl _, fun j g1 g2 hb => Classical.byContradiction fun hf => hj j g1 g2 ⟨hb, hf⟩, fun h => ⟨h, rfl, rfl⟩, fun h => .inl h, LeadsM.refl _ _⟩
    · have hin : 0 < i ∧ i < n := ⟨h1, by omega⟩
      by_cases hs : b.beg i ∧ ¬ a.fin i
      · obtain ⟨hb, hf⟩ := hs; have hW := a.W_R hin hf
        match μ with
        | 0 => omega
        | μ + 1 =>
          have hm : (a.R i hin).W * (n + 1) + (n + 1) ≤ a.W * (n + 1) := by rw [← Nat.succ_mul]; exact Nat.mul_le_mul_right _ hW
          obtain ⟨a', b', tk', g1, g2, g3, g4, g5⟩ := loopB (pw := pw) (A := A) (B := B) (len := len) (k := k) hn μ (a.R i hin) (b.L i hin) 1 true (by omega) (Nat.le_refl _) (by omega) (fun j q1 q2 => by omega); refine ⟨a', b', tk', .step (.here a b [] i hin hb hf) g1, g2, fun h => absurd (g3 h).1 (by decide), fun h => .inr ?_, (leadsMZ ct_ok (step1 hn hin hb hf)).trans g5⟩; have hle : a'.W ≤ (a.R i hin).W := by
            rcases Bool.eq_false_or_eq_true tk' with e | e
            · have hmv : ∀ {s t : List (Pm n)}, Mvs s t → ∀ {x y x' y' : Pm n}, s = [x, y] → t = [x', y'] → x'.W ≤ x.W := by
                intro s t h
                induction h with
                | refl s => intro x y x' y' e1 e2; rw [e1] at e2; injection e2 with e2; rw [e2]; exact Nat.le_refl _
                | step h1 h2 ih =>
                  intro x y x' y' e1 e2; subst e1
                  cases h1 with
                  | here _ _ _ q hq hb2 hf2 =>
                    have := ih rfl e2; have := x.W_R hq hf2; omega
                  | there _ h3 => cases h3 with
                    | there _ h4 => cases h4
              exact hmv g1 rfl rfl
            · exact absurd (g3 e).1 (by decide)
          omega
      · match μ with
        | 0 => omega
        | μ + 1 =>
          obtain ⟨a', b', tk', g1, g2, g3, g4, g5⟩ := loopB (pw := pw) (A := A) (B := B) (len := len) (k := k) hn μ a b (i + 1) tk (by omega) (by omega) (by omega) (fun j q1 q2 => by
            by_cases e : j = i
            · rw [e]; exact hs
            · exact hj j q1 (by omega))
          exact ⟨a', b', tk', g1, g2, g3, g4, (leadsMZ ct_ok (step2 hn hin hs)).trans g5⟩

theorem pair {pw : Int} {A B : List (Pm n)} {a b : Pm n} {len : Nat} {k : Int} (hn1 : 1 ≤ n) (hn : n ≤ 12) :
    (nf1 a b = a ∧ LeadsM Try.prog 1 (stOf (sB n pw (encF (A ++ b :: B)) (pA a.inv) len k A.length false (1 : Nat))) (stOf (sB n pw (encF (A ++ b :: B)) (pA a.inv) len k A.length false n))) ∨
    (nf1 a b ≠ a ∧ LeadsM Try.prog 1 (stOf (sB n pw (encF (A ++ b :: B)) (pA a.inv) len k A.length false (1 : Nat))) (stOf (sB n pw (encF (A ++ nf2 a b :: B)) (pA (nf1 a b).inv) len k A.length true n))) := by
  obtain ⟨a', b', tk', g1, g2, g3, g4, g5⟩ := loopB (pw := pw) (A := A) (B := B) (len := len) (k := k) hn _ a b 1 false (Nat.le_refl _) (Nat.le_refl _) hn1 (fun j q1 q2 => by omega); have hN : NF [a, b] = [a', b'] := NF_of g1 (nrm_cons.2 ⟨g2, nrm_single _⟩); have e1 : nf1 a b = a' := by unfold nf1; rw [hN]; rfl
  have e2 : nf2 a b = b' := by unfold nf2; rw [hN]; rfl
  cases tk' with
  | false =>
    obtain ⟨_, h1, h2⟩ := g3 rfl; subst h1; subst h2; exact .inl ⟨e1, g5⟩
  | true =>
    rcases g4 rfl with h | h
    · cases h
    · right; rw [e1, e2]; exact ⟨fun e => by rw [e] at h; omega, g5⟩
theorem lastB0 {pw : Int} {L q : List Int} {len : Nat} {k : Int} {m : Nat} (hn : n ≤ 12) : RT (stOf (sB n pw L q len k m false n)) = .at (sC n pw L (pA (Pm.del n)) len) := by
  rw [b_t, df (show ¬ (n : Int) < n by omega), bc_f]; have e1 : ((n : Int)).toNat = n := rfl; rw [e1, dt (show 0 ≤ (n : Int) ∧ (n : Int) ≤ 12 from ⟨by omega, by omega⟩)]
  rfl
theorem lastB1 {pw : Int} {A B : List (Pm n)} {x a' : Pm n} {len : Nat} {m : Nat} (hn : n ≤ 12) (hl : len = A.length + 1 + B.length) (hz : len ≤ 6000) : RT (stOf (sB n pw (encF (A ++ x :: B)) (pA a'.inv) len (A.length + 1 : Nat) m true n)) = .at (sA n pw (encF (A ++ a' :: B)) len A.length) := by
  rw [b_t, df (show ¬ (n : Int) < n by omega), bc_f]; have w : IntKind.i64.wrap (((A.length + 1 : Nat) : Int) - 1) = (A.length : Int) := by rw [wrap_in _ (by omega) (by omega)]; omega
  have e1 : ((A.length : Int)).toNat = A.length := rfl; rw [w, e1, dt (In12.pA hn a'.inv), invS_pA hn a'.inv, pA_len]; have e2 : Nat.add (Nat.mul A.length 12) 0 = A.length * 12 := rfl; have e3 : Nat.add (A.length * 12) 12 = (A ++ [x]).length * 12 := by rw [List.length_append, List.length_singleton]; show A.length * 12 + 12 = _; omega
  rw [e2, e3, List.drop_zero, encF_take]; have hB : encF (A ++ x :: B) = encF ((A ++ [x]) ++ B) := by rw [List.append_assoc]; rfl
  rw [hB, encF_drop, List.take_of_length_le (by rw [encF_len, encF_len, List.length_append]; omega)]; have hd : (pA a'.inv.inv : List Int) = pA a' := pA_same fun _ _ => rfl; have e8 : encF A ++ pA a' ++ encF B = encF (A ++ a' :: B) := by rw [encF_app, encF_cons, List.append_assoc]
  rw [hd, e8]; have hlen : (encF ((A ++ [x]) ++ B)).length = A.length * 12 + 12 + B.length * 12 := by rw [encF_len, List.length_append, List.length_append, List.length_singleton]; omega
  rw [hlen, List.length_append, List.length_singleton]; simp (disch := omega) only [Nat.add_eq, eqSy_self, eqN_self, bc_same, List.length_cons, ofn, wrap_in, dt, df, bltD, bltN, ble_of, bleN, beqD, bc_t, bc_f, nn_ok, Nat.zero_add, to_nat, Int.zero_add, Int.sub_zero, Int.sub_self, Int.cast_ofNat_Int, Int.natCast_zero, Int.toNat_zero, List.take_zero, List.nil_append, List.length_append, List.length_nil]; rfl
theorem stepA {pw : Int} {A B : List (Pm n)} {a b : Pm n} {len : Nat} (hn : n ≤ 12) (hl : len = A.length + 2 + B.length) (hz : len ≤ 6000) : RT (stOf (sA n pw (encF (A ++ a :: b :: B)) len (A.length + 1 : Nat))) = .at (sB n pw (encF ((A ++ [a]) ++ b :: B)) (pA a.inv) len (A.length + 1 : Nat) (A ++ [a]).length false (1 : Nat)) := by
  rw [a_t]; have w : IntKind.i64.wrap (((A.length + 1 : Nat) : Int) - 1) = (A.length : Int) := by rw [wrap_in _ (by omega) (by omega)]; omega
  have e1 : ((A.length : Int)).toNat = A.length := rfl; have e2 : (((A.length + 1 : Nat) : Int)).toNat = A.length + 1 := rfl; have e3 : (A ++ [a]).length = A.length + 1 := by rw [List.length_append]; rfl
  rw [w, e1, e2, e3, encF_win, invS_pA hn, pA_len]; have hlen : (encF (A ++ a :: b :: B)).length = A.length * 12 + 24 + B.length * 12 := by rw [encF_len, List.length_append, List.length_cons, List.length_cons]; omega
  have hin : A.length * 12 + 12 ≤ (encF (A ++ a :: b :: B)).length ∧ In12 (pA a) := ⟨by omega, In12.pA hn a⟩; rw [dt hin]; have e6 : (zerosL 12).length = 12 := rfl; have e7 : encF ((A ++ [a]) ++ b :: B) = encF (A ++ a :: b :: B) := by rw [List.append_assoc]; rfl
  rw [e6, e7]; simp (disch := omega) only [Nat.add_eq, eqSy_self, eqN_self, bc_same, List.length_cons, ofn, wrap_in, dt, df, bltD, bltN, ble_of, bleN, beqD, bc_t, bc_f, nn_ok, Nat.zero_add, to_nat, Int.zero_add, Int.sub_zero, Int.sub_self, Int.cast_ofNat_Int, Int.natCast_zero, Int.toNat_zero, List.take_zero, List.nil_append, List.length_append, List.length_nil]
theorem lastA {pw : Int} {L : List Int} {len : Nat} (hn : n ≤ 12) : RT (stOf (sA n pw L len (0 : Nat))) = .at (sC n pw L (pA (Pm.del n)) len) := by
  rw [a_t, df (show ¬ (0 : Int) < ((0 : Nat) : Int) by omega), bc_f]; have e1 : ((n : Int)).toNat = n := rfl; rw [e1, dt (show 0 ≤ (n : Int) ∧ (n : Int) ≤ 12 from ⟨by omega, by omega⟩)]
  rfl

theorem loopA {pw : Int} {len : Nat} (hn1 : 1 ≤ n) (hn : n ≤ 12) (hz : len ≤ 6000) : ∀ (r : List (Pm n)) (p : Pm n) (D : List (Pm n)), len = r.length + 1 + D.length → LeadsM Try.prog 1 (stOf (sA n pw (encF (r.reverse ++ p :: D)) len r.length)) (stOf (sC n pw (encF ((pasR r p).reverse ++ D)) (pA (Pm.del n)) len))
  | [], p, D, h => leadsMZ ct_ok (lastA hn)
  | x :: r, p, D, h => by
    rw [List.length_cons] at h; have hA : r.reverse.length = r.length := List.length_reverse; have h1 := stepA (pw := pw) (A := r.reverse) (B := D) (a := x) (b := p) (len := len) hn (by omega) hz; have e1 : (x :: r).reverse ++ p :: D = r.reverse ++ x :: p :: D := by rw [List.reverse_cons, List.append_assoc]; rfl
    rw [e1]; rw [hA] at h1; refine LeadsM.trans (leadsMZ ct_ok h1) ?_; rcases pair (pw := pw) (A := r.reverse ++ [x]) (B := D) (a := x) (b := p) (len := len) (k := (r.length + 1 : Nat)) hn1 hn with ⟨g1, g2⟩ | ⟨g1, g2⟩
    · refine g2.trans ?_; unfold pasR; rw [if_pos g1]; have e2 : (p :: x :: r).reverse ++ D = (r.reverse ++ [x]) ++ p :: D := by rw [List.reverse_cons, List.reverse_cons, List.append_assoc]; rfl
      rw [e2]; exact leadsMZ ct_ok (lastB0 hn)
    · refine g2.trans ?_; unfold pasR; rw [if_neg g1]; have h2 := lastB1 (pw := pw) (A := r.reverse) (B := nf2 x p :: D) (x := x) (a' := nf1 x p) (len := len) (m := (r.reverse ++ [x]).length) hn (by rw [List.length_cons]; omega) hz; rw [hA] at h2; have e3 : r.reverse ++ x :: nf2 x p :: D = (r.reverse ++ [x]) ++ nf2 x p :: D := by rw [List.append_assoc]; rfl
      rw [e3] at h2; have e4 : (nf2 x p :: pasR r (nf1 x p)).reverse ++ D = (pasR r (nf1 x p)).reverse ++ nf2 x p :: D := by rw [List.reverse_cons, List.append_assoc]; rfl
      rw [e4]; exact (leadsMZ ct_ok h2).trans (loopA hn1 hn hz r (nf1 x p) (nf2 x p :: D) (by rw [List.length_cons]; omega))
theorem ofPA (p : Pm n) (hn : n ≤ 12) : eqLI (pA p) e12 = true ↔ p = Pm.one n := by
  rw [eqLI_iff, e12_one n]; exact ⟨fun h => pA_inj hn h, fun h => by rw [h]⟩
theorem stepC1 {pw : Int} {F : List (Pm n)} {D : List Int} (hn : n ≤ 12) (hz : F.length ≤ 6000) : RT (stOf (sC n pw (encF (F ++ [Pm.one n])) D (F.length + 1))) = .at (sC n pw (encF F) D F.length) := by
  rw [c_t]; have w : IntKind.i64.wrap (Int.ofNat (F.length + 1) - 1) = (F.length : Int) := by
    rw [ofn, wrap_in _ (by omega) (by omega)]; omega
  have e1 : ((F.length : Int)).toNat = F.length := rfl; have e2 : Nat.add (Nat.mul F.length 12) 0 = F.length * 12 := rfl; rw [w, e1, e2, encF_win F [], encF_take, (ofPA (Pm.one n) hn).2 rfl, pA_len]; have hlen : (encF (F ++ [Pm.one n])).length = F.length * 12 + 12 := by rw [encF_len, List.length_append, List.length_singleton]; omega
  have e3 : ([0, 1, 2, 3, 4, 5, 6, 7, 8, 9, 10, 11] : List Int).length = 12 := rfl; have m12 : Nat.mul (F.length + 1) 12 = F.length * 12 + 12 := by show (F.length + 1) * 12 = _; omega
  rw [hlen, e3, m12]; simp (disch := omega) only [Nat.add_eq, eqSy_self, eqN_self, bc_same, List.length_cons, ofn, wrap_in, dt, df, bltD, bltN, ble_of, bleN, beqD, bc_t, bc_f, nn_ok, Nat.zero_add, to_nat, Int.zero_add, Int.sub_zero, Int.sub_self, Int.cast_ofNat_Int, Int.natCast_zero, Int.toNat_zero, List.take_zero, List.nil_append, List.length_append, List.length_nil, eqB]
theorem stepC2 {pw : Int} {F : List (Pm n)} {D : List Int} {p : Pm n} (hn : n ≤ 12) (hz : F.length ≤ 6000) (hp : p ≠ Pm.one n) : RT (stOf (sC n pw (encF (F ++ [p])) D (F.length + 1))) = .at (sD n pw (encF (F ++ [p])) D (F.length + 1)) := by
  rw [c_t]; have w : IntKind.i64.wrap (Int.ofNat (F.length + 1) - 1) = (F.length : Int) := by
    rw [ofn, wrap_in _ (by omega) (by omega)]; omega
  have e1 : ((F.length : Int)).toNat = F.length := rfl; have e2 : Nat.add (Nat.mul F.length 12) 0 = F.length * 12 := rfl; have hb : eqLI (pA p) e12 = false := by
    cases h : eqLI (pA p) e12 with
    | false => rfl
    | true => exact absurd ((ofPA p hn).1 h) hp
  rw [w, e1, e2, encF_win F [], hb, pA_len]; have hlen : (encF (F ++ [p])).length = F.length * 12 + 12 := by rw [encF_len, List.length_append, List.length_singleton]; omega
  have e3 : ([0, 1, 2, 3, 4, 5, 6, 7, 8, 9, 10, 11] : List Int).length = 12 := rfl; rw [hlen, e3]; simp (disch := omega) only [Nat.add_eq, eqSy_self, eqN_self, bc_same, List.length_cons, ofn, wrap_in, dt, df, bltD, bltN, ble_of, bleN, beqD, bc_t, bc_f, nn_ok, Nat.zero_add, to_nat, Int.zero_add, Int.sub_zero, Int.sub_self, Int.cast_ofNat_Int, Int.natCast_zero, Int.toNat_zero, List.take_zero, List.nil_append, List.length_append, List.length_nil, eqB]
theorem stepC0 {pw : Int} {D : List Int} : RT (stOf (sC n pw [] D 0)) = .at (sD n pw [] D 0) := by
  rw [c_t]; rfl
theorem loopC {pw : Int} {D : List Int} {T : List (Pm n)} (hn : n ≤ 12) (hT : T = [] ∨ ∃ F p, T = F ++ [p] ∧ p ≠ Pm.one n) : ∀ r : Nat, T.length + r ≤ 6000 → LeadsM Try.prog 1 (stOf (sC n pw (encF (T ++ List.replicate r (Pm.one n))) D (T.length + r))) (stOf (sD n pw (encF T) D T.length))
  | 0, hr => by
    rw [List.replicate_zero, List.append_nil]; rcases hT with rfl | ⟨F, p, rfl, hp⟩
    · exact leadsMZ ct_ok stepC0
    · rw [List.length_append, List.length_singleton] at hr ⊢; exact leadsMZ ct_ok (stepC2 hn (by omega) hp)
  | r + 1, hr => by
    rw [List.replicate_succ', ← List.append_assoc]; have h := stepC1 (pw := pw) (F := T ++ List.replicate r (Pm.one n)) (D := D) hn (by rw [List.length_append, List.length_replicate]; omega); rw [List.length_append, List.length_replicate] at h; exact (leadsMZ ct_ok h).trans (loopC hn hT r (by omega))
theorem stepD1 {pw : Int} {F : List (Pm n)} (hz : F.length ≤ 6000) (h1 : -100000 ≤ pw) (h2 : pw ≤ 100000) : RT (stOf (sD n pw (encF (Pm.del n :: F)) (pA (Pm.del n)) (F.length + 1))) = .at (sD n (pw + 1) (encF F) (pA (Pm.del n)) F.length) := by
  rw [d_t]; have e2 : Nat.add (Nat.mul (Int.toNat 0) 12) 0 = ([] : List (Pm n)).length * 12 := rfl; have e3 : Int.toNat 1 * 12 = [Pm.del n].length * 12 := rfl; have e4 : encF (Pm.del n :: F) = encF ([] ++ Pm.del n :: F) := rfl; have e5 : encF (Pm.del n :: F) = encF ([Pm.del n] ++ F) := rfl; have hlen : (encF (Pm.del n :: F)).length = F.length * 12 + 12 := by rw [encF_len, List.length_cons]; omega
  have d1 : (encF (Pm.del n :: F)).drop ([Pm.del n].length * 12) = encF F := by rw [e5]; exact encF_drop _ _
  have t1 : ((encF (Pm.del n :: F)).drop (([] : List (Pm n)).length * 12)).take 12 = pA (Pm.del n) := by rw [e4]; exact encF_win _ _ _
  rw [e2, e3, d1, t1, pA_len, hlen, eqLI_iff.2 rfl]; have e6 : Int.toNat 1 = 1 := rfl; have e7 : Int.toNat 0 = 0 := rfl; have e8 : ([] : List (Pm n)).length * 12 = 0 := rfl; have m12 : Nat.mul (F.length + 1) 12 = F.length * 12 + 12 := by show (F.length + 1) * 12 = _; omega
  rw [e6, e7, e8, Nat.add_sub_cancel, m12]; simp (disch := omega) only [Nat.add_eq, eqSy_self, eqN_self, bc_same, List.length_cons, ofn, wrap_in, dt, df, bltD, bltN, ble_of, bleN, beqD, bc_t, bc_f, nn_ok, Nat.zero_add, to_nat, Int.zero_add, Int.sub_zero, Int.sub_self, Int.cast_ofNat_Int, Int.natCast_zero, Int.toNat_zero, List.take_zero, List.nil_append, List.length_append, List.length_nil, eqB]
noncomputable def K1 (n : Nat) (pw : Int) (F : List (Pm n)) : List (Nat × EK) := PDel.K0 n pw (encF F) F.length true
theorem stepD2 {pw : Int} {F : List (Pm n)} (hn : n ≤ 12) (hz : F.length ≤ 6000) (hF : ∀ p, p ∈ F → p ≠ Pm.del n) : RT (stOf (sD n pw (encF F) (pA (Pm.del n)) F.length)) = .done (.tup []) (K1 n pw F) 2 := by
  rw [d_t]
  cases F with
  | nil => rfl
  | cons p F =>
    have e2 : Nat.add (Nat.mul (Int.toNat 0) 12) 0 = ([] : List (Pm n)).length * 12 := rfl; have t1 : ((encF (p :: F)).drop (([] : List (Pm n)).length * 12)).take 12 = pA p := encF_win [] F p; have hlen : (encF (p :: F)).length = F.length * 12 + 12 := by rw [encF_len, List.length_cons]; omega
    have hb : eqLI (pA p) (pA (Pm.del n)) = false := by
      cases h : eqLI (pA p) (pA (Pm.del n)) with
      | false => rfl
      | true => exact absurd (pA_inj hn (eqLI_iff.1 h)) (hF p List.mem_cons_self)
    rw [e2, t1, pA_len, pA_len, hlen, hb]; have e7 : Int.toNat 0 = 0 := rfl; have e8 : ([] : List (Pm n)).length * 12 = 0 := rfl; rw [List.length_cons] at hz; rw [e7, e8, List.length_cons]; simp (disch := omega) only [Nat.add_eq, eqSy_self, eqN_self, bc_same, List.length_cons, ofn, wrap_in, dt, df, bltD, bltN, ble_of, bleN, beqD, bc_t, bc_f, nn_ok, Nat.zero_add, to_nat, Int.zero_add, Int.sub_zero, Int.sub_self, Int.cast_ofNat_Int, Int.natCast_zero, Int.toNat_zero, List.take_zero, List.nil_append, List.length_append, List.length_nil, eqB]; rfl
theorem loopD {F : List (Pm n)} (hn : n ≤ 12) (hF : ∀ p, p ∈ F → p ≠ Pm.del n) : ∀ (m : Nat) (pw : Int), F.length + m ≤ 6000 → -90000 ≤ pw → pw + m ≤ 90000 → EndM 1 126 ct (stOf (sD n pw (encF (List.replicate m (Pm.del n) ++ F)) (pA (Pm.del n)) (m + F.length))) (.tup []) (K1 n (pw + m) F) 2
  | 0, pw, h, h1, h2 => by
    rw [List.replicate_zero, List.nil_append, Nat.zero_add, show pw + ((0 : Nat) : Int) = pw by omega]; exact .done (stepD2 hn (by omega) hF)
  | m + 1, pw, h, h1, h2 => by
    have h3 := stepD1 (pw := pw) (F := List.replicate m (Pm.del n) ++ F) (by rw [List.length_append, List.length_replicate]; omega) (by omega) (by omega); rw [List.length_append, List.length_replicate, show m + F.length + 1 = m + 1 + F.length by omega] at h3; rw [List.replicate_succ, List.cons_append]; have h4 := loopD hn hF m (pw + 1) (by omega) (by omega) (by omega); rw [show pw + 1 + (m : Int) = pw + ((m + 1 : Nat) : Int) by omega] at h4; exact .at ct_ok h3 h4
theorem ends {pw : Int} {F : List (Pm n)} {p : Pm n} {nn : Bool} (hn2 : 2 ≤ n) (hn : n ≤ 12) (hN : Nrm F) (hz : F.length ≤ 5000) (hnn : nn = true ∨ F = []) (h1 : -60000 ≤ pw) (h2 : pw ≤ 60000) : EndM 1 126 ct (st0m 126 [.ptr 0 0, .arr (.ints .u8 (pA p))] (PDel.K0 n pw (encF F) F.length nn) 2) (.tup []) (K1 n (pw + tmD F p) (tmF F p)) 2 := by
  have h := in_t n pw (encF F) (pA p) F.length nn; have e1 : encF F ++ pA p = encF (F ++ [p]) := by rw [encF_app, encF_one]
  rw [e1, pA_len, encF_len, nn_ok] at h; have w : IntKind.i64.wrap (Int.ofNat (F.length + 1) - 1) = (F.length : Int) := by rw [ofn, wrap_in _ (by omega) (by omega)]; omega
  have m1 : Nat.mul F.length 12 = F.length * 12 := rfl; have m2 : Nat.mul 1 12 = 12 := rfl; rw [w, m1, m2] at h; simp (disch := omega) only [Nat.add_eq, eqSy_self, eqN_self, bc_same, List.length_cons, ofn, wrap_in, dt, df, bltD, bltN, ble_of, bleN, beqD, bc_t, bc_f, nn_ok, Nat.zero_add, to_nat, Int.zero_add, Int.sub_zero, Int.sub_self, Int.cast_ofNat_Int, Int.natCast_zero, Int.toNat_zero, List.take_zero, List.nil_append, List.length_append, List.length_nil] at h; obtain ⟨r, g1, g2, g3⟩ := tm_ok F p; have hl := congrArg List.length g1
  rw [NF_len, List.length_append, List.length_append, List.length_append, List.length_replicate, List.length_replicate, List.length_singleton] at hl; have hP := loopA (pw := pw) (len := F.length + 1) (by omega) hn (by omega) F.reverse p [] (by rw [List.length_reverse]; rfl); rw [List.reverse_reverse, List.length_reverse, List.append_nil, ← pasR_NF hN p, g1, ← List.append_assoc] at hP; refine .at ct_ok h (.lead hP ?_); have hT : (List.replicate (tmD F p) (Pm.del n) ++ tmF F p = []) ∨ ∃ G q, List.replicate (tmD F p) (Pm.del n) ++ tmF F p = G ++ [q] ∧ q ≠ Pm.one n := by
    rcases List.eq_nil_or_concat (tmF F p) with e | ⟨G, q, e⟩
    · rw [e, List.append_nil]
      cases hd : tmD F p with
      | zero => exact .inl rfl
      | succ k => exact .inr ⟨_, _, List.replicate_succ', del_ne hn2⟩
    · exact .inr ⟨List.replicate (tmD F p) (Pm.del n) ++ G, q, by rw [e, List.concat_eq_append, List.append_assoc], g2 q (by rw [e]; simp)⟩
  have hC := loopC (pw := pw) (D := pA (Pm.del n)) hn hT r (by rw [List.length_append, List.length_replicate]; omega); have e2 : (List.replicate (tmD F p) (Pm.del n) ++ tmF F p).length = tmD F p + (tmF F p).length := by rw [List.length_append, List.length_replicate]
  rw [e2, show tmD F p + (tmF F p).length + r = F.length + 1 by omega] at hC; exact .lead hC (loopD hn g3 (tmD F p) pw (by omega) (by omega) (by omega))
end PTim

def TimOk (n pw : Int) (L : List Int) (len : Nat) (nn : Bool) (e : List Int) : Prop := 2 ≤ n ∧ n ≤ 12 ∧ -60000 ≤ pw ∧ pw ≤ 60000 ∧ ∃ (F : List (Pm n.toNat)) (p : Pm n.toNat), L = encF F ∧ e = pA p ∧ len = F.length ∧ len ≤ 5000 ∧ Nrm F ∧ (nn = true ∨ F = [])
noncomputable instance (n pw : Int) (L : List Int) (len : Nat) (nn : Bool) (e : List Int) : Decidable (TimOk n pw L len nn e) := Classical.propDecidable _
noncomputable def timD (n : Int) (L e : List Int) : Nat := tmD (decF n.toNat L) (decP n.toNat e)
noncomputable def timF (n : Int) (L e : List Int) : List (Pm n.toNat) := tmF (decF n.toNat L) (decP n.toNat e)
theorem timOk_ends {n pw : Int} {L e : List Int} {len : Nat} {nn : Bool} (h : TimOk n pw L len nn e) : EndM 1 126 PTim.ct (st0m 126 [.ptr 0 0, .arr (.ints .u8 e)] (PDel.K0 n pw L len nn) 2) (.tup []) (PDel.K0 n (pw + timD n L e) (encF (timF n L e)) (timF n L e).length true) 2 := by
  obtain ⟨h1, h2, h3, h4, F, p, rfl, rfl, rfl, h5, h6, h7⟩ := h; obtain ⟨n, rfl⟩ := Int.eq_ofNat_of_zero_le (show 0 ≤ n by omega); have hn : n ≤ 12 := by omega
  have e1 : decF ((n : Int)).toNat (encF F) = F := decF_enc hn F; have e2 : decP ((n : Int)).toNat (pA p) = p := decP_enc hn p; unfold timD timF; rw [e1, e2]; exact PTim.ends (n := n) (by omega) hn h6 h5 h7 h3 h4
noncomputable def spTim : ZMT := fun ax K0 m => match ax, K0 with
  | [.ptr 0 0, .arr (.ints .u8 e)], [(0, .cells 89 [.v (.int .i64 n), .v (.int .i64 pw), .slO 1 12 len nn] v_0), (1, .seq 92 (.ints .u8 L) v_1)] => bc (Nat.beq m (2)) (some ⟨bc (eqN v_0 (true)) (bc (eqN v_1 (nn)) (decide (TimOk n pw L len nn e)) false) false, .tup [], PDel.K0 n (pw + timD n L e) (encF (timF n L e)) (timF n L e).length true, 2, 1⟩) none
  | _, _ => none
theorem spTim_ok : ZMtOk Try.prog 126 spTim := fun γ w0 w us ax K0 m r hs hc hres hax hH => by
  unfold spTim at hs; split at hs
  case h_2 => cases hs
  rename_i e n pw len nn v_0 L v_1; obtain ⟨hm, rfl⟩ := noN hs; have hm := Nat.eq_of_beq_eq_true hm; subst hm; have hc_0 : bc (eqN v_0 (true)) (bc (eqN v_1 (nn)) (decide (TimOk n pw L len nn e)) false) false = true := hc; obtain ⟨q_0, hc_1⟩ := bcT hc_0; have p_0 := (eqN_ok q_0).symm; subst p_0; obtain ⟨q_1, hc_2⟩ := bcT hc_1; have p_1 := (eqN_ok q_1).symm; subst p_1; have hc := of_decide_eq_true hc_2; exact EndM.calls (timOk_ends hc) PTim.ct_ok (by kernel_rfl) hres hax hH
end Go.Proofs.Ytooimphimnagaaa.Ev
namespace Go.Proofs.Ytooimphimnagaaa.Ev
open Go.Proofs
namespace PNrm
noncomputable def ct : Tr ZCC := (PTim.ct.put 125 (some (mC spTrn))).put 126 (some (mC spTim))
theorem ct_ok : ZCtsOk Try.prog ct := (PTim.ct_ok.addM rfl spTrn_ok).addM rfl spTim_ok
noncomputable def RN (s : ES) : ZF := RMs 0 84 ct [(atS 0 84 3, [[(5,some (12, 92, .ints .u8 [])),(15,none),(16,none),(17,none)]])] [] [] s

noncomputable def sN (n : Int) (w : List Int) (pw : Int) (L : List Int) (len : Nat) (nn : Bool) (z i : Int) : NS := ⟨[⟨84, 58, [(5, (EV.ptr 0 0)), (15, (EV.lst (SyC.ints IntKind.i64 (w)))), (16, iv z), (17, iv i)], [.it (.code (nav [1, 1, 0, 1, 0, 0] (bodyOf Try.f84))), .it (.inLoop (nav [1, 1, 0, 1, 0, 0] (bodyOf Try.f84))), .it (.inBlock 0), .it (.code (nav [1, 1, 1] (bodyOf Try.f84)))], [], Option.none⟩], [(0, EK.cells 89 [iv n, iv pw, .slO 1 12 len nn] true), (1, EK.seq 92 (.ints .u8 L) nn)], 2⟩
theorem in_t (n : Int) (w : List Int) : RN (st0m 84 [iv n, il w] [] 0) = (.at (sN (n) (w) ((0 : Int)) ([]) ((0 : Nat)) (false) (Int.ofNat (List.length w)) ((0 : Int)))) := by kernel_rfl
theorem nil_t (n : Int) : RMs 0 84 ct [] [] [(0, 12, 92, .ints .u8 [])] (st0m 84 [iv n, .v (.slice none 0 0)] [] 0) = (.done (EV.ptr 0 0) [(0, (EK.cells 89 [(EV.v (Value.int IntKind.i64 (n))), (EV.v (Value.int IntKind.i64 (0))), (EV.slO 1 12 0 false)] true)), (1, (EK.seq 92 (SyC.ints IntKind.u8 []) false))] 2) := by kernel_rfl
theorem step_t (n : Int) (w : List Int) (pw : Int) (L : List Int) (len : Nat) (nn : Bool) (z i : Int) : RN (stOf (sN n w pw L len nn z i)) = (bc (decide (i < z)) (bc (bc (bc (decide ((0 : Int) ≤ i)) (Nat.blt (Int.toNat i) (List.length w)) false) true false) (bc (bc (Nat.blt (Int.toNat i) (List.length w)) true false) (bc (decide (List.getD w (Int.toNat i) (0 : Int) < (0 : Int))) (bc (bc (bc (eqN nn nn) (decide (FormOk n L len)) false) true false) (bc (bc (bc (eqN nn nn) (decide ((0 : Int) ≤ n ∧ n ≤ (12 : Int))) false) true false) (bc (bc (decide (In12 (pA (Pm.del (Int.toNat n))))) true false) (bc (bc (Nat.beq (List.length (invS (pA (Pm.del (Int.toNat n))) (12 : Nat))) (12 : Nat)) (Nat.beq (List.length e12) (12 : Nat)) false) (bc (bc (bc (bc (bc (decide ((0 : Int) ≤ IntKind.wrap IntKind.i64 ((0 : Int) - List.getD w (Int.toNat i) (0 : Int)))) (Nat.blt (Int.toNat (IntKind.wrap IntKind.i64 ((0 : Int) - List.getD w (Int.toNat i) (0 : Int)))) (12 : Nat)) false) true false) (bc (bc (Nat.blt (Int.toNat (IntKind.wrap IntKind.i64 ((0 : Int) - List.getD w (Int.toNat i) (0 : Int)))) (List.length (invS (pA (Pm.del (Int.toNat n))) (12 : Nat)))) true false) (bc (bc (bc (decide ((0 : Int) ≤ IntKind.wrap IntKind.i64 (IntKind.wrap IntKind.i64 ((0 : Int) - List.getD w (Int.toNat i) (0 : Int)) - (1 : Int)))) (Nat.blt (Int.toNat (IntKind.wrap IntKind.i64 (IntKind.wrap IntKind.i64 ((0 : Int) - List.getD w (Int.toNat i) (0 : Int)) - (1 : Int)))) (12 : Nat)) false) true false) (bc (bc (Nat.blt (Int.toNat (IntKind.wrap IntKind.i64 (IntKind.wrap IntKind.i64 ((0 : Int) - List.getD w (Int.toNat i) (0 : Int)) - (1 : Int)))) (List.length (invS (pA (Pm.del (Int.toNat n))) (12 : Nat)))) true false) (bc (bc (bc (decide ((0 : Int) ≤ IntKind.wrap IntKind.i64 (IntKind.wrap IntKind.i64 ((0 : Int) - List.getD w (Int.toNat i) (0 : Int)) - (1 : Int)))) (Nat.blt (Int.toNat (IntKind.wrap IntKind.i64 (IntKind.wrap IntKind.i64 ((0 : Int) - List.getD w (Int.toNat i) (0 : Int)) - (1 : Int)))) (12 : Nat)) false) true false) (bc (Nat.blt (Int.toNat (IntKind.wrap IntKind.i64 (IntKind.wrap IntKind.i64 ((0 : Int) - List.getD w (Int.toNat i) (0 : Int)) - (1 : Int)))) (List.length (invS (pA (Pm.del (Int.toNat n))) (12 : Nat)))) (bc (bc (bc (decide ((0 : Int) ≤ IntKind.wrap IntKind.i64 ((0 : Int) - List.getD w (Int.toNat i) (0 : Int)))) (Nat.blt (Int.toNat (IntKind.wrap IntKind.i64 ((0 : Int) - List.getD w (Int.toNat i) (0 : Int)))) (12 : Nat)) false) true false) (bc (Nat.blt (Int.toNat (IntKind.wrap IntKind.i64 ((0 : Int) - List.getD w (Int.toNat i) (0 : Int)))) (List.length (List.set (invS (pA (Pm.del (Int.toNat n))) (12 : Nat)) (Int.toNat (IntKind.wrap IntKind.i64 (IntKind.wrap IntKind.i64 ((0 : Int) - List.getD w (Int.toNat i) (0 : Int)) - (1 : Int)))) (List.getD (invS (pA (Pm.del (Int.toNat n))) (12 : Nat)) (Int.toNat (IntKind.wrap IntKind.i64 ((0 : Int) - List.getD w (Int.toNat i) (0 : Int)))) (0 : Int))))) true false) false) false) false) false) false) false) false) true false) (bc (bc (decide (In12 (List.set (List.set (invS (pA (Pm.del (Int.toNat n))) (12 : Nat)) (Int.toNat (IntKind.wrap IntKind.i64 (IntKind.wrap IntKind.i64 ((0 : Int) - List.getD w (Int.toNat i) (0 : Int)) - (1 : Int)))) (List.getD (invS (pA (Pm.del (Int.toNat n))) (12 : Nat)) (Int.toNat (IntKind.wrap IntKind.i64 ((0 : Int) - List.getD w (Int.toNat i) (0 : Int)))) (0 : Int))) (Int.toNat (IntKind.wrap IntKind.i64 ((0 : Int) - List.getD w (Int.toNat i) (0 : Int)))) (List.getD (invS (pA (Pm.del (Int.toNat n))) (12 : Nat)) (Int.toNat (IntKind.wrap IntKind.i64 (IntKind.wrap IntKind.i64 ((0 : Int) - List.getD w (Int.toNat i) (0 : Int)) - (1 : Int)))) (0 : Int))))) true false) (bc (bc (bc (eqN nn nn) (decide (TimOk n (IntKind.wrap IntKind.i64 (pw - (1 : Int))) (PTrn.turL n L) len nn (invS (List.set (List.set (invS (pA (Pm.del (Int.toNat n))) (12 : Nat)) (Int.toNat (IntKind.wrap IntKind.i64 (IntKind.wrap IntKind.i64 ((0 : Int) - List.getD w (Int.toNat i) (0 : Int)) - (1 : Int)))) (List.getD (invS (pA (Pm.del (Int.toNat n))) (12 : Nat)) (Int.toNat (IntKind.wrap IntKind.i64 ((0 : Int) - List.getD w (Int.toNat i) (0 : Int)))) (0 : Int))) (Int.toNat (IntKind.wrap IntKind.i64 ((0 : Int) - List.getD w (Int.toNat i) (0 : Int)))) (List.getD (invS (pA (Pm.del (Int.toNat n))) (12 : Nat)) (Int.toNat (IntKind.wrap IntKind.i64 (IntKind.wrap IntKind.i64 ((0 : Int) - List.getD w (Int.toNat i) (0 : Int)) - (1 : Int)))) (0 : Int))) (12 : Nat)))) false) true false) (.at (sN (n) (w) (IntKind.wrap IntKind.i64 (pw - (1 : Int)) + (Nat.cast (timD n (PTrn.turL n L) (invS (List.set (List.set (invS (pA (Pm.del (Int.toNat n))) (12 : Nat)) (Int.toNat (IntKind.wrap IntKind.i64 (IntKind.wrap IntKind.i64 ((0 : Int) - List.getD w (Int.toNat i) (0 : Int)) - (1 : Int)))) (List.getD (invS (pA (Pm.del (Int.toNat n))) (12 : Nat)) (Int.toNat (IntKind.wrap IntKind.i64 ((0 : Int) - List.getD w (Int.toNat i) (0 : Int)))) (0 : Int))) (Int.toNat (IntKind.wrap IntKind.i64 ((0 : Int) - List.getD w (Int.toNat i) (0 : Int)))) (List.getD (invS (pA (Pm.del (Int.toNat n))) (12 : Nat)) (Int.toNat (IntKind.wrap IntKind.i64 (IntKind.wrap IntKind.i64 ((0 : Int) - List.getD w (Int.toNat i) (0 : Int)) - (1 : Int)))) (0 : Int))) (12 : Nat))) : Int)) (encF (timF n (PTrn.turL n L) (invS (List.set (List.set (invS (pA (Pm.del (Int.toNat n))) (12 : Nat)) (Int.toNat (IntKind.wrap IntKind.i64 (IntKind.wrap IntKind.i64 ((0 : Int) - List.getD w (Int.toNat i) (0 : Int)) - (1 : Int)))) (List.getD (invS (pA (Pm.del (Int.toNat n))) (12 : Nat)) (Int.toNat (IntKind.wrap IntKind.i64 ((0 : Int) - List.getD w (Int.toNat i) (0 : Int)))) (0 : Int))) (Int.toNat (IntKind.wrap IntKind.i64 ((0 : Int) - List.getD w (Int.toNat i) (0 : Int)))) (List.getD (invS (pA (Pm.del (Int.toNat n))) (12 : Nat)) (Int.toNat (IntKind.wrap IntKind.i64 (IntKind.wrap IntKind.i64 ((0 : Int) - List.getD w (Int.toNat i) (0 : Int)) - (1 : Int)))) (0 : Int))) (12 : Nat)))) (List.length (timF n (PTrn.turL n L) (invS (List.set (List.set (invS (pA (Pm.del (Int.toNat n))) (12 : Nat)) (Int.toNat (IntKind.wrap IntKind.i64 (IntKind.wrap IntKind.i64 ((0 : Int) - List.getD w (Int.toNat i) (0 : Int)) - (1 : Int)))) (List.getD (invS (pA (Pm.del (Int.toNat n))) (12 : Nat)) (Int.toNat (IntKind.wrap IntKind.i64 ((0 : Int) - List.getD w (Int.toNat i) (0 : Int)))) (0 : Int))) (Int.toNat (IntKind.wrap IntKind.i64 ((0 : Int) - List.getD w (Int.toNat i) (0 : Int)))) (List.getD (invS (pA (Pm.del (Int.toNat n))) (12 : Nat)) (Int.toNat (IntKind.wrap IntKind.i64 (IntKind.wrap IntKind.i64 ((0 : Int) - List.getD w (Int.toNat i) (0 : Int)) - (1 : Int)))) (0 : Int))) (12 : Nat)))) (true) (z) (IntKind.wrap IntKind.i64 (i + (1 : Int))))) .bad) .bad) .bad) .bad) .bad) .bad) .bad) (bc (bc (bc (bc (bc (decide ((0 : Int) ≤ List.getD w (Int.toNat i) (0 : Int))) (Nat.blt (Int.toNat (List.getD w (Int.toNat i) (0 : Int))) (12 : Nat)) false) true false) (bc (bc (Nat.blt (Int.toNat (List.getD w (Int.toNat i) (0 : Int))) (List.length e12)) true false) (bc (bc (bc (decide ((0 : Int) ≤ IntKind.wrap IntKind.i64 (List.getD w (Int.toNat i) (0 : Int) - (1 : Int)))) (Nat.blt (Int.toNat (IntKind.wrap IntKind.i64 (List.getD w (Int.toNat i) (0 : Int) - (1 : Int)))) (12 : Nat)) false) true false) (bc (bc (Nat.blt (Int.toNat (IntKind.wrap IntKind.i64 (List.getD w (Int.toNat i) (0 : Int) - (1 : Int)))) (List.length e12)) true false) (bc (bc (bc (decide ((0 : Int) ≤ IntKind.wrap IntKind.i64 (List.getD w (Int.toNat i) (0 : Int) - (1 : Int)))) (Nat.blt (Int.toNat (IntKind.wrap IntKind.i64 (List.getD w (Int.toNat i) (0 : Int) - (1 : Int)))) (12 : Nat)) false) true false) (bc (Nat.blt (Int.toNat (IntKind.wrap IntKind.i64 (List.getD w (Int.toNat i) (0 : Int) - (1 : Int)))) (List.length e12)) (bc (bc (bc (decide ((0 : Int) ≤ List.getD w (Int.toNat i) (0 : Int))) (Nat.blt (Int.toNat (List.getD w (Int.toNat i) (0 : Int))) (12 : Nat)) false) true false) (bc (Nat.blt (Int.toNat (List.getD w (Int.toNat i) (0 : Int))) (List.length (List.set e12 (Int.toNat (IntKind.wrap IntKind.i64 (List.getD w (Int.toNat i) (0 : Int) - (1 : Int)))) (List.getD e12 (Int.toNat (List.getD w (Int.toNat i) (0 : Int))) (0 : Int))))) true false) false) false) false) false) false) false) false) true false) (bc (bc (decide (In12 (List.set (List.set e12 (Int.toNat (IntKind.wrap IntKind.i64 (List.getD w (Int.toNat i) (0 : Int) - (1 : Int)))) (List.getD e12 (Int.toNat (List.getD w (Int.toNat i) (0 : Int))) (0 : Int))) (Int.toNat (List.getD w (Int.toNat i) (0 : Int))) (List.getD e12 (Int.toNat (IntKind.wrap IntKind.i64 (List.getD w (Int.toNat i) (0 : Int) - (1 : Int)))) (0 : Int))))) true false) (bc (bc (bc (eqN nn nn) (decide (TimOk n pw L len nn (invS (List.set (List.set e12 (Int.toNat (IntKind.wrap IntKind.i64 (List.getD w (Int.toNat i) (0 : Int) - (1 : Int)))) (List.getD e12 (Int.toNat (List.getD w (Int.toNat i) (0 : Int))) (0 : Int))) (Int.toNat (List.getD w (Int.toNat i) (0 : Int))) (List.getD e12 (Int.toNat (IntKind.wrap IntKind.i64 (List.getD w (Int.toNat i) (0 : Int) - (1 : Int)))) (0 : Int))) (12 : Nat)))) false) true false) (.at (sN (n) (w) (pw + (Nat.cast (timD n L (invS (List.set (List.set e12 (Int.toNat (IntKind.wrap IntKind.i64 (List.getD w (Int.toNat i) (0 : Int) - (1 : Int)))) (List.getD e12 (Int.toNat (List.getD w (Int.toNat i) (0 : Int))) (0 : Int))) (Int.toNat (List.getD w (Int.toNat i) (0 : Int))) (List.getD e12 (Int.toNat (IntKind.wrap IntKind.i64 (List.getD w (Int.toNat i) (0 : Int) - (1 : Int)))) (0 : Int))) (12 : Nat))) : Int)) (encF (timF n L (invS (List.set (List.set e12 (Int.toNat (IntKind.wrap IntKind.i64 (List.getD w (Int.toNat i) (0 : Int) - (1 : Int)))) (List.getD e12 (Int.toNat (List.getD w (Int.toNat i) (0 : Int))) (0 : Int))) (Int.toNat (List.getD w (Int.toNat i) (0 : Int))) (List.getD e12 (Int.toNat (IntKind.wrap IntKind.i64 (List.getD w (Int.toNat i) (0 : Int) - (1 : Int)))) (0 : Int))) (12 : Nat)))) (List.length (timF n L (invS (List.set (List.set e12 (Int.toNat (IntKind.wrap IntKind.i64 (List.getD w (Int.toNat i) (0 : Int) - (1 : Int)))) (List.getD e12 (Int.toNat (List.getD w (Int.toNat i) (0 : Int))) (0 : Int))) (Int.toNat (List.getD w (Int.toNat i) (0 : Int))) (List.getD e12 (Int.toNat (IntKind.wrap IntKind.i64 (List.getD w (Int.toNat i) (0 : Int) - (1 : Int)))) (0 : Int))) (12 : Nat)))) (true) (z) (IntKind.wrap IntKind.i64 (i + (1 : Int))))) .bad) .bad) .bad)) .bad) .bad) (.done (EV.ptr 0 0) [(0, (EK.cells 89 [(EV.v (Value.int IntKind.i64 (n))), (EV.v (Value.int IntKind.i64 (pw))), (EV.slO 1 12 (len) (nn))] true)), (1, (EK.seq 92 (SyC.ints IntKind.u8 (L)) (nn)))] 2)) := by kernel_rfl
variable {n : Nat}
theorem invL_ltr (hn : n ≤ 12) {k : Nat} (hk : 0 < k ∧ k < n) : invS (((pA (Pm.one n)).set (k - 1) ((Pm.one n).f k : Int)).set k ((Pm.one n).f (k - 1) : Int)) 12 = pA (ltr k hk) := by
  rw [pA_L _ hk hn, invS_pA hn]; exact pA_same fun _ _ => rfl
theorem invL_ctr (hn : n ≤ 12) {k : Nat} (hk : 0 < k ∧ k < n) : invS (((pA (Pm.del n).inv).set (k - 1) ((Pm.del n).inv.f k : Int)).set k ((Pm.del n).inv.f (k - 1) : Int)) 12 = pA (ctr k hk) := by
  rw [pA_L _ hk hn, invS_pA hn]; exact pA_same fun _ _ => rfl
theorem in12_L (hn : n ≤ 12) (p : Pm n) {k : Nat} (hk : 0 < k ∧ k < n) : In12 (((pA p).set (k - 1) (p.f k : Int)).set k (p.f (k - 1) : Int)) := by
  rw [pA_L _ hk hn]; exact In12.pA hn _
theorem stepP {w : List Int} {s : Frm n} {nn : Bool} {z : Int} {i k : Nat} (hn : n ≤ 12) (hk : 0 < k ∧ k < n) (hi : i < w.length) (hz : z = w.length) (hw : w.length ≤ 2000) (hx : w.getD i 0 = (k : Int)) (hN : Nrm s.F) (hl : s.F.length ≤ 2000) (h1 : -2000 ≤ s.pw) (h2 : s.pw ≤ 2000) (hnn : nn = true ∨ s.F = []) : RN (stOf (sN n w s.pw (encF s.F) s.F.length nn z i)) = .at (sN n w (s.tim (ltr k hk)).pw (encF (s.tim (ltr k hk)).F) (s.tim (ltr k hk)).F.length true z (i + 1 : Nat)) := by
  obtain ⟨j, rfl⟩ : ∃ j, k = j + 1 := ⟨k - 1, by omega⟩; rw [step_t, dt (show (i : Int) < z by omega), bc_t]; have e0 : ((i : Int)).toNat = i := rfl; rw [e0, hx, df (show ¬ ((j + 1 : Nat) : Int) < 0 by omega), bc_f]; have w1 : IntKind.i64.wrap (((j + 1 : Nat) : Int) - 1) = (j : Int) := by rw [wrap_in _ (by omega) (by omega)]; omega
  have e1 : ((j : Int)).toNat = j := rfl; have e2 : (((j + 1 : Nat) : Int)).toNat = j + 1 := rfl; rw [w1, e1, e2, e12_one n, pA_get (Pm.one n) (show j + 1 < 12 by omega), pA_get (Pm.one n) (show j < 12 by omega)]; have g1 := invL_ltr hn hk; have g2 := in12_L hn (Pm.one n) hk; rw [show j + 1 - 1 = j by omega] at g1 g2; rw [g1, dt g2, List.length_set, pA_len]; have g3 : TimOk n s.pw (encF s.F) s.F.length nn (pA (ltr (j + 1) hk)) := ⟨by omega, by omega, by omega, by omega, s.F, ltr (j + 1) hk, rfl, rfl, rfl, by omega, hN, hnn⟩
  have g4 : timD n (encF s.F) (pA (ltr (j + 1) hk)) = tmD s.F (ltr (j + 1) hk) := by
    unfold timD; have e1 : decF ((n : Int)).toNat (encF s.F) = s.F := decF_enc hn s.F; have e2 : decP ((n : Int)).toNat (pA (ltr (j + 1) hk)) = ltr (j + 1) hk := decP_enc hn _; rw [e1, e2]
  have g5 : timF n (encF s.F) (pA (ltr (j + 1) hk)) = tmF s.F (ltr (j + 1) hk) := by
    unfold timF; have e1 : decF ((n : Int)).toNat (encF s.F) = s.F := decF_enc hn s.F; have e2 : decP ((n : Int)).toNat (pA (ltr (j + 1) hk)) = ltr (j + 1) hk := decP_enc hn _; rw [e1, e2]
  rw [dt g3, g4, g5]; simp (disch := omega) only [Nat.add_eq, eqSy_self, eqN_self, bc_same, List.length_cons, ofn, wrap_in, dt, df, bltD, bltN, ble_of, bleN, beqD, bc_t, bc_f, nn_ok, Nat.zero_add, to_nat, Int.zero_add, Int.sub_zero, Int.sub_self, Int.cast_ofNat_Int, Int.natCast_zero, Int.toNat_zero, List.take_zero, List.nil_append, List.length_append, List.length_nil]; rfl
theorem stepM {w : List Int} {s : Frm n} {nn : Bool} {z : Int} {i k : Nat} (hn : n ≤ 12) (hk : 0 < k ∧ k < n) (hi : i < w.length) (hz : z = w.length) (hw : w.length ≤ 2000) (hx : w.getD i 0 = -(k : Int)) (hN : Nrm s.F) (hl : s.F.length ≤ 2000) (h1 : -2000 ≤ s.pw) (h2 : s.pw ≤ 2000) (hnn : nn = true ∨ s.F = []) : RN (stOf (sN n w s.pw (encF s.F) s.F.length nn z i)) = .at (sN n w ((⟨s.pw - 1, s.F.map Pm.trn⟩ : Frm n).tim (ctr k hk)).pw (encF ((⟨s.pw - 1, s.F.map Pm.trn⟩ : Frm n).tim (ctr k hk)).F) ((⟨s.pw - 1, s.F.map Pm.trn⟩ : Frm n).tim (ctr k hk)).F.length true z (i + 1 : Nat)) := by
  obtain ⟨j, rfl⟩ : ∃ j, k = j + 1 := ⟨k - 1, by omega⟩; rw [step_t, dt (show (i : Int) < z by omega), bc_t]; have e0 : ((i : Int)).toNat = i := rfl; rw [e0, hx, dt (show -((j + 1 : Nat) : Int) < 0 by omega), bc_t]; have w0 : IntKind.i64.wrap (0 - -((j + 1 : Nat) : Int)) = ((j + 1 : Nat) : Int) := by rw [wrap_in _ (by omega) (by omega)]; omega
  have w1 : IntKind.i64.wrap (((j + 1 : Nat) : Int) - 1) = (j : Int) := by rw [wrap_in _ (by omega) (by omega)]; omega
  have w2 : IntKind.i64.wrap (s.pw - 1) = s.pw - 1 := wrap_in _ (by omega) (by omega); have e1 : ((j : Int)).toNat = j := rfl; have e2 : (((j + 1 : Nat) : Int)).toNat = j + 1 := rfl; have e3 : invS (pA (Pm.del ((n : Int)).toNat)) 12 = pA (Pm.del n).inv := invS_pA hn (Pm.del n); rw [w0, w1, w2, e1, e2, e3, pA_get (Pm.del n).inv (show j + 1 < 12 by omega), pA_get (Pm.del n).inv (show j < 12 by omega)]; have g1 := invL_ctr hn hk; have g2 := in12_L hn (Pm.del n).inv hk; have g0 : In12 (pA (Pm.del ((n : Int)).toNat)) := In12.pA hn (Pm.del n); rw [show j + 1 - 1 = j by omega] at g1 g2
  rw [g1, dt g2, List.length_set, pA_len, dt g0]; have g6 : FormOk n (encF s.F) s.F.length := formOk hn (by omega); have g7 : PTrn.turL n (encF s.F) = encF (s.F.map Pm.trn) := by
    unfold PTrn.turL; have e1 : decF ((n : Int)).toNat (encF s.F) = s.F := decF_enc hn s.F; rw [e1]
  rw [dt g6, g7]; have g3 : TimOk n (s.pw - 1) (encF (s.F.map Pm.trn)) s.F.length nn (pA (ctr (j + 1) hk)) := ⟨by omega, by omega, by omega, by omega, s.F.map Pm.trn, ctr (j + 1) hk, rfl, rfl, (by rw [List.length_map]), by omega, hN.trn, hnn.imp id fun e => by rw [e]; rfl⟩; have g4 : timD n (encF (s.F.map Pm.trn)) (pA (ctr (j + 1) hk)) = tmD (s.F.map Pm.trn) (ctr (j + 1) hk) := by
    unfold timD; have e1 : decF ((n : Int)).toNat (encF (s.F.map Pm.trn)) = s.F.map Pm.trn := decF_enc hn _; have e2 : decP ((n : Int)).toNat (pA (ctr (j + 1) hk)) = ctr (j + 1) hk := decP_enc hn _; rw [e1, e2]
  have g5 : timF n (encF (s.F.map Pm.trn)) (pA (ctr (j + 1) hk)) = tmF (s.F.map Pm.trn) (ctr (j + 1) hk) := by
    unfold timF; have e1 : decF ((n : Int)).toNat (encF (s.F.map Pm.trn)) = s.F.map Pm.trn := decF_enc hn _; have e2 : decP ((n : Int)).toNat (pA (ctr (j + 1) hk)) = ctr (j + 1) hk := decP_enc hn _; rw [e1, e2]
  rw [dt g3, g4, g5]; have n12 : (12 : Nat) = 12 := rfl; have g8 : 0 ≤ (n : Int) ∧ (n : Int) ≤ 12 := ⟨by omega, by omega⟩; have n2 : bc nn true false = nn := bc_b nn; simp (disch := omega) only [Nat.add_eq, eqSy_self, eqN_self, bc_same, List.length_cons, ofn, wrap_in, dt, df, bltD, bltN, ble_of, bleN, beqD, bc_t, bc_f, nn_ok, Nat.zero_add, to_nat, Int.zero_add, Int.sub_zero, Int.sub_self, Int.cast_ofNat_Int, Int.natCast_zero, Int.toNat_zero, List.take_zero, List.nil_append, List.length_append, List.length_nil, n2]; rfl
theorem last {w : List Int} {s : Frm n} {nn : Bool} {z : Int} {i : Nat} (hi : z ≤ i) : RN (stOf (sN n w s.pw (encF s.F) s.F.length nn z i)) = .done (.ptr 0 0) (PDel.K0 n s.pw (encF s.F) s.F.length nn) 2 := by
  rw [step_t, df (show ¬ (i : Int) < z by omega)]; rfl
theorem loop {w : List Int} (hn : n ≤ 12) (hw : w.length ≤ 2000) (hv : Vld n w) : ∀ (k i : Nat) (s : Frm n) (nn : Bool), i + k = w.length → Nrm s.F → s.pw + (s.F.length : Int) ≤ i → -(i : Int) ≤ s.pw → s.F.length ≤ i → (nn = true ∨ s.F = []) →
    EndM 0 84 ct (stOf (sN n w s.pw (encF s.F) s.F.length nn w.length i)) (.ptr 0 0) (PDel.K0 n ((w.drop i).foldl Frm.step s).pw (encF ((w.drop i).foldl Frm.step s).F) ((w.drop i).foldl Frm.step s).F.length (bc nn true (Nat.blt 0 k))) 2
  | 0, i, s, nn, h, h1, h2, h3, h4, h5 => by
    rw [List.drop_eq_nil_of_le (by omega), show bc nn true (Nat.blt 0 0) = nn by cases nn <;> rfl]; exact .done (last (by omega))
  | k + 1, i, s, nn, h, h1, h2, h3, h4, h5 => by
    have hi : i < w.length := by omega
    rw [List.drop_eq_getElem_cons hi, List.foldl_cons, show bc nn true (Nat.blt 0 (k + 1)) = bc true true (Nat.blt 0 k) by cases nn <;> rfl]; obtain ⟨v1, v2, v3⟩ := hv _ (List.getElem_mem hi); have hg : w.getD i 0 = w[i] := getD_at hi; generalize w[i] = x at *; rcases Int.lt_or_lt_of_ne v1 with hx | hx
    · obtain ⟨q, hq⟩ := Int.eq_ofNat_of_zero_le (show 0 ≤ -x by omega); have hq : x = -(q : Int) := by omega
      subst hq; have hk : 0 < q ∧ q < n := by omega
      have hs := stepM (w := w) (s := s) (nn := nn) (z := w.length) hn hk hi rfl hw hg h1 (by omega) (by omega) (by omega) h5; rw [step_neg s hk]; have q1 := tim_sum (⟨s.pw - 1, s.F.map Pm.trn⟩ : Frm n) (ctr q hk); have q2 := tim_pw (⟨s.pw - 1, s.F.map Pm.trn⟩ : Frm n) (ctr q hk); have q3 := tim_len (⟨s.pw - 1, s.F.map Pm.trn⟩ : Frm n) (ctr q hk); simp only [List.length_map] at q1 q2 q3; exact .at ct_ok hs (loop hn hw hv k (i + 1) _ true (by omega) (tim_nrm _ _) (by omega) (by omega) (by omega) (.inl rfl))
    · obtain ⟨q, rfl⟩ := Int.eq_ofNat_of_zero_le (show 0 ≤ x by omega); have hk : 0 < q ∧ q < n := by omega
      have hs := stepP (w := w) (s := s) (nn := nn) (z := w.length) hn hk hi rfl hw hg h1 (by omega) (by omega) (by omega) h5; rw [step_pos s hk]; have q1 := tim_sum s (ltr q hk); have q2 := tim_pw s (ltr q hk); have q3 := tim_len s (ltr q hk); exact .at ct_ok hs (loop hn hw hv k (i + 1) _ true (by omega) (tim_nrm _ _) (by omega) (by omega) (by omega) (.inl rfl))
theorem ends {w : List Int} (hn : n ≤ 12) (hw : w.length ≤ 2000) (hv : Vld n w) : EndM 0 84 ct (st0m 84 [iv n, il w] [] 0) (.ptr 0 0) (PDel.K0 n (nfW n w).pw (encF (nfW n w).F) (nfW n w).F.length (Nat.blt 0 w.length)) 2 := by
  refine .at ct_ok (in_t n w) ?_; have := loop hn hw hv w.length 0 ⟨0, []⟩ false (by omega) nrm_nil (by simp) (by simp) (Nat.zero_le _) (.inr rfl); rw [List.drop_zero] at this; exact this
end PNrm

def WOk (n : Int) (w : List Int) : Prop := 1 ≤ n ∧ n ≤ 12 ∧ w.length ≤ 2000 ∧ Vld n.toNat w
noncomputable instance (n : Int) (w : List Int) : Decidable (WOk n w) := Classical.propDecidable _
theorem wOk_ends {n : Int} {w : List Int} (h : WOk n w) : EndM 0 84 PNrm.ct (st0m 84 [iv n, il w] [] 0) (.ptr 0 0) (PDel.K0 n (nfW n.toNat w).pw (encF (nfW n.toNat w).F) (nfW n.toNat w).F.length (Nat.blt 0 w.length)) 2 := by
  obtain ⟨h1, h2, h3, h4⟩ := h; obtain ⟨n, rfl⟩ := Int.eq_ofNat_of_zero_le (show 0 ≤ n by omega); exact PNrm.ends (by omega) h3 h4
noncomputable def spNrm_0 : ZMT := fun ax K0 m => match ax, K0 with
  | [.v (.int .i64 n), .lst (.ints .i64 w)], [] => bc (Nat.beq m (0)) (some ⟨decide (WOk n w), .ptr 0 0, PDel.K0 n (nfW n.toNat w).pw (encF (nfW n.toNat w).F) (nfW n.toNat w).F.length (Nat.blt 0 w.length), 2, 0⟩) none
  | _, _ => none
theorem spNrm_0_ok : ZMtOk Try.prog 84 spNrm_0 := fun γ w0 w us ax K0 m r hs hc hres hax hH => by
  unfold spNrm_0 at hs; split at hs
  case h_2 => cases hs
  rename_i n w; obtain ⟨hm, rfl⟩ := noN hs; have hm := Nat.eq_of_beq_eq_true hm; subst hm; have hc_0 : decide (WOk n w) = true := hc; have hc := of_decide_eq_true hc_0; exact EndM.calls (wOk_ends hc) PNrm.ct_ok (by kernel_rfl) hres hax hH
noncomputable def spNrm_1 : ZMT := fun ax K0 m => match ax, K0 with
  | [.v (.int .i64 n), .v (.slice none 0 0)], [] => bc (Nat.beq m (0)) (some ⟨decide (True), .ptr 0 0, PDel.K0 n 0 (zerosL 0) 0 false, 2, 0⟩) none
  | _, _ => none
theorem spNrm_1_ok : ZMtOk Try.prog 84 spNrm_1 := fun γ w0 w us ax K0 m r hs hc hres hax hH => by
  unfold spNrm_1 at hs; split at hs
  case h_2 => cases hs
  rename_i n; obtain ⟨hm, rfl⟩ := noN hs; have hm := Nat.eq_of_beq_eq_true hm; subst hm; have hc_0 : decide (True) = true := hc; have hc := of_decide_eq_true hc_0; exact EndM.calls (.done (PNrm.nil_t n)) PNrm.ct_ok (by kernel_rfl) hres hax hH
noncomputable def spNrm : ZMT := ZMT.or spNrm_0 (spNrm_1)
theorem spNrm_ok : ZMtOk Try.prog 84 spNrm := spNrm_0_ok.or (spNrm_1_ok)
end Go.Proofs.Ytooimphimnagaaa.Ev
namespace Go.Proofs.Ytooimphimnagaaa.Ev
open Go.Proofs

noncomputable def badL (n x : Int) : Bool := bc (x == 0) true (bc (decide (x ≤ IntKind.i64.wrap (0 - n))) true (decide (n ≤ x)))
noncomputable def chk (n : Int) (l : List Int) : Int := bc (decide (n < 1)) 2 (bc (decide (12 < n)) 2 (bc (decide (400 < Int.ofNat l.length)) 3 (bc (l.any (badL n)) 7 0)))
theorem chk_nil {f : FuncId} {s : ES} (n : Int) (h : RZ f .nil (fun _ => false) [] [] false s = bc (decide (n < 1)) (.done (iv 2) [] 0) (bc (decide (12 < n)) (.done (iv 2) [] 0) (.done (iv 0) [] 0))) : EndZ f .nil false s (iv (chk n [])) [] 0 := by
  unfold chk
  by_cases h1 : n < 1
  · rw [dt h1, bc_t] at h ⊢; exact .done h
  by_cases h2 : 12 < n
  · rw [df h1, dt h2, bc_f, bc_t] at h ⊢; exact .done h
  · rw [df h1, df h2, bc_f, bc_f] at h ⊢; exact .done h
namespace RChk
noncomputable def RUN (s : ES) : ZF := RZ 42 .nil (atS 0 42 6) [] [[(0,none),(1,none),(5,none)]] false s

noncomputable def sL (n : Int) (l : List Int) (i : Int) : NS := ⟨[⟨42, 43, [(0, (EV.v (Value.int IntKind.i64 (n)))), (1, (EV.lst (SyC.ints IntKind.i64 (l)))), (5, iv i)], [.it (.code (nav [1, 1, 1, 0, 1, 0, 0, 0] (bodyOf Try.f42))), .it (.code (nav [1, 1, 1, 0, 1, 0, 0, 1] (bodyOf Try.f42))), .it (.inLoop (nav [1, 1, 1, 0, 1, 0, 0] (bodyOf Try.f42))), .it (.inBlock 0), .it (.code (nav [1, 1, 1, 1] (bodyOf Try.f42)))], [], Option.none⟩], [], 0⟩
theorem in_t (n : Int) (l : List Int) : RUN (st0 42 [iv n, il l]) = (bc (decide (n < (1 : Int))) (.done (EV.v (Value.int IntKind.i64 (2))) [] 0) (bc (decide ((12 : Int) < n)) (.done (EV.v (Value.int IntKind.i64 (2))) [] 0) (bc (decide ((400 : Int) < Int.ofNat (List.length l))) (.done (EV.v (Value.int IntKind.i64 (3))) [] 0) (.at (sL (n) (l) ((0 : Int))))))) := by kernel_rfl
theorem nil_t (n : Int) : RZ 42 .nil (fun _ => false) [] [] false (st0 42 [iv n, .v (.slice none 0 0)]) = (bc (decide (n < (1 : Int))) (.done (EV.v (Value.int IntKind.i64 (2))) [] 0) (bc (decide ((12 : Int) < n)) (.done (EV.v (Value.int IntKind.i64 (2))) [] 0) (.done (EV.v (Value.int IntKind.i64 (0))) [] 0))) := by kernel_rfl
theorem step_t (n : Int) (l : List Int) (i : Int) : RUN (stOf (sL n l i)) = (bc (decide (i < Int.ofNat (List.length l))) (bc (bc (bc (decide ((0 : Int) ≤ i)) (Nat.blt (Int.toNat i) (List.length l)) false) true false) (bc (bc (Nat.blt (Int.toNat i) (List.length l)) true false) (bc (List.getD l (Int.toNat i) (0 : Int) == (0 : Int)) (.done (EV.v (Value.int IntKind.i64 (7))) [] 0) (bc (bc (bc (decide ((0 : Int) ≤ i)) (Nat.blt (Int.toNat i) (List.length l)) false) true false) (bc (bc (Nat.blt (Int.toNat i) (List.length l)) true false) (bc (decide (List.getD l (Int.toNat i) (0 : Int) ≤ IntKind.wrap IntKind.i64 ((0 : Int) - n))) (.done (EV.v (Value.int IntKind.i64 (7))) [] 0) (bc (bc (bc (decide ((0 : Int) ≤ i)) (Nat.blt (Int.toNat i) (List.length l)) false) true false) (bc (bc (Nat.blt (Int.toNat i) (List.length l)) true false) (bc (decide (n ≤ List.getD l (Int.toNat i) (0 : Int))) (.done (EV.v (Value.int IntKind.i64 (7))) [] 0) (.at (sL (n) (l) (IntKind.wrap IntKind.i64 (i + (1 : Int)))))) .bad) .bad)) .bad) .bad)) .bad) .bad) (.done (EV.v (Value.int IntKind.i64 (0))) [] 0)) := by kernel_rfl
theorem step {n : Int} {l : List Int} {i : Nat} (hi : i < l.length) (hl : l.length ≤ 400) : RUN (stOf (sL n l i)) = bc (badL n l[i]) (.done (iv 7) [] 0) (.at (sL n l (i + 1 : Nat))) := by
  rw [step_t]; have e : l.getD i 0 = l[i] := getD_at hi; simp (disch := omega) only [Nat.add_eq, eqSy_self, eqN_self, bc_same, List.length_cons, ofn, wrap_in, dt, df, bltD, bltN, ble_of, bleN, beqD, bc_t, bc_f, nn_ok, Nat.zero_add, to_nat, Int.zero_add, Int.sub_zero, Int.sub_self, Int.cast_ofNat_Int, Int.natCast_zero, Int.toNat_zero, List.take_zero, List.nil_append, List.length_append, List.length_nil, e]; unfold badL; cases (l[i] == 0) <;> cases decide (l[i] ≤ IntKind.i64.wrap (0 - n)) <;> cases decide (n ≤ l[i]) <;> rfl
theorem last {n : Int} {l : List Int} {i : Nat} (hi : l.length ≤ i) : RUN (stOf (sL n l i)) = .done (iv 0) [] 0 := by
  rw [step_t]; simp (disch := omega) only [Nat.add_eq, eqSy_self, eqN_self, bc_same, List.length_cons, ofn, wrap_in, dt, df, bltD, bltN, ble_of, bleN, beqD, bc_t, bc_f, nn_ok, Nat.zero_add, to_nat, Int.zero_add, Int.sub_zero, Int.sub_self, Int.cast_ofNat_Int, Int.natCast_zero, Int.toNat_zero, List.take_zero, List.nil_append, List.length_append, List.length_nil]
theorem loop {n : Int} {l : List Int} (hl : l.length ≤ 400) : ∀ (k i : Nat), i + k = l.length → EndZ 42 .nil false (stOf (sL n l i)) (iv (bc ((l.drop i).any (badL n)) 7 0)) [] 0
  | 0, i, h => by
    rw [List.drop_eq_nil_of_le (by omega)]; exact .done (last (by omega))
  | k + 1, i, h => by
    have hi : i < l.length := by omega
    have hs := step (n := n) hi hl; rw [List.drop_eq_getElem_cons hi, List.any_cons]; cases hb : badL n l[i] <;> rw [hb] at hs
    · exact .at (.nil _) hs (loop hl k (i + 1) (by omega))
    · exact .done hs
theorem ends (n : Int) (l : List Int) : EndZ 42 .nil false (st0 42 [iv n, il l]) (iv (chk n l)) [] 0 := by
  have h := in_t n l; unfold chk
  by_cases h1 : n < 1
  · simp only [Nat.add_eq, eqSy_self, eqN_self, bc_same, List.length_cons, ofn, wrap_in, dt, df, bltD, bltN, ble_of, bleN, beqD, bc_t, bc_f, nn_ok, Nat.zero_add, to_nat, Int.zero_add, Int.sub_zero, Int.sub_self, Int.cast_ofNat_Int, Int.natCast_zero, Int.toNat_zero, List.take_zero, List.nil_append, List.length_append, List.length_nil, dt h1] at h ⊢; exact .done h
  by_cases h2 : 12 < n
  · simp only [Nat.add_eq, eqSy_self, eqN_self, bc_same, List.length_cons, ofn, wrap_in, dt, df, bltD, bltN, ble_of, bleN, beqD, bc_t, bc_f, nn_ok, Nat.zero_add, to_nat, Int.zero_add, Int.sub_zero, Int.sub_self, Int.cast_ofNat_Int, Int.natCast_zero, Int.toNat_zero, List.take_zero, List.nil_append, List.length_append, List.length_nil, df h1, dt h2] at h ⊢; exact .done h
  by_cases h3 : (400 : Int) < (l.length : Int)
  · simp only [Nat.add_eq, eqSy_self, eqN_self, bc_same, List.length_cons, ofn, wrap_in, dt, df, bltD, bltN, ble_of, bleN, beqD, bc_t, bc_f, nn_ok, Nat.zero_add, to_nat, Int.zero_add, Int.sub_zero, Int.sub_self, Int.cast_ofNat_Int, Int.natCast_zero, Int.toNat_zero, List.take_zero, List.nil_append, List.length_append, List.length_nil, df h1, df h2, dt h3] at h ⊢; exact .done h
  · simp only [Nat.add_eq, eqSy_self, eqN_self, bc_same, List.length_cons, ofn, wrap_in, dt, df, bltD, bltN, ble_of, bleN, beqD, bc_t, bc_f, nn_ok, Nat.zero_add, to_nat, Int.zero_add, Int.sub_zero, Int.sub_self, Int.cast_ofNat_Int, Int.natCast_zero, Int.toNat_zero, List.take_zero, List.nil_append, List.length_append, List.length_nil, df h1, df h2, df h3] at h ⊢; exact .at (.nil _) h (loop (by omega) l.length 0 (by omega))
end RChk
noncomputable def spRChk_0 : ZCT := fun ax => match ax with
  | [.v (.int .i64 n), .lst (.ints .i64 l)] => some ⟨decide (True), iv (chk n l), [], 0⟩
  | _ => none
theorem spRChk_0_ok : ZCtOk Try.prog 42 spRChk_0 := fun γ w us ax r hs hc hax hN hfz => by
  unfold spRChk_0 at hs; split at hs
  case h_2 => cases hs
  rename_i n l; obtain ⟨rfl⟩ := Option.some.inj hs; have hc_0 : decide (True) = true := hc; have hc := of_decide_eq_true hc_0; exact EndZ.calls (RChk.ends n l) (.nil _) (by kernel_rfl) hax hN hfz
noncomputable def spRChk_1 : ZCT := fun ax => match ax with
  | [.v (.int .i64 n), .v (.slice none 0 0)] => some ⟨decide (True), iv (chk n []), [], 0⟩
  | _ => none
theorem spRChk_1_ok : ZCtOk Try.prog 42 spRChk_1 := fun γ w us ax r hs hc hax hN hfz => by
  unfold spRChk_1 at hs; split at hs
  case h_2 => cases hs
  rename_i n; obtain ⟨rfl⟩ := Option.some.inj hs; have hc_0 : decide (True) = true := hc; have hc := of_decide_eq_true hc_0; exact EndZ.calls (chk_nil n (RChk.nil_t n)) (.nil _) (by kernel_rfl) hax hN hfz
noncomputable def spRChk : ZCT := ZCT.or spRChk_0 (spRChk_1)
theorem spRChk_ok : ZCtOk Try.prog 42 spRChk := spRChk_0_ok.or (spRChk_1_ok)
namespace PChk
noncomputable def RUN (s : ES) : ZF := RZs 83 .nil [(atS 2 135 2, [[(0,none),(1,none),(7,none),(8,none)],[],[]])] [] false s

noncomputable def sL (n : Int) (l : List Int) (z i : Int) : NS := ⟨[⟨135, 19, [(0, (EV.lst (SyC.ints IntKind.i64 (l)))), (1, (EV.fn 124 [(EV.ptr 0 0)])), (7, iv z), (8, iv i)], [.it (.code (nav [1, 0, 1, 0, 0] (bodyOf Try.f135))), .it (.inLoop (nav [1, 0, 1, 0, 0] (bodyOf Try.f135))), .it (.inBlock 0), .it (.code (nav [1, 1] (bodyOf Try.f135)))], [], Option.none⟩, ⟨123, 9, [], [.ops (opsOf (nav [1, 0] (bodyOf Try.f123))) ((opsOf (nav [1, 0] (bodyOf Try.f123))).toList.drop 2), .it (.code (nav [1, 1] (bodyOf Try.f123)))], [], Option.none⟩, ⟨83, 20, [], [.ops (opsOf (nav [1, 0, 0, 1, 1, 1, 1, 0] (bodyOf Try.f83))) ((opsOf (nav [1, 0, 0, 1, 1, 1, 1, 0] (bodyOf Try.f83))).toList.drop 2), .it (.code (nav [1, 0, 0, 1, 1, 1, 1, 1] (bodyOf Try.f83))), .it (.inBlock 0), .it (.code (nav [1, 1] (bodyOf Try.f83)))], [], Option.none⟩], [(0, (EK.cells 3 [(EV.v (Value.int IntKind.i64 (n)))] true))], 1⟩
theorem in_t (n : Int) (l : List Int) : RUN (st0 83 [iv n, il l]) = (bc (decide (n < (1 : Int))) (.done (EV.v (Value.int IntKind.i64 (2))) [] 0) (bc (decide ((12 : Int) < n)) (.done (EV.v (Value.int IntKind.i64 (2))) [] 0) (bc (decide ((400 : Int) < Int.ofNat (List.length l))) (.done (EV.v (Value.int IntKind.i64 (3))) [] 0) (.at (sL (n) (l) (Int.ofNat (List.length l)) ((0 : Int))))))) := by kernel_rfl
theorem nil_t (n : Int) : RZ 83 .nil (fun _ => false) [] [] false (st0 83 [iv n, .v (.slice none 0 0)]) = (bc (decide (n < (1 : Int))) (.done (EV.v (Value.int IntKind.i64 (2))) [] 0) (bc (decide ((12 : Int) < n)) (.done (EV.v (Value.int IntKind.i64 (2))) [] 0) (.done (EV.v (Value.int IntKind.i64 (0))) [] 0))) := by kernel_rfl
theorem step_t (n : Int) (l : List Int) (z i : Int) : RUN (stOf (sL n l z i)) = (bc (decide (i < z)) (bc (bc (bc (decide ((0 : Int) ≤ i)) (Nat.blt (Int.toNat i) (List.length l)) false) true false) (bc (bc (Nat.blt (Int.toNat i) (List.length l)) true false) (bc (List.getD l (Int.toNat i) (0 : Int) == (0 : Int)) (bc (decide ((0 : Int) ≤ i)) (.done (EV.v (Value.int IntKind.i64 (7))) [] 0) (.done (EV.v (Value.int IntKind.i64 (0))) [] 0)) (bc (decide (List.getD l (Int.toNat i) (0 : Int) ≤ IntKind.wrap IntKind.i64 ((0 : Int) - n))) (bc (decide ((0 : Int) ≤ i)) (.done (EV.v (Value.int IntKind.i64 (7))) [] 0) (.done (EV.v (Value.int IntKind.i64 (0))) [] 0)) (bc (decide (n ≤ List.getD l (Int.toNat i) (0 : Int))) (bc (decide ((0 : Int) ≤ i)) (.done (EV.v (Value.int IntKind.i64 (7))) [] 0) (.done (EV.v (Value.int IntKind.i64 (0))) [] 0)) (.at (sL (n) (l) (z) (IntKind.wrap IntKind.i64 (i + (1 : Int)))))))) .bad) .bad) (.done (EV.v (Value.int IntKind.i64 (0))) [] 0)) := by kernel_rfl
theorem step {n : Int} {l : List Int} {i : Nat} (hi : i < l.length) (hl : l.length ≤ 400) : RUN (stOf (sL n l l.length i)) = bc (badL n l[i]) (.done (iv 7) [] 0) (.at (sL n l l.length (i + 1 : Nat))) := by
  rw [step_t]; have e : l.getD i 0 = l[i] := getD_at hi; simp (disch := omega) only [Nat.add_eq, eqSy_self, eqN_self, bc_same, List.length_cons, ofn, wrap_in, dt, df, bltD, bltN, ble_of, bleN, beqD, bc_t, bc_f, nn_ok, Nat.zero_add, to_nat, Int.zero_add, Int.sub_zero, Int.sub_self, Int.cast_ofNat_Int, Int.natCast_zero, Int.toNat_zero, List.take_zero, List.nil_append, List.length_append, List.length_nil, e]; unfold badL; cases (l[i] == 0) <;> cases decide (l[i] ≤ IntKind.i64.wrap (0 - n)) <;> cases decide (n ≤ l[i]) <;> rfl
theorem last {n : Int} {l : List Int} {i : Nat} (hi : l.length ≤ i) : RUN (stOf (sL n l l.length i)) = .done (iv 0) [] 0 := by
  rw [step_t]; simp (disch := omega) only [Nat.add_eq, eqSy_self, eqN_self, bc_same, List.length_cons, ofn, wrap_in, dt, df, bltD, bltN, ble_of, bleN, beqD, bc_t, bc_f, nn_ok, Nat.zero_add, to_nat, Int.zero_add, Int.sub_zero, Int.sub_self, Int.cast_ofNat_Int, Int.natCast_zero, Int.toNat_zero, List.take_zero, List.nil_append, List.length_append, List.length_nil]
theorem loop {n : Int} {l : List Int} (hl : l.length ≤ 400) : ∀ (k i : Nat), i + k = l.length → EndZ 83 .nil false (stOf (sL n l l.length i)) (iv (bc ((l.drop i).any (badL n)) 7 0)) [] 0
  | 0, i, h => by
    rw [List.drop_eq_nil_of_le (by omega)]; exact .done (last (by omega))
  | k + 1, i, h => by
    have hi : i < l.length := by omega
    have hs := step (n := n) hi hl; rw [List.drop_eq_getElem_cons hi, List.any_cons]; cases hb : badL n l[i] <;> rw [hb] at hs
    · exact .at (.nil _) hs (loop hl k (i + 1) (by omega))
    · exact .done hs
theorem ends (n : Int) (l : List Int) : EndZ 83 .nil false (st0 83 [iv n, il l]) (iv (chk n l)) [] 0 := by
  have h := in_t n l; unfold chk
  by_cases h1 : n < 1
  · simp only [Nat.add_eq, eqSy_self, eqN_self, bc_same, List.length_cons, ofn, wrap_in, dt, df, bltD, bltN, ble_of, bleN, beqD, bc_t, bc_f, nn_ok, Nat.zero_add, to_nat, Int.zero_add, Int.sub_zero, Int.sub_self, Int.cast_ofNat_Int, Int.natCast_zero, Int.toNat_zero, List.take_zero, List.nil_append, List.length_append, List.length_nil, dt h1] at h ⊢; exact .done h
  by_cases h2 : 12 < n
  · simp only [Nat.add_eq, eqSy_self, eqN_self, bc_same, List.length_cons, ofn, wrap_in, dt, df, bltD, bltN, ble_of, bleN, beqD, bc_t, bc_f, nn_ok, Nat.zero_add, to_nat, Int.zero_add, Int.sub_zero, Int.sub_self, Int.cast_ofNat_Int, Int.natCast_zero, Int.toNat_zero, List.take_zero, List.nil_append, List.length_append, List.length_nil, df h1, dt h2] at h ⊢; exact .done h
  by_cases h3 : (400 : Int) < (l.length : Int)
  · simp only [Nat.add_eq, eqSy_self, eqN_self, bc_same, List.length_cons, ofn, wrap_in, dt, df, bltD, bltN, ble_of, bleN, beqD, bc_t, bc_f, nn_ok, Nat.zero_add, to_nat, Int.zero_add, Int.sub_zero, Int.sub_self, Int.cast_ofNat_Int, Int.natCast_zero, Int.toNat_zero, List.take_zero, List.nil_append, List.length_append, List.length_nil, df h1, df h2, dt h3] at h ⊢; exact .done h
  · simp only [Nat.add_eq, eqSy_self, eqN_self, bc_same, List.length_cons, ofn, wrap_in, dt, df, bltD, bltN, ble_of, bleN, beqD, bc_t, bc_f, nn_ok, Nat.zero_add, to_nat, Int.zero_add, Int.sub_zero, Int.sub_self, Int.cast_ofNat_Int, Int.natCast_zero, Int.toNat_zero, List.take_zero, List.nil_append, List.length_append, List.length_nil, df h1, df h2, df h3] at h ⊢; exact .at (.nil _) h (loop (by omega) l.length 0 (by omega))
end PChk
noncomputable def spPChk_0 : ZCT := fun ax => match ax with
  | [.v (.int .i64 n), .lst (.ints .i64 l)] => some ⟨decide (True), iv (chk n l), [], 0⟩
  | _ => none
theorem spPChk_0_ok : ZCtOk Try.prog 83 spPChk_0 := fun γ w us ax r hs hc hax hN hfz => by
  unfold spPChk_0 at hs; split at hs
  case h_2 => cases hs
  rename_i n l; obtain ⟨rfl⟩ := Option.some.inj hs; have hc_0 : decide (True) = true := hc; have hc := of_decide_eq_true hc_0; exact EndZ.calls (PChk.ends n l) (.nil _) (by kernel_rfl) hax hN hfz
noncomputable def spPChk_1 : ZCT := fun ax => match ax with
  | [.v (.int .i64 n), .v (.slice none 0 0)] => some ⟨decide (True), iv (chk n []), [], 0⟩
  | _ => none
theorem spPChk_1_ok : ZCtOk Try.prog 83 spPChk_1 := fun γ w us ax r hs hc hax hN hfz => by
  unfold spPChk_1 at hs; split at hs
  case h_2 => cases hs
  rename_i n; obtain ⟨rfl⟩ := Option.some.inj hs; have hc_0 : decide (True) = true := hc; have hc := of_decide_eq_true hc_0; exact EndZ.calls (chk_nil n (PChk.nil_t n)) (.nil _) (by kernel_rfl) hax hN hfz
noncomputable def spPChk : ZCT := ZCT.or spPChk_0 (spPChk_1)
theorem spPChk_ok : ZCtOk Try.prog 83 spPChk := spPChk_0_ok.or (spPChk_1_ok)
namespace PEqP
noncomputable def K0 (L M : List Int) (nn nn2 : Bool) : List (Nat × EK) := [(0, .seq 92 (.ints .u8 L) nn), (1, .seq 92 (.ints .u8 M) nn2)]
noncomputable def RUN (s : ES) : ZF := RMs 0 85 .nil [(atS 0 85 4, [[(0,none),(1,none),(12,none),(13,none)]])] [] [] s

noncomputable def sL (L M : List Int) (len len2 : Nat) (nn nn2 : Bool) (z i : Int) : NS := ⟨[⟨85, 26, [(0, (EV.slO 0 12 (len) (nn))), (1, (EV.slO 1 12 (len2) (nn2))), (12, iv z), (13, iv i)], [.it (.code (nav [1, 1, 0, 1, 0, 0] (bodyOf Try.f85))), .it (.inLoop (nav [1, 1, 0, 1, 0, 0] (bodyOf Try.f85))), .it (.inBlock 0), .it (.code (nav [1, 1, 1] (bodyOf Try.f85)))], [], Option.none⟩], [(0, (EK.seq 92 (SyC.ints IntKind.u8 (L)) (nn))), (1, (EK.seq 92 (SyC.ints IntKind.u8 (M)) (nn2)))], 2⟩
theorem in_t (L M : List Int) (len len2 : Nat) (nn nn2 : Bool) : RUN (st0m 85 [.slO 0 12 len nn, .slO 1 12 len2 nn2] (K0 L M nn nn2) 2) = (bc (Int.ofNat len != Int.ofNat len2) (.done (EV.v (Value.bool false)) [] 0) (.at (sL (L) (M) (len) (len2) (nn) (nn2) (Int.ofNat len) ((0 : Int))))) := by kernel_rfl
theorem step_t (L M : List Int) (len len2 : Nat) (nn nn2 : Bool) (z i : Int) : RUN (stOf (sL L M len len2 nn nn2 z i)) = (bc (decide (i < z)) (bc (bc (bc (bc (bc (decide ((0 : Int) ≤ i)) (Nat.blt (Int.toNat i) len) false) true false) (bc (bc (Nat.ble (Nat.add (Nat.add (Nat.mul (Int.toNat i) (12 : Nat)) (0 : Nat)) (12 : Nat)) (List.length L)) true false) (bc (bc (bc (decide ((0 : Int) ≤ i)) (Nat.blt (Int.toNat i) len2) false) true false) (bc (bc (Nat.ble (Nat.add (Nat.add (Nat.mul (Int.toNat i) (12 : Nat)) (0 : Nat)) (12 : Nat)) (List.length M)) true false) (bc (bc (bc (Nat.beq (List.length (List.take (12 : Nat) (List.drop (Nat.add (Nat.mul (Int.toNat i) (12 : Nat)) (0 : Nat)) L))) (12 : Nat)) (Nat.beq (List.length (List.take (12 : Nat) (List.drop (Nat.add (Nat.mul (Int.toNat i) (12 : Nat)) (0 : Nat)) M))) (12 : Nat)) false) true false) true false) false) false) false) false) true false) (bc (bnot (eqLI (List.take (12 : Nat) (List.drop (Nat.add (Nat.mul (Int.toNat i) (12 : Nat)) (0 : Nat)) L)) (List.take (12 : Nat) (List.drop (Nat.add (Nat.mul (Int.toNat i) (12 : Nat)) (0 : Nat)) M)))) (.done (EV.v (Value.bool false)) [] 0) (.at (sL (L) (M) (len) (len2) (nn) (nn2) (z) (IntKind.wrap IntKind.i64 (i + (1 : Int)))))) .bad) (.done (EV.v (Value.bool true)) [] 0)) := by kernel_rfl
theorem take_win {L M : List Int} {i : Nat} (hL : i * 12 + 12 ≤ L.length) (hM : i * 12 + 12 ≤ M.length) (h : L.take (i * 12) = M.take (i * 12)) (hw : (L.drop (i * 12)).take 12 = (M.drop (i * 12)).take 12) : L.take ((i + 1) * 12) = M.take ((i + 1) * 12) := by
  rw [show (i + 1) * 12 = i * 12 + 12 by omega, List.take_add, List.take_add, h, hw]
theorem win_of {L M : List Int} (h : L = M) (i : Nat) : (L.drop (i * 12)).take 12 = (M.drop (i * 12)).take 12 := by rw [h]
theorem loop {L M : List Int} {len : Nat} {nn nn2 : Bool} (hL : len * 12 = L.length) (hM : len * 12 = M.length) (hz : len ≤ 5000) : ∀ (k i : Nat), i + k = len → L.take (i * 12) = M.take (i * 12) → EndM 0 85 .nil (stOf (sL L M len len nn nn2 len i)) (bv (eqLI L M)) [] 0
  | 0, i, h, he => by
    obtain rfl : i = len := by omega
    have h1 := step_t L M i i nn nn2 i i; rw [df (show ¬ (i : Int) < (i : Int) by omega), bc_f] at h1; rw [hL] at he; rw [List.take_length, ← hL, hM, List.take_length] at he; rw [eqLI_iff.2 he]; exact .done h1
  | k + 1, i, h, he => by
    have h1 := step_t L M len len nn nn2 len i; have e0 : ((i : Int)).toNat = i := rfl; have e1 : Nat.add (Nat.mul i 12) 0 = i * 12 := rfl; have e2 : Nat.add (i * 12) 12 = i * 12 + 12 := rfl; have l1 : ((L.drop (i * 12)).take 12).length = 12 := by rw [List.length_take, List.length_drop]; omega
    have l2 : ((M.drop (i * 12)).take 12).length = 12 := by rw [List.length_take, List.length_drop]; omega
    rw [e0, e1, e2, l1, l2] at h1; simp (disch := omega) only [Nat.add_eq, eqSy_self, eqN_self, bc_same, List.length_cons, ofn, wrap_in, dt, df, bltD, bltN, ble_of, bleN, beqD, bc_t, bc_f, nn_ok, Nat.zero_add, to_nat, Int.zero_add, Int.sub_zero, Int.sub_self, Int.cast_ofNat_Int, Int.natCast_zero, Int.toNat_zero, List.take_zero, List.nil_append, List.length_append, List.length_nil] at h1
    cases hq : eqLI ((L.drop (i * 12)).take 12) ((M.drop (i * 12)).take 12) with
    | true =>
      rw [hq] at h1; exact .at (.nil _) h1 (loop hL hM hz k (i + 1) (by omega) (take_win (by omega) (by omega) he (eqLI_iff.1 hq)))
    | false =>
      rw [hq] at h1; have hne : eqLI L M = false := by
        cases hx : eqLI L M with
        | false => rfl
        | true => rw [eqLI_iff.2 (win_of (eqLI_iff.1 hx) i)] at hq; cases hq
      rw [hne]; exact .done h1
theorem ends {L M : List Int} {len len2 : Nat} {nn nn2 : Bool} (hL : len * 12 = L.length) (hM : len2 * 12 = M.length) (hz : len ≤ 5000) : EndM 0 85 .nil (st0m 85 [.slO 0 12 len nn, .slO 1 12 len2 nn2] (K0 L M nn nn2) 2) (bv (eqLI L M)) [] 0 := by
  have h := in_t L M len len2 nn nn2
  by_cases e : len = len2
  · subst e; have e1 : (Int.ofNat len != Int.ofNat len) = false := by simp
    rw [e1, bc_f] at h; exact .at (.nil _) h (loop hL hM hz len 0 (by omega) (by simp))
  · have e1 : (Int.ofNat len != Int.ofNat len2) = true := by simp; omega
    rw [e1, bc_t] at h; have hne : eqLI L M = false := by
      cases hx : eqLI L M with
      | false => rfl
      | true => have := congrArg List.length (eqLI_iff.1 hx); omega
    rw [hne]; exact .done h
end PEqP
noncomputable def spEqP : ZMT := fun ax K0 m => match ax, K0 with
  | [.slO 0 12 len nn, .slO 1 12 len2 nn2], [(0, .seq 92 (.ints .u8 L) v_0), (1, .seq 92 (.ints .u8 M) v_1)] => bc (Nat.beq m (2)) (some ⟨bc (eqN v_0 (nn)) (bc (eqN v_1 (nn2)) (decide (len * 12 = L.length ∧ len2 * 12 = M.length ∧ len ≤ 5000)) false) false, bv (eqLI L M), [], 0, 0⟩) none
  | _, _ => none
theorem spEqP_ok : ZMtOk Try.prog 85 spEqP := fun γ w0 w us ax K0 m r hs hc hres hax hH => by
  unfold spEqP at hs; split at hs
  case h_2 => cases hs
  rename_i len nn len2 nn2 L v_0 M v_1; obtain ⟨hm, rfl⟩ := noN hs; have hm := Nat.eq_of_beq_eq_true hm; subst hm; have hc_0 : bc (eqN v_0 (nn)) (bc (eqN v_1 (nn2)) (decide (len * 12 = L.length ∧ len2 * 12 = M.length ∧ len ≤ 5000)) false) false = true := hc; obtain ⟨q_0, hc_1⟩ := bcT hc_0; have p_0 := (eqN_ok q_0).symm; subst p_0; obtain ⟨q_1, hc_2⟩ := bcT hc_1; have p_1 := (eqN_ok q_1).symm; subst p_1; have hc := of_decide_eq_true hc_2; exact EndM.calls (PEqP.ends hc.1 hc.2.1 hc.2.2) (.nil _) (by kernel_rfl) hres hax hH
end Go.Proofs.Ytooimphimnagaaa.Ev
namespace Go.Proofs.Ytooimphimnagaaa.Ev
open Go.Proofs
theorem chk_wok {n : Int} {w : List Int} (h : chk n w = 0) : WOk n w ∧ w.length ≤ 400 := by
  unfold chk at h
  by_cases h1 : n < 1
  · rw [dt h1, bc_t] at h; omega
  by_cases h2 : 12 < n
  · rw [df h1, dt h2, bc_f, bc_t] at h; omega
  by_cases h3 : (400 : Int) < Int.ofNat w.length
  · rw [df h1, df h2, dt h3, bc_f, bc_f, bc_t] at h; omega
  rw [df h1, df h2, df h3, bc_f, bc_f, bc_f] at h; rw [ofn] at h3; refine ⟨⟨by omega, by omega, by omega, fun x hx => ?_⟩, by omega⟩
  cases ha : w.any (badL n) with
  | true => rw [ha, bc_t] at h; omega
  | false =>
    have h4 : badL n x = false := by
      cases hb : badL n x with
      | false => rfl
      | true => rw [List.any_eq_true.2 ⟨x, hx, hb⟩] at ha; cases ha
    unfold badL at h4; rw [wrap_in (0 - n) (by omega) (by omega)] at h4; have e : ((n.toNat : Nat) : Int) = n := Int.toNat_of_nonneg (by omega); rw [e]
    by_cases q1 : x = 0
    · rw [show (x == 0) = true by simp [q1], bc_t] at h4; cases h4
    · rw [show (x == 0) = false by simp [q1], bc_f] at h4
      by_cases q2 : x ≤ 0 - n
      · rw [dt q2, bc_t] at h4; cases h4
      · rw [df q2, bc_f] at h4; have q3 := of_decide_eq_false h4; exact ⟨q1, by omega, by omega⟩
noncomputable def sameN (n : Int) (a b : List Int) : Bool := decide (nfW n.toNat a = nfW n.toNat b)
noncomputable def samE (n : Int) (a b : List Int) : Int := bc (chk n a != 0) (chk n a) (chk n b)
noncomputable def samB (n : Int) (a b : List Int) : Bool := bc (samE n a b != 0) false (sameN n a b)
theorem sameN_of {n : Int} (h2 : n ≤ 12) (a b : List Int) : sameN n a b = bc ((nfW n.toNat a).pw == (nfW n.toNat b).pw) (eqLI (encF (nfW n.toNat a).F) (encF (nfW n.toNat b).F)) false := by
  have hn : n.toNat ≤ 12 := by omega
  unfold sameN
  by_cases h1 : (nfW n.toNat a).pw = (nfW n.toNat b).pw
  · rw [show ((nfW n.toNat a).pw == (nfW n.toNat b).pw) = true by simp [h1], bc_t]
    by_cases h2 : encF (nfW n.toNat a).F = encF (nfW n.toNat b).F
    · rw [eqLI_iff.2 h2]; exact decide_eq_true (Frm.ext h1 (encF_inj hn h2))
    · have : eqLI (encF (nfW n.toNat a).F) (encF (nfW n.toNat b).F) = false := by
        cases h : eqLI (encF (nfW n.toNat a).F) (encF (nfW n.toNat b).F) with
        | false => rfl
        | true => exact absurd (eqLI_iff.1 h) h2
      rw [this]; exact decide_eq_false fun e => h2 (by rw [e])
  · rw [show ((nfW n.toNat a).pw == (nfW n.toNat b).pw) = false by simp [h1], bc_f]; exact decide_eq_false fun e => h1 (by rw [e])
theorem nf_small {n : Int} {w : List Int} (h : WOk n w) : (nfW n.toNat w).F.length ≤ 5000 := by
  obtain ⟨_, _, h3, _⟩ := h; have : ∀ (w : List Int) (s : Frm n.toNat), (w.foldl Frm.step s).F.length ≤ s.F.length + w.length := by
    intro w
    induction w with
    | nil => intro s; exact Nat.le_refl _
    | cons x w ih =>
      intro s; have h1 := ih (s.step x); have h2 := (step_len s x).1; rw [List.foldl_cons, List.length_cons]; omega
  have := this w ⟨0, []⟩; have e : nfW n.toNat w = w.foldl Frm.step ⟨0, []⟩ := rfl; rw [e]; simp at this; omega
namespace PSam
noncomputable def ct : Tr ZCC := ((Tr.nil.put 83 (some (dC spPChk))).put 84 (some (mC spNrm))).put 85 (some (mC spEqP))
theorem ct_ok : ZCtsOk Try.prog ct := (((ZCtsOk.nil _).add rfl spPChk_ok).addM rfl spNrm_ok).addM rfl spEqP_ok
noncomputable def RUN (s : ES) : ZF := RZ 27 ct (fun _ => false) [] [] false s
theorem in_t (n : Int) (a b : List Int) : RUN (st0 27 [iv n, il a, il b]) = (bc (List.getD (List.map (fun r => U.int (List.headD r (U.i (0 : Int)))) [[U.i (chk n a)], [U.i (chk n b)]]) (Int.toNat (0 : Int)) (0 : Int) != (0 : Int)) (bc (List.getD (List.map (fun r => U.int (List.headD r (U.i (0 : Int)))) [[U.i (chk n a)], [U.i (chk n b)]]) (Int.toNat (0 : Int)) (0 : Int) != (0 : Int)) (.done (EV.tup [(EV.v (Value.bool false)), (EV.v (Value.int IntKind.i64 (List.getD (List.map (fun r => U.int (List.headD r (U.i (0 : Int)))) [[U.i (chk n a)], [U.i (chk n b)]]) (Int.toNat (0 : Int)) (0 : Int))))]) [] 0) (bc (bc (decide (WOk n a)) true false) (bc (bc (decide (WOk n b)) true false) (bc (Frm.pw (nfW (Int.toNat n) a) == Frm.pw (nfW (Int.toNat n) b)) (bc (bc (bc (eqB (Frm.pw (nfW (Int.toNat n) a) == Frm.pw (nfW (Int.toNat n) b)) true) (bc (bc (bc (eqN (Nat.blt (0 : Nat) (List.length a)) (Nat.blt (0 : Nat) (List.length a))) (bc (eqN (Nat.blt (0 : Nat) (List.length b)) (Nat.blt (0 : Nat) (List.length b))) (decide (List.length (Frm.F (nfW (Int.toNat n) a)) * (12 : Nat) = List.length (encF (Frm.F (nfW (Int.toNat n) a))) ∧ List.length (Frm.F (nfW (Int.toNat n) b)) * (12 : Nat) = List.length (encF (Frm.F (nfW (Int.toNat n) b))) ∧ List.length (Frm.F (nfW (Int.toNat n) a)) ≤ (5000 : Nat))) false) false) true false) true false) false) true false) (.done (EV.tup [(EV.v (Value.bool (eqLI (encF (Frm.F (nfW (Int.toNat n) a))) (encF (Frm.F (nfW (Int.toNat n) b)))))), (EV.v (Value.int IntKind.i64 (0)))]) [] 0) .bad) (bc (bc (bc (eqB (Frm.pw (nfW (Int.toNat n) a) == Frm.pw (nfW (Int.toNat n) b)) false) true false) true false) (.done (EV.tup [(EV.v (Value.bool false)), (EV.v (Value.int IntKind.i64 (0)))]) [] 0) .bad)) .bad) .bad)) (bc (List.getD (List.map (fun r => U.int (List.headD r (U.i (0 : Int)))) [[U.i (chk n a)], [U.i (chk n b)]]) (Int.toNat (IntKind.wrap IntKind.i64 ((0 : Int) + (1 : Int)))) (0 : Int) != (0 : Int)) (bc (List.getD (List.map (fun r => U.int (List.headD r (U.i (0 : Int)))) [[U.i (chk n a)], [U.i (chk n b)]]) (Int.toNat (IntKind.wrap IntKind.i64 ((0 : Int) + (1 : Int)))) (0 : Int) != (0 : Int)) (.done (EV.tup [(EV.v (Value.bool false)), (EV.v (Value.int IntKind.i64 (List.getD (List.map (fun r => U.int (List.headD r (U.i (0 : Int)))) [[U.i (chk n a)], [U.i (chk n b)]]) (Int.toNat (IntKind.wrap IntKind.i64 ((0 : Int) + (1 : Int)))) (0 : Int))))]) [] 0) (bc (bc (decide (WOk n a)) true false) (bc (bc (decide (WOk n b)) true false) (bc (Frm.pw (nfW (Int.toNat n) a) == Frm.pw (nfW (Int.toNat n) b)) (bc (bc (bc (eqB (Frm.pw (nfW (Int.toNat n) a) == Frm.pw (nfW (Int.toNat n) b)) true) (bc (bc (bc (eqN (Nat.blt (0 : Nat) (List.length a)) (Nat.blt (0 : Nat) (List.length a))) (bc (eqN (Nat.blt (0 : Nat) (List.length b)) (Nat.blt (0 : Nat) (List.length b))) (decide (List.length (Frm.F (nfW (Int.toNat n) a)) * (12 : Nat) = List.length (encF (Frm.F (nfW (Int.toNat n) a))) ∧ List.length (Frm.F (nfW (Int.toNat n) b)) * (12 : Nat) = List.length (encF (Frm.F (nfW (Int.toNat n) b))) ∧ List.length (Frm.F (nfW (Int.toNat n) a)) ≤ (5000 : Nat))) false) false) true false) true false) false) true false) (.done (EV.tup [(EV.v (Value.bool (eqLI (encF (Frm.F (nfW (Int.toNat n) a))) (encF (Frm.F (nfW (Int.toNat n) b)))))), (EV.v (Value.int IntKind.i64 (0)))]) [] 0) .bad) (bc (bc (bc (eqB (Frm.pw (nfW (Int.toNat n) a) == Frm.pw (nfW (Int.toNat n) b)) false) true false) true false) (.done (EV.tup [(EV.v (Value.bool false)), (EV.v (Value.int IntKind.i64 (0)))]) [] 0) .bad)) .bad) .bad)) (bc (bc (decide (WOk n a)) true false) (bc (bc (decide (WOk n b)) true false) (bc (Frm.pw (nfW (Int.toNat n) a) == Frm.pw (nfW (Int.toNat n) b)) (bc (bc (bc (eqB (Frm.pw (nfW (Int.toNat n) a) == Frm.pw (nfW (Int.toNat n) b)) true) (bc (bc (bc (eqN (Nat.blt (0 : Nat) (List.length a)) (Nat.blt (0 : Nat) (List.length a))) (bc (eqN (Nat.blt (0 : Nat) (List.length b)) (Nat.blt (0 : Nat) (List.length b))) (decide (List.length (Frm.F (nfW (Int.toNat n) a)) * (12 : Nat) = List.length (encF (Frm.F (nfW (Int.toNat n) a))) ∧ List.length (Frm.F (nfW (Int.toNat n) b)) * (12 : Nat) = List.length (encF (Frm.F (nfW (Int.toNat n) b))) ∧ List.length (Frm.F (nfW (Int.toNat n) a)) ≤ (5000 : Nat))) false) false) true false) true false) false) true false) (.done (EV.tup [(EV.v (Value.bool (eqLI (encF (Frm.F (nfW (Int.toNat n) a))) (encF (Frm.F (nfW (Int.toNat n) b)))))), (EV.v (Value.int IntKind.i64 (0)))]) [] 0) .bad) (bc (bc (bc (eqB (Frm.pw (nfW (Int.toNat n) a) == Frm.pw (nfW (Int.toNat n) b)) false) true false) true false) (.done (EV.tup [(EV.v (Value.bool false)), (EV.v (Value.int IntKind.i64 (0)))]) [] 0) .bad)) .bad) .bad))) := by kernel_rfl
theorem nil_t (n : Int) (a : List Int) : RUN (st0 27 [iv n, il a, .v (.slice none 0 0)]) = (bc (List.getD (List.map (fun r => U.int (List.headD r (U.i (0 : Int)))) [[U.i (chk n a)], [U.i (chk n [])]]) (Int.toNat (0 : Int)) (0 : Int) != (0 : Int)) (bc (List.getD (List.map (fun r => U.int (List.headD r (U.i (0 : Int)))) [[U.i (chk n a)], [U.i (chk n [])]]) (Int.toNat (0 : Int)) (0 : Int) != (0 : Int)) (.done (EV.tup [(EV.v (Value.bool false)), (EV.v (Value.int IntKind.i64 (List.getD (List.map (fun r => U.int (List.headD r (U.i (0 : Int)))) [[U.i (chk n a)], [U.i (chk n [])]]) (Int.toNat (0 : Int)) (0 : Int))))]) [] 0) (bc (bc (decide (WOk n a)) true false) (bc (Frm.pw (nfW (Int.toNat n) a) == (0 : Int)) (bc (bc (bc (eqB (Frm.pw (nfW (Int.toNat n) a) == (0 : Int)) true) (bc (bc (bc (eqN (Nat.blt (0 : Nat) (List.length a)) (Nat.blt (0 : Nat) (List.length a))) (decide (List.length (Frm.F (nfW (Int.toNat n) a)) * (12 : Nat) = List.length (encF (Frm.F (nfW (Int.toNat n) a))) ∧ (0 : Nat) * (12 : Nat) = List.length (zerosL (0 : Nat)) ∧ List.length (Frm.F (nfW (Int.toNat n) a)) ≤ (5000 : Nat))) false) true false) true false) false) true false) (.done (EV.tup [(EV.v (Value.bool (eqLI (encF (Frm.F (nfW (Int.toNat n) a))) (zerosL (0 : Nat))))), (EV.v (Value.int IntKind.i64 (0)))]) [] 0) .bad) (bc (bc (bc (eqB (Frm.pw (nfW (Int.toNat n) a) == (0 : Int)) false) true false) true false) (.done (EV.tup [(EV.v (Value.bool false)), (EV.v (Value.int IntKind.i64 (0)))]) [] 0) .bad)) .bad)) (bc (List.getD (List.map (fun r => U.int (List.headD r (U.i (0 : Int)))) [[U.i (chk n a)], [U.i (chk n [])]]) (Int.toNat (IntKind.wrap IntKind.i64 ((0 : Int) + (1 : Int)))) (0 : Int) != (0 : Int)) (bc (List.getD (List.map (fun r => U.int (List.headD r (U.i (0 : Int)))) [[U.i (chk n a)], [U.i (chk n [])]]) (Int.toNat (IntKind.wrap IntKind.i64 ((0 : Int) + (1 : Int)))) (0 : Int) != (0 : Int)) (.done (EV.tup [(EV.v (Value.bool false)), (EV.v (Value.int IntKind.i64 (List.getD (List.map (fun r => U.int (List.headD r (U.i (0 : Int)))) [[U.i (chk n a)], [U.i (chk n [])]]) (Int.toNat (IntKind.wrap IntKind.i64 ((0 : Int) + (1 : Int)))) (0 : Int))))]) [] 0) (bc (bc (decide (WOk n a)) true false) (bc (Frm.pw (nfW (Int.toNat n) a) == (0 : Int)) (bc (bc (bc (eqB (Frm.pw (nfW (Int.toNat n) a) == (0 : Int)) true) (bc (bc (bc (eqN (Nat.blt (0 : Nat) (List.length a)) (Nat.blt (0 : Nat) (List.length a))) (decide (List.length (Frm.F (nfW (Int.toNat n) a)) * (12 : Nat) = List.length (encF (Frm.F (nfW (Int.toNat n) a))) ∧ (0 : Nat) * (12 : Nat) = List.length (zerosL (0 : Nat)) ∧ List.length (Frm.F (nfW (Int.toNat n) a)) ≤ (5000 : Nat))) false) true false) true false) false) true false) (.done (EV.tup [(EV.v (Value.bool (eqLI (encF (Frm.F (nfW (Int.toNat n) a))) (zerosL (0 : Nat))))), (EV.v (Value.int IntKind.i64 (0)))]) [] 0) .bad) (bc (bc (bc (eqB (Frm.pw (nfW (Int.toNat n) a) == (0 : Int)) false) true false) true false) (.done (EV.tup [(EV.v (Value.bool false)), (EV.v (Value.int IntKind.i64 (0)))]) [] 0) .bad)) .bad)) (bc (bc (decide (WOk n a)) true false) (bc (Frm.pw (nfW (Int.toNat n) a) == (0 : Int)) (bc (bc (bc (eqB (Frm.pw (nfW (Int.toNat n) a) == (0 : Int)) true) (bc (bc (bc (eqN (Nat.blt (0 : Nat) (List.length a)) (Nat.blt (0 : Nat) (List.length a))) (decide (List.length (Frm.F (nfW (Int.toNat n) a)) * (12 : Nat) = List.length (encF (Frm.F (nfW (Int.toNat n) a))) ∧ (0 : Nat) * (12 : Nat) = List.length (zerosL (0 : Nat)) ∧ List.length (Frm.F (nfW (Int.toNat n) a)) ≤ (5000 : Nat))) false) true false) true false) false) true false) (.done (EV.tup [(EV.v (Value.bool (eqLI (encF (Frm.F (nfW (Int.toNat n) a))) (zerosL (0 : Nat))))), (EV.v (Value.int IntKind.i64 (0)))]) [] 0) .bad) (bc (bc (bc (eqB (Frm.pw (nfW (Int.toNat n) a) == (0 : Int)) false) true false) true false) (.done (EV.tup [(EV.v (Value.bool false)), (EV.v (Value.int IntKind.i64 (0)))]) [] 0) .bad)) .bad))) := by kernel_rfl
theorem fin {n : Int} {a b : List Int} {s : ES} (z1 : chk n a = 0) (z2 : chk n b = 0) (h : RUN s = bc ((nfW n.toNat a).pw == (nfW n.toNat b).pw) (.done (.tup [bv (eqLI (encF (nfW n.toNat a).F) (encF (nfW n.toNat b).F)), iv 0]) [] 0) (.done (.tup [bv false, iv 0]) [] 0)) : EndZ 27 ct false s (.tup [bv (samB n a b), iv (samE n a b)]) [] 0 := by
  have e1 : samE n a b = 0 := by unfold samE; rw [z1, z2]; rfl
  obtain ⟨⟨_, h2, _⟩, _⟩ := chk_wok z1; unfold samB; rw [e1, show ((0 : Int) != 0) = false from rfl, bc_f, sameN_of h2]
  cases hq : ((nfW n.toNat a).pw == (nfW n.toNat b).pw) with
  | true => rw [hq, bc_t] at h; rw [bc_t]; exact .done h
  | false => rw [hq, bc_f] at h; rw [bc_f]; exact .done h
theorem bad {n : Int} {a b : List Int} {s : ES} {e : Int} (h0 : e ≠ 0) (he : samE n a b = e) (h : RUN s = .done (.tup [bv false, iv e]) [] 0) : EndZ 27 ct false s (.tup [bv (samB n a b), iv (samE n a b)]) [] 0 := by
  unfold samB; rw [he, show (e != 0) = true by simp [h0], bc_t]; exact .done h
theorem ends (n : Int) (a b : List Int) : EndZ 27 ct false (st0 27 [iv n, il a, il b]) (.tup [bv (samB n a b), iv (samE n a b)]) [] 0 := by
  have h := in_t n a b; have g0 : List.getD (List.map (fun r => U.int (List.headD r (U.i 0))) [[U.i (chk n a)], [U.i (chk n b)]]) (Int.toNat 0) 0 = chk n a := rfl; have g1 : List.getD (List.map (fun r => U.int (List.headD r (U.i 0))) [[U.i (chk n a)], [U.i (chk n b)]]) (Int.toNat (IntKind.wrap IntKind.i64 (0 + 1))) 0 = chk n b := rfl; rw [g0, g1] at h
  by_cases z1 : chk n a = 0
  · rw [z1, show ((0 : Int) != 0) = false from rfl, bc_f] at h
    by_cases z2 : chk n b = 0
    · rw [z2, show ((0 : Int) != 0) = false from rfl, bc_f] at h
      have w1 := (chk_wok z1).1; have w2 := (chk_wok z2).1; rw [dt w1, dt w2, encF_len, encF_len, dt ⟨rfl, rfl, nf_small w1⟩] at h; refine fin z1 z2 (h.trans ?_); cases (nfW n.toNat a).pw == (nfW n.toNat b).pw <;> simp only [Nat.add_eq, eqSy_self, eqN_self, bc_same, List.length_cons, ofn, wrap_in, dt, df, bltD, bltN, ble_of, bleN, beqD, bc_t, bc_f, nn_ok, Nat.zero_add, to_nat, Int.zero_add, Int.sub_zero, Int.sub_self, Int.cast_ofNat_Int, Int.natCast_zero, Int.toNat_zero, List.take_zero, List.nil_append, List.length_append, List.length_nil, eqB] <;> rfl
    · rw [show (chk n b != 0) = true by simp [z2], bc_t, bc_t] at h; exact bad z2 (by unfold samE; rw [z1]; rfl) h
  · rw [show (chk n a != 0) = true by simp [z1], bc_t, bc_t] at h; exact bad z1 (by unfold samE; rw [show (chk n a != 0) = true by simp [z1], bc_t]) h
theorem endsN (n : Int) (a : List Int) : EndZ 27 ct false (st0 27 [iv n, il a, .v (.slice none 0 0)]) (.tup [bv (samB n a []), iv (samE n a [])]) [] 0 := by
  have h := nil_t n a; have g0 : List.getD (List.map (fun r => U.int (List.headD r (U.i 0))) [[U.i (chk n a)], [U.i (chk n [])]]) (Int.toNat 0) 0 = chk n a := rfl; have g1 : List.getD (List.map (fun r => U.int (List.headD r (U.i 0))) [[U.i (chk n a)], [U.i (chk n [])]]) (Int.toNat (IntKind.wrap IntKind.i64 (0 + 1))) 0 = chk n [] := rfl; rw [g0, g1] at h
  by_cases z1 : chk n a = 0
  · rw [z1, show ((0 : Int) != 0) = false from rfl, bc_f] at h
    by_cases z2 : chk n [] = 0
    · rw [z2, show ((0 : Int) != 0) = false from rfl, bc_f] at h
      have w1 := (chk_wok z1).1; rw [dt w1, encF_len, dt ⟨rfl, rfl, nf_small w1⟩] at h; refine fin z1 z2 (h.trans ?_); show bc ((nfW n.toNat a).pw == 0) _ _ = bc ((nfW n.toNat a).pw == 0) _ _; cases (nfW n.toNat a).pw == 0 <;> simp only [Nat.add_eq, eqSy_self, eqN_self, bc_same, List.length_cons, ofn, wrap_in, dt, df, bltD, bltN, ble_of, bleN, beqD, bc_t, bc_f, nn_ok, Nat.zero_add, to_nat, Int.zero_add, Int.sub_zero, Int.sub_self, Int.cast_ofNat_Int, Int.natCast_zero, Int.toNat_zero, List.take_zero, List.nil_append, List.length_append, List.length_nil, eqB] <;> rfl
    · rw [show (chk n [] != 0) = true by simp [z2], bc_t, bc_t] at h; exact bad z2 (by unfold samE; rw [z1]; rfl) h
  · rw [show (chk n a != 0) = true by simp [z1], bc_t, bc_t] at h; exact bad z1 (by unfold samE; rw [show (chk n a != 0) = true by simp [z1], bc_t]) h
end PSam
noncomputable def spPSam_0 : ZCT := fun ax => match ax with
  | [.v (.int .i64 n), .lst (.ints .i64 a), .lst (.ints .i64 b)] => some ⟨decide (True), .tup [bv (samB n a b), iv (samE n a b)], [], 0⟩
  | _ => none
theorem spPSam_0_ok : ZCtOk Try.prog 27 spPSam_0 := fun γ w us ax r hs hc hax hN hfz => by
  unfold spPSam_0 at hs; split at hs
  case h_2 => cases hs
  rename_i n a b; obtain ⟨rfl⟩ := Option.some.inj hs; have hc_0 : decide (True) = true := hc; have hc := of_decide_eq_true hc_0; exact EndZ.calls (PSam.ends n a b) PSam.ct_ok (by kernel_rfl) hax hN hfz
noncomputable def spPSam_1 : ZCT := fun ax => match ax with
  | [.v (.int .i64 n), .lst (.ints .i64 a), .v (.slice none 0 0)] => some ⟨decide (True), .tup [bv (samB n a []), iv (samE n a [])], [], 0⟩
  | _ => none
theorem spPSam_1_ok : ZCtOk Try.prog 27 spPSam_1 := fun γ w us ax r hs hc hax hN hfz => by
  unfold spPSam_1 at hs; split at hs
  case h_2 => cases hs
  rename_i n a; obtain ⟨rfl⟩ := Option.some.inj hs; have hc_0 : decide (True) = true := hc; have hc := of_decide_eq_true hc_0; exact EndZ.calls (PSam.endsN n a) PSam.ct_ok (by kernel_rfl) hax hN hfz
noncomputable def spPSam : ZCT := ZCT.or spPSam_0 (spPSam_1)
theorem spPSam_ok : ZCtOk Try.prog 27 spPSam := spPSam_0_ok.or (spPSam_1_ok)
namespace PTri
noncomputable def ct : Tr ZCC := Tr.nil.put 27 (some (dC spPSam))
theorem ct_ok : ZCtsOk Try.prog ct := (ZCtsOk.nil _).add rfl spPSam_ok
noncomputable def RUN (s : ES) : ZF := RZ 33 ct (fun _ => false) [] [] false s
theorem in_t (n : Int) (a : List Int) : RUN (st0 33 [iv n, il a]) = (.done (EV.tup [(EV.v (Value.bool (samB n a []))), (EV.v (Value.int IntKind.i64 (samE n a [])))]) [] 0) := by kernel_rfl
end PTri
noncomputable def spPTri : ZCT := fun ax => match ax with
  | [.v (.int .i64 n), .lst (.ints .i64 a)] => some ⟨decide (True), .tup [bv (samB n a []), iv (samE n a [])], [], 0⟩
  | _ => none
theorem spPTri_ok : ZCtOk Try.prog 33 spPTri := fun γ w us ax r hs hc hax hN hfz => by
  unfold spPTri at hs; split at hs
  case h_2 => cases hs
  rename_i n a; obtain ⟨rfl⟩ := Option.some.inj hs; have hc_0 : decide (True) = true := hc; have hc := of_decide_eq_true hc_0; exact EndZ.calls (.done (PTri.in_t n a)) PTri.ct_ok (by kernel_rfl) hax hN hfz
end Go.Proofs.Ytooimphimnagaaa.Ev
namespace Go.Proofs.Ytooimphimnagaaa.Ev
variable {n : Nat}

def gW : List Int → Nat → Nat
  | [], x => x
  | l :: w, x => gW w (sw l.natAbs x)
theorem gW_app : ∀ (u v : List Int) (x : Nat), gW (u ++ v) x = gW v (gW u x)
  | [], _, _ => rfl
  | l :: u, v, x => gW_app u v (sw l.natAbs x)
theorem sw_ltn {i x : Nat} (hi : 0 < i ∧ i < n) (hx : x < n) : sw i x < n := by
  unfold sw; split
  · omega
  · split <;> omega
theorem Vld.head {x : Int} {w : List Int} (h : Vld n (x :: w)) : 0 < x.natAbs ∧ x.natAbs < n := by
  obtain ⟨h1, h2, h3⟩ := h x List.mem_cons_self; omega
theorem Vld.tail {x : Int} {w : List Int} (h : Vld n (x :: w)) : Vld n w := fun y hy => h y (List.mem_cons_of_mem _ hy)
theorem Vld.app {u v : List Int} (h : Vld n u) (k : Vld n v) : Vld n (u ++ v) := fun x hx => by
  rcases List.mem_append.1 hx with e | e
  · exact h x e
  · exact k x e
theorem gW_lt : ∀ {w : List Int}, Vld n w → ∀ {x : Nat}, x < n → gW w x < n
  | [], _, _, hx => hx
  | _ :: _, h, _, hx => gW_lt h.tail (sw_ltn h.head hx)
noncomputable def prmL (n : Nat) (w : List Int) : List Int := (List.range n).map fun x => ((gW w x : Nat) : Int)
theorem prmL_len (n : Nat) (w : List Int) : (prmL n w).length = n := by unfold prmL; rw [List.length_map, List.length_range]

def SmL (l : List Int) : Prop := ∀ x, x ∈ l → -1000 ≤ x ∧ x ≤ 1000
noncomputable instance (l : List Int) : Decidable (SmL l) := Classical.propDecidable _
theorem Vld.small (hn : n ≤ 1000) {w : List Int} (h : Vld n w) : SmL w := fun x hx => by
  obtain ⟨_, h2, h3⟩ := h x hx; omega

def lowL (x : Int) : Int := if x < 0 then x + 1 else x - 1
theorem lowL_abs {x : Int} (h : 0 < x.natAbs) : (lowL x).natAbs = x.natAbs - 1 := by unfold lowL; split <;> omega

def oth : Nat → List Int → List Int × Nat
  | p, [] => ([], p)
  | p, x :: w => if p + 1 = x.natAbs ∨ p = x.natAbs then oth (sw x.natAbs p) w else if p < x.natAbs then (lowL x :: (oth p w).1, (oth p w).2) else (x :: (oth p w).1, (oth p w).2)
theorem oth_cons (p : Nat) (x : Int) (w : List Int) : oth p (x :: w) = if p + 1 = x.natAbs ∨ p = x.natAbs then oth (sw x.natAbs p) w else if p < x.natAbs then (lowL x :: (oth p w).1, (oth p w).2) else (x :: (oth p w).1, (oth p w).2) := rfl
theorem oth_at : ∀ (w : List Int) (p : Nat), (oth p w).2 = gW w p
  | [], _ => rfl
  | x :: w, p => by
    rw [oth_cons]; show _ = gW w (sw x.natAbs p); split
    · exact oth_at w _
    · rename_i h; have e : sw x.natAbs p = p := Pm.sw_ne (by omega) (by omega); rw [e]; split
      · exact oth_at w p
      · exact oth_at w p
theorem oth_len : ∀ (w : List Int) (p : Nat), (oth p w).1.length ≤ w.length
  | [], _ => Nat.le_refl _
  | x :: w, p => by
    rw [oth_cons]; split
    · have := oth_len w (sw x.natAbs p); simp only [List.length_cons]; omega
    · split
      · have := oth_len w p; simp only [List.length_cons]; omega
      · have := oth_len w p; simp only [List.length_cons]; omega
theorem oth_vld : ∀ {w : List Int} {p : Nat}, Vld n w → p < n → Vld (n - 1) (oth p w).1
  | [], _, _, _ => fun x hx => by cases hx
  | x :: w, p, h, hp => by
    have hx := h.head; rw [oth_cons]; split
    · exact oth_vld h.tail (sw_ltn hx hp)
    · rename_i h1; split
      · rename_i h2; refine fun y hy => ?_; rcases List.mem_cons.1 hy with e | e
        · subst e; unfold lowL; split <;> omega
        · exact oth_vld h.tail hp y e
      · refine fun y hy => ?_; rcases List.mem_cons.1 hy with e | e
        · subst e; omega
        · exact oth_vld h.tail hp y e

def skp (p y : Nat) : Nat := if y < p then y else y + 1
theorem gW_skp : ∀ {w : List Int} {p : Nat}, Vld n w → p < n → ∀ y, gW w (skp p y) = skp (gW w p) (gW (oth p w).1 y)
  | [], _, _, _, _ => rfl
  | x :: w, p, h, hp, y => by
    have hx := h.head; show gW w (sw x.natAbs (skp p y)) = skp (gW w (sw x.natAbs p)) _; rw [oth_cons]; split
    · rename_i h1; rw [← gW_skp h.tail (sw_ltn hx hp) y]; congr 1; unfold skp sw
      repeat' split
      all_goals omega
    · rename_i h1; have e : sw x.natAbs p = p := Pm.sw_ne (by omega) (by omega); rw [e]; split
      · rename_i h2; show _ = skp (gW w p) (gW (oth p w).1 (sw (lowL x).natAbs y)); rw [← gW_skp h.tail hp, lowL_abs hx.1]; congr 1; unfold skp sw
        repeat' split
        all_goals omega
      · show _ = skp (gW w p) (gW (oth p w).1 (sw x.natAbs y)); rw [← gW_skp h.tail hp]; congr 1; unfold skp sw
        repeat' split
        all_goals omega

def upW (s : Int) (a : Nat) : Nat → List Int
  | 0 => []
  | d + 1 => s * ((a + 1 : Nat) : Int) :: upW s (a + 1) d

def dnW (s : Int) (a : Nat) : Nat → List Int
  | 0 => []
  | d + 1 => s * ((a + d + 1 : Nat) : Int) :: dnW s a d
theorem upW_len (s : Int) : ∀ (d a : Nat), (upW s a d).length = d
  | 0, _ => rfl
  | d + 1, a => by show (upW s (a + 1) d).length + 1 = _; rw [upW_len s d]
theorem dnW_len (s : Int) (a : Nat) : ∀ d : Nat, (dnW s a d).length = d
  | 0 => rfl
  | d + 1 => by show (dnW s a d).length + 1 = _; rw [dnW_len s a d]
theorem abs_sgn {s : Int} (hs : s = 1 ∨ s = -1) (k : Nat) : (s * (k : Int)).natAbs = k := by
  rcases hs with h | h <;> subst h <;> omega
theorem vld_sgn {s : Int} (hs : s = 1 ∨ s = -1) {k : Nat} (h1 : 0 < k) (h2 : k < n) : s * (k : Int) ≠ 0 ∧ -(n : Int) < s * (k : Int) ∧ s * (k : Int) < n := by
  rcases hs with h | h <;> subst h <;> omega
theorem upW_vld {s : Int} (hs : s = 1 ∨ s = -1) : ∀ (d a : Nat), a + d < n → Vld n (upW s a d)
  | 0, _, _ => fun x hx => by cases hx
  | d + 1, a, h => fun x hx => by
    rcases List.mem_cons.1 hx with e | e
    · subst e; exact vld_sgn hs (by omega) (by omega)
    · exact upW_vld hs d (a + 1) (by omega) x e
theorem dnW_vld {s : Int} (hs : s = 1 ∨ s = -1) (a : Nat) : ∀ d : Nat, a + d < n → Vld n (dnW s a d)
  | 0, _ => fun x hx => by cases hx
  | d + 1, h => fun x hx => by
    rcases List.mem_cons.1 hx with e | e
    · subst e; exact vld_sgn hs (by omega) (by omega)
    · exact dnW_vld hs a d (by omega) x e
theorem upW_g {s : Int} (hs : s = 1 ∨ s = -1) : ∀ (d a : Nat), gW (upW s a d) a = a + d ∧ ∀ y, gW (upW s a d) (skp a y) = if y < a + d then y else y + 1
  | 0, a => ⟨rfl, fun y => rfl⟩
  | d + 1, a => by
    obtain ⟨h1, h2⟩ := upW_g hs d (a + 1); refine ⟨?_, fun y => ?_⟩
    · show gW (upW s (a + 1) d) (sw (s * ((a + 1 : Nat) : Int)).natAbs a) = _; rw [abs_sgn hs, show sw (a + 1) a = a + 1 by unfold sw; rw [if_neg (by omega), if_pos rfl], h1]; omega
    · show gW (upW s (a + 1) d) (sw (s * ((a + 1 : Nat) : Int)).natAbs (skp a y)) = _; rw [abs_sgn hs]; have e : sw (a + 1) (skp a y) = skp (a + 1) y := by
        unfold skp sw
        repeat' split
        all_goals omega
      rw [e, h2, show a + 1 + d = a + (d + 1) by omega]
theorem dnW_g {s : Int} (hs : s = 1 ∨ s = -1) (a : Nat) : ∀ d : Nat, gW (dnW s a d) (a + d) = a ∧ ∀ y, gW (dnW s a d) (skp (a + d) y) = skp a y
  | 0 => ⟨rfl, fun y => rfl⟩
  | d + 1 => by
    obtain ⟨h1, h2⟩ := dnW_g hs a d; refine ⟨?_, fun y => ?_⟩
    · show gW (dnW s a d) (sw (s * ((a + d + 1 : Nat) : Int)).natAbs (a + (d + 1))) = _; rw [abs_sgn hs, show sw (a + d + 1) (a + (d + 1)) = a + d by unfold sw; rw [if_pos (by omega)]; omega, h1]
    · show gW (dnW s a d) (sw (s * ((a + d + 1 : Nat) : Int)).natAbs (skp (a + (d + 1)) y)) = _; rw [abs_sgn hs]; have e : sw (a + d + 1) (skp (a + (d + 1)) y) = skp (a + d) y := by
        unfold skp sw
        repeat' split
        all_goals omega
      rw [e, h2]

def layW (n : Nat) (w : List Int) (p : Nat) (s : Int) : List Int := upW s p (n - 1 - p) ++ (oth p w).1 ++ dnW (-s) (oth p w).2 (n - 1 - (oth p w).2)
theorem neg_sgn {s : Int} (hs : s = 1 ∨ s = -1) : -s = 1 ∨ -s = -1 := by omega
theorem vld_more {m : Nat} (h : m ≤ n) {w : List Int} (hv : Vld m w) : Vld n w := fun x hx => by
  obtain ⟨h1, h2, h3⟩ := hv x hx; omega
theorem layW_vld {w : List Int} {p : Nat} {s : Int} (hs : s = 1 ∨ s = -1) (h : Vld n w) (hp : p < n) : Vld n (layW n w p s) := by
  have h1 := gW_lt h hp; rw [← oth_at] at h1; exact ((upW_vld hs _ _ (by omega)).app (vld_more (by omega) (oth_vld h hp))).app (dnW_vld (neg_sgn hs) _ _ (by omega))
theorem gW_top : ∀ {w : List Int}, Vld (n - 1) w → gW w (n - 1) = n - 1
  | [], _ => rfl
  | x :: w, h => by
    have hx := h.head; show gW w (sw x.natAbs (n - 1)) = _; rw [Pm.sw_ne (by omega) (by omega)]; exact gW_top h.tail
theorem layW_g {w : List Int} {p : Nat} {s : Int} (hs : s = 1 ∨ s = -1) (h : Vld n w) (hp : p < n) (x : Nat) (hx : x < n) : gW (layW n w p s) x = gW w x := by
  have h1 := gW_lt h hp; rw [← oth_at] at h1; obtain ⟨u1, u2⟩ := upW_g hs (n - 1 - p) p; obtain ⟨d1, d2⟩ := dnW_g (neg_sgn hs) (oth p w).2 (n - 1 - (oth p w).2); have hm := oth_vld h hp; unfold layW; rw [gW_app, gW_app]
  by_cases e : x = p
  · subst e; rw [u1, show x + (n - 1 - x) = n - 1 by omega, gW_top hm]; rw [show (oth x w).2 + (n - 1 - (oth x w).2) = n - 1 by omega] at d1; rw [d1, oth_at]
  · obtain ⟨y, hy, hy2⟩ : ∃ y, x = skp p y ∧ y < n - 1 := by
      by_cases h2 : x < p
      · exact ⟨x, by unfold skp; rw [if_pos h2], by omega⟩
      · exact ⟨x - 1, by unfold skp; rw [if_neg (by omega)]; omega, by omega⟩
    subst hy; have h3 := gW_lt hm hy2; rw [u2, if_pos (by omega), gW_skp h hp, ← oth_at w p]; have e2 : skp (n - 1) (gW (oth p w).1 y) = gW (oth p w).1 y := by unfold skp; rw [if_pos h3]
    rw [show (oth p w).2 + (n - 1 - (oth p w).2) = n - 1 by omega] at d2; have d3 := d2 (gW (oth p w).1 y); rw [e2] at d3; exact d3
theorem oth_app : ∀ (u v : List Int) (p : Nat), oth p (u ++ v) = ((oth p u).1 ++ (oth (oth p u).2 v).1, (oth (oth p u).2 v).2)
  | [], v, p => rfl
  | x :: u, v, p => by
    rw [List.cons_append, oth_cons, oth_cons]; split
    · exact oth_app u v _
    · split
      · rw [oth_app u v p]; rfl
      · rw [oth_app u v p]; rfl
theorem oth_up {s : Int} (hs : s = 1 ∨ s = -1) : ∀ (d a : Nat), oth a (upW s a d) = ([], a + d)
  | 0, a => rfl
  | d + 1, a => by
    unfold upW; rw [oth_cons, abs_sgn hs, if_pos (.inl rfl), show sw (a + 1) a = a + 1 by unfold sw; rw [if_neg (by omega), if_pos rfl], oth_up hs d (a + 1), show a + 1 + d = a + (d + 1) by omega]
theorem oth_dn {s : Int} (hs : s = 1 ∨ s = -1) (a : Nat) : ∀ d : Nat, oth (a + d) (dnW s a d) = ([], a)
  | 0 => rfl
  | d + 1 => by
    unfold dnW; rw [oth_cons, abs_sgn hs, if_pos (.inr (by omega)), show sw (a + d + 1) (a + (d + 1)) = a + d by unfold sw; rw [if_pos (by omega)]; omega, oth_dn hs a d]
theorem oth_top : ∀ {w : List Int}, Vld (n - 1) w → oth (n - 1) w = (w, n - 1)
  | [], _ => rfl
  | x :: w, h => by
    have hx := h.head; rw [oth_cons]; rw [if_neg (by omega), if_neg (by omega), oth_top h.tail]
theorem oth_lay {w : List Int} {p : Nat} {s : Int} (hs : s = 1 ∨ s = -1) (h : Vld n w) (hp : p < n) : (oth p (layW n w p s)).1 = (oth p w).1 := by
  have h1 := gW_lt h hp; rw [← oth_at] at h1; have hm := oth_vld h hp; have hu := oth_up hs (n - 1 - p) p; rw [show p + (n - 1 - p) = n - 1 by omega] at hu; have hd := oth_dn (neg_sgn hs) (oth p w).2 (n - 1 - (oth p w).2); rw [show (oth p w).2 + (n - 1 - (oth p w).2) = n - 1 by omega] at hd; unfold layW; rw [oth_app, oth_app, hu]; show ([] ++ (oth (n - 1) (oth p w).1).1 ++ (oth (oth (n - 1) (oth p w).1).2 _).1) = _; rw [oth_top hm, hd, List.nil_append, List.append_nil]

def invW (w : List Int) : List Int := (w.map fun x => -x).reverse
theorem invW_len (w : List Int) : (invW w).length = w.length := by unfold invW; rw [List.length_reverse, List.length_map]
theorem invW_vld {w : List Int} (h : Vld n w) : Vld n (invW w) := fun x hx => by
  unfold invW at hx; rw [List.mem_reverse] at hx; obtain ⟨y, hy, rfl⟩ := List.mem_map.1 hx; obtain ⟨h1, h2, h3⟩ := h y hy; omega
theorem invW_invW (w : List Int) : invW (invW w) = w := by
  unfold invW; rw [List.map_reverse, List.reverse_reverse, List.map_map]; refine (List.map_congr_left (g := id) fun x _ => ?_).trans (List.map_id _); show - -x = x; omega
theorem E.cancel (hn : 2 ≤ n) {x : Int} (hx : 0 < x.natAbs ∧ x.natAbs < n) (s : Int × List (Pm n)) : E (stepW (stepW s x) (-x)) s := by
  rcases Int.lt_or_le x 0 with h | h
  · obtain ⟨k, hk⟩ := Int.eq_ofNat_of_zero_le (show 0 ≤ -x by omega); have e : x = -(k : Int) := by omega
    subst e; rw [show - -(k : Int) = (k : Int) by omega]; exact E.negpos hn s (by omega)
  · obtain ⟨k, rfl⟩ := Int.eq_ofNat_of_zero_le h; exact E.posneg hn s (by omega)
theorem E.inv (hn : 2 ≤ n) : ∀ {w : List Int}, Vld n w → ∀ s : Int × List (Pm n), E ((w ++ invW w).foldl stepW s) s
  | [], _, s => E.refl s
  | x :: w, h, s => by
    have e : (x :: w) ++ invW (x :: w) = x :: ((w ++ invW w) ++ [-x]) := by
      unfold invW; rw [List.map_cons, List.reverse_cons, List.cons_append, List.append_assoc]
    rw [e, List.foldl_cons, List.foldl_append]; show E (stepW ((w ++ invW w).foldl stepW (stepW s x)) (-x)) s; exact ((E.inv hn h.tail (stepW s x)).step (-x)).trans hn (E.cancel hn h.head s)
theorem nf_of_E (hn : 2 ≤ n) {u v : List Int} (h : E (rowW n u) (rowW n v)) : nfW n u = nfW n v := (frm_E hn (nfW_rep n u) (nfW_rep n v)).1 h
theorem nf_inv {w : List Int} (h : Vld n w) : nfW n (w ++ invW w) = nfW n [] := by
  by_cases hn : 2 ≤ n
  · exact nf_of_E hn (E.inv hn h (0, []))
  · have : w = [] := by
      cases w with
      | nil => rfl
      | cons x w => have := h.head; omega
    subst this; rfl
theorem nf_inv2 {w : List Int} (h : Vld n w) : nfW n (invW w ++ w) = nfW n [] := by
  have := nf_inv (invW_vld h)
  rwa [invW_invW] at this
end Go.Proofs.Ytooimphimnagaaa.Ev
namespace Go.Proofs.Ytooimphimnagaaa.Ev
open Go.Proofs

noncomputable abbrev resL (e : Int) (l : List Int) : EV := .tup [il (bc (e != 0) [] l), iv e]
theorem resL_err {e : Int} (l : List Int) (h : e ≠ 0) : Weak (.tup [.v (.slice none 0 0), iv e]) (resL e l) := by
  unfold resL; rw [show (e != 0) = true by simp [h], bc_t]; exact Weak.tup (.cons (Weak.nilI _) (.cons (Weak.refl _) .nil))
theorem resL_ok {e : Int} (l : List Int) (h : e = 0) : resL e l = .tup [il l, iv 0] := by
  subst h; rfl
namespace PUnd
noncomputable def RUN (s : ES) : ZF := RZ 99 .nil (atS 1 145 1) [3] [[(0,none),(1,none),(3,none)],[(3,some (1, 3, .ints .i64 []))]] false s

noncomputable def sV (p q : List Int) (nn : Bool) (i : Int) : NS := ⟨[⟨145, 19, [(0, (EV.yl 0)), (1, (EV.ptr 1 0)), (3, iv i)], [.it (.code (nav [1, 0, 0, 0] (bodyOf Try.f145))), .it (.code (nav [1, 0, 0, 1] (bodyOf Try.f145))), .it (.inLoop (nav [1, 0, 0] (bodyOf Try.f145))), .it (.inBlock 0)], [], Option.none⟩, ⟨99, 19, [(3, (EV.ptr 2 0))], [(.inRF 0), .it (.inBlock 0), .it (.code (nav [1, 1, 1] (bodyOf Try.f99)))], [(DE.mk 3)], Option.none⟩], [(0, (EK.loop LoopState.ready Option.none 99 19 (Tr.node Option.none Tr.nil (Tr.node Option.none Tr.nil (Tr.node (Option.some (EV.ptr 2 0)) Tr.nil Tr.nil))) (Array.mk [11, 12]) (nav [1, 1, 0, 1, 0, 0] (bodyOf Try.f99)) (nav [1, 1, 0, 1, 0, 1] (bodyOf Try.f99)) 3)), (1, (EK.cells 22 [(EV.lst (SyC.ints IntKind.i64 (p)))] true)), (2, EK.cells 22 [EV.slO 4 1 q.length nn] true), (3, (EK.dfr true)), (4, EK.seq 3 (.ints .i64 q) nn)], 5⟩
theorem in_t (p : List Int) : RUN (st0 99 [il p]) = (bc (decide (Int.ofNat (List.length p) ≤ (65536 : Int))) (.at (sV (p) (zerosL (Int.toNat (0 : Int))) (true) (IntKind.wrap IntKind.i64 (Int.ofNat (List.length p) - (1 : Int))))) .bad) := by kernel_rfl
theorem step_t (p q : List Int) (nn : Bool) (i : Int) : RUN (stOf (sV p q nn i)) = (bc (decide ((0 : Int) ≤ i)) (bc (bc (bc (decide ((0 : Int) ≤ i)) (Nat.blt (Int.toNat i) (List.length p)) false) true false) (bc (bc (Nat.blt (Int.toNat i) (List.length p)) true false) (bc (bc (Nat.beq (List.length q) (List.length q)) (bc (Nat.ble (List.length q + List.length (List.map (fun r => U.int (List.headD r (U.i (0 : Int)))) [[U.i (IntKind.wrap IntKind.i64 ((0 : Int) - List.getD p (Int.toNat i) (0 : Int)))]])) (65536 : Nat)) (bc nn true (bc nn false true)) false) false) (.at (sV (p) (q ++ List.map (fun r => U.int (List.headD r (U.i (0 : Int)))) [[U.i (IntKind.wrap IntKind.i64 ((0 : Int) - List.getD p (Int.toNat i) (0 : Int)))]]) (bc nn true (Nat.blt (0 : Nat) (List.length (List.map (fun r => U.int (List.headD r (U.i (0 : Int)))) [[U.i (IntKind.wrap IntKind.i64 ((0 : Int) - List.getD p (Int.toNat i) (0 : Int)))]])))) (IntKind.wrap IntKind.i64 (i - (1 : Int))))) .bad) .bad) .bad) (bc (Nat.beq (List.length q) (List.length q)) (.done (EV.lst (SyC.ints IntKind.i64 (q))) [] 0) .bad)) := by kernel_rfl
theorem step {l q : List Int} {i : Nat} (hi : i < l.length) (hl : l.length ≤ 2000) (hq : q.length + i < l.length) (hx : SmL l) : RUN (stOf (sV l q true i)) = .at (sV l (q ++ [- l.getD i 0]) true ((i : Int) - 1)) := by
  rw [step_t]; have h1 := hx (l.getD i 0) (by rw [getD_at hi]; exact List.getElem_mem hi); simp (disch := omega) only [Nat.add_eq, eqSy_self, eqN_self, bc_same, List.length_cons, ofn, wrap_in, dt, df, bltD, bltN, ble_of, bleN, beqD, bc_t, bc_f, nn_ok, Nat.zero_add, to_nat, Int.zero_add, Int.sub_zero, Int.sub_self, Int.cast_ofNat_Int, Int.natCast_zero, Int.toNat_zero, List.take_zero, List.nil_append, List.length_append, List.length_nil, List.map_cons, List.map_nil, Int.zero_sub]; rfl
theorem last {l q : List Int} : RUN (stOf (sV l q true (-1))) = .done (il q) [] 0 := by
  rw [step_t]; simp (disch := omega) only [Nat.add_eq, eqSy_self, eqN_self, bc_same, List.length_cons, ofn, wrap_in, dt, df, bltD, bltN, ble_of, bleN, beqD, bc_t, bc_f, nn_ok, Nat.zero_add, to_nat, Int.zero_add, Int.sub_zero, Int.sub_self, Int.cast_ofNat_Int, Int.natCast_zero, Int.toNat_zero, List.take_zero, List.nil_append, List.length_append, List.length_nil]
theorem loop {l : List Int} (hl : l.length ≤ 2000) (hx : SmL l) : ∀ (i : Nat) (q : List Int), i ≤ l.length → q.length + i ≤ l.length → EndZ 99 .nil false (stOf (sV l q true ((i : Int) - 1))) (il (q ++ invW (l.take i))) [] 0
  | 0, q, hi, h => by
    rw [List.take_zero, show invW [] = [] from rfl, List.append_nil]
    exact .done last
  | i + 1, q, hi, h => by
    have h1 := step (q := q) (show i < l.length by omega) hl (by omega) hx; rw [show (((i + 1 : Nat) : Int) - 1) = (i : Int) by omega]; have h2 := loop hl hx i (q ++ [- l.getD i 0]) (by omega) (by simp; omega); rw [getD_at (show i < l.length by omega)] at h2 h1; have e : q ++ invW (l.take (i + 1)) = (q ++ [-l[i]]) ++ invW (l.take i) := by
      unfold invW; rw [List.take_succ_eq_append_getElem (show i < l.length by omega), List.map_append, List.reverse_append, List.append_assoc]; rfl
    rw [e]; exact .at (.nil _) h1 h2
end PUnd
noncomputable def spPUnd : ZCT := fun ax => match ax with
  | [.lst (.ints .i64 l)] => some ⟨decide (l.length ≤ 2000 ∧ SmL l), il (invW l), [], 0⟩
  | _ => none
theorem spPUnd_ok : ZCtOk Try.prog 99 spPUnd := fun γ w us ax r hs hc hax hN hfz => by
  unfold spPUnd at hs; split at hs
  case h_2 => cases hs
  rename_i l; obtain ⟨rfl⟩ := Option.some.inj hs; have hc_0 : decide (l.length ≤ 2000 ∧ SmL l) = true := hc; have hc := of_decide_eq_true hc_0; exact EndZ.calls (by
    have h := PUnd.in_t l; rw [dt (show Int.ofNat l.length ≤ 65536 by rw [ofn]; omega), bc_t, ofn, wrap_in _ (by omega) (by omega)] at h; have h2 := PUnd.loop hc.1 hc.2 l.length [] (Nat.le_refl _) (by simp); rw [List.take_length, List.nil_append] at h2; exact .at (.nil _) h h2) (.nil _) (by kernel_rfl) hax hN hfz
namespace PIvr
noncomputable def ct : Tr ZCC := (Tr.nil.put 83 (some (dC spPChk))).put 99 (some (dC spPUnd))
theorem ct_ok : ZCtsOk Try.prog ct := ((ZCtsOk.nil _).add rfl spPChk_ok).add rfl spPUnd_ok
noncomputable def RUN (s : ES) : ZF := RZ 56 ct (fun _ => false) [] [] false s
theorem in_t (n : Int) (a : List Int) : RUN (st0 56 [iv n, il a]) = (bc (chk n a != (0 : Int)) (.done (EV.tup [(EV.v (Value.slice Option.none 0 0)), (EV.v (Value.int IntKind.i64 (chk n a)))]) [] 0) (bc (decide (List.length a ≤ (2000 : Nat) ∧ SmL a)) (.done (EV.tup [(EV.lst (SyC.ints IntKind.i64 (invW a))), (EV.v (Value.int IntKind.i64 (0)))]) [] 0) .bad)) := by kernel_rfl
theorem ends (n : Int) (a : List Int) : EndZ 56 ct false (st0 56 [iv n, il a]) (resL (chk n a) (invW a)) [] 0 := by
  have h := in_t n a
  by_cases z : chk n a = 0
  · obtain ⟨⟨_, w1, w2, w3⟩, _⟩ := chk_wok z; rw [z, show ((0 : Int) != 0) = false from rfl, bc_f, dt ⟨w2, w3.small (by omega)⟩, bc_t] at h
    rw [resL_ok _ z]; exact .done h
  · rw [show (chk n a != 0) = true by simp [z], bc_t] at h; exact (EndZ.done h).weak (resL_err _ z)
end PIvr
noncomputable def spPIvr : ZCT := fun ax => match ax with
  | [.v (.int .i64 n), .lst (.ints .i64 a)] => some ⟨decide (True), resL (chk n a) (invW a), [], 0⟩
  | _ => none
theorem spPIvr_ok : ZCtOk Try.prog 56 spPIvr := fun γ w us ax r hs hc hax hN hfz => by
  unfold spPIvr at hs; split at hs
  case h_2 => cases hs
  rename_i n a; obtain ⟨rfl⟩ := Option.some.inj hs; have hc_0 : decide (True) = true := hc; have hc := of_decide_eq_true hc_0; exact EndZ.calls (PIvr.ends n a) PIvr.ct_ok (by kernel_rfl) hax hN hfz

noncomputable def rl (l : List (List U)) : List Int := l.map fun r => U.int (r.headD (U.i 0))
theorem rl_of (l : List Int) : rl (l.map fun x => [U.i x]) = l := by
  unfold rl; rw [List.map_map]; exact (List.map_congr_left fun x _ => rfl).trans (List.map_id l)
namespace PCat
noncomputable def RUN (s : ES) : ZF := RZ 100 .nil (fun _ => false) [] [] false s
theorem in_t (l k : List (List U)) : RUN (st0 100 [.lst (.recs [.list [.int .i64]] [[.l l], [.l k]])]) = (bc (decide (IntKind.wrap IntKind.i64 ((0 : Int) + Int.ofNat (List.length (List.map (fun r => U.int (List.headD r (U.i (0 : Int)))) (U.list (List.getD (List.getD [[U.l l], [U.l k]] (Int.toNat (0 : Int)) []) (0 : Nat) (U.i (0 : Int))))))) < (0 : Int))) .bad (bc (decide (IntKind.wrap IntKind.i64 (IntKind.wrap IntKind.i64 ((0 : Int) + Int.ofNat (List.length (List.map (fun r => U.int (List.headD r (U.i (0 : Int)))) (U.list (List.getD (List.getD [[U.l l], [U.l k]] (Int.toNat (0 : Int)) []) (0 : Nat) (U.i (0 : Int))))))) + Int.ofNat (List.length (List.map (fun r => U.int (List.headD r (U.i (0 : Int)))) (U.list (List.getD (List.getD [[U.l l], [U.l k]] (Int.toNat (IntKind.wrap IntKind.i64 ((0 : Int) + (1 : Int)))) []) (0 : Nat) (U.i (0 : Int))))))) < (0 : Int))) .bad (bc (decide (IntKind.wrap IntKind.i64 (IntKind.wrap IntKind.i64 ((0 : Int) + Int.ofNat (List.length (List.map (fun r => U.int (List.headD r (U.i (0 : Int)))) (U.list (List.getD (List.getD [[U.l l], [U.l k]] (Int.toNat (0 : Int)) []) (0 : Nat) (U.i (0 : Int))))))) + Int.ofNat (List.length (List.map (fun r => U.int (List.headD r (U.i (0 : Int)))) (U.list (List.getD (List.getD [[U.l l], [U.l k]] (Int.toNat (IntKind.wrap IntKind.i64 ((0 : Int) + (1 : Int)))) []) (0 : Nat) (U.i (0 : Int))))))) < (0 : Int))) .bad (bc (decide ((0 : Int) < IntKind.wrap IntKind.i64 (IntKind.wrap IntKind.i64 (IntKind.wrap IntKind.i64 ((0 : Int) + Int.ofNat (List.length (List.map (fun r => U.int (List.headD r (U.i (0 : Int)))) (U.list (List.getD (List.getD [[U.l l], [U.l k]] (Int.toNat (0 : Int)) []) (0 : Nat) (U.i (0 : Int))))))) + Int.ofNat (List.length (List.map (fun r => U.int (List.headD r (U.i (0 : Int)))) (U.list (List.getD (List.getD [[U.l l], [U.l k]] (Int.toNat (IntKind.wrap IntKind.i64 ((0 : Int) + (1 : Int)))) []) (0 : Nat) (U.i (0 : Int))))))) - IntKind.wrap IntKind.i64 ((Nat.cast (0 : Nat) : Int) - (Nat.cast (0 : Nat) : Int))))) (bc (bc (decide ((0 : Int) < IntKind.wrap IntKind.i64 (IntKind.wrap IntKind.i64 (IntKind.wrap IntKind.i64 ((0 : Int) + Int.ofNat (List.length (List.map (fun r => U.int (List.headD r (U.i (0 : Int)))) (U.list (List.getD (List.getD [[U.l l], [U.l k]] (Int.toNat (0 : Int)) []) (0 : Nat) (U.i (0 : Int))))))) + Int.ofNat (List.length (List.map (fun r => U.int (List.headD r (U.i (0 : Int)))) (U.list (List.getD (List.getD [[U.l l], [U.l k]] (Int.toNat (IntKind.wrap IntKind.i64 ((0 : Int) + (1 : Int)))) []) (0 : Nat) (U.i (0 : Int))))))) - IntKind.wrap IntKind.i64 ((Nat.cast (0 : Nat) : Int) - (Nat.cast (0 : Nat) : Int))))) (decide (IntKind.wrap IntKind.i64 (IntKind.wrap IntKind.i64 (IntKind.wrap IntKind.i64 ((0 : Int) + Int.ofNat (List.length (List.map (fun r => U.int (List.headD r (U.i (0 : Int)))) (U.list (List.getD (List.getD [[U.l l], [U.l k]] (Int.toNat (0 : Int)) []) (0 : Nat) (U.i (0 : Int))))))) + Int.ofNat (List.length (List.map (fun r => U.int (List.headD r (U.i (0 : Int)))) (U.list (List.getD (List.getD [[U.l l], [U.l k]] (Int.toNat (IntKind.wrap IntKind.i64 ((0 : Int) + (1 : Int)))) []) (0 : Nat) (U.i (0 : Int))))))) - IntKind.wrap IntKind.i64 ((Nat.cast (0 : Nat) : Int) - (Nat.cast (0 : Nat) : Int))) ≤ (4096 : Int))) false) (bc (Nat.beq (Int.toNat (IntKind.wrap IntKind.i64 (IntKind.wrap IntKind.i64 (IntKind.wrap IntKind.i64 ((0 : Int) + Int.ofNat (List.length (List.map (fun r => U.int (List.headD r (U.i (0 : Int)))) (U.list (List.getD (List.getD [[U.l l], [U.l k]] (Int.toNat (0 : Int)) []) (0 : Nat) (U.i (0 : Int))))))) + Int.ofNat (List.length (List.map (fun r => U.int (List.headD r (U.i (0 : Int)))) (U.list (List.getD (List.getD [[U.l l], [U.l k]] (Int.toNat (IntKind.wrap IntKind.i64 ((0 : Int) + (1 : Int)))) []) (0 : Nat) (U.i (0 : Int))))))) - IntKind.wrap IntKind.i64 ((Nat.cast (0 : Nat) : Int) - (Nat.cast (0 : Nat) : Int))))) (List.length (List.map (fun r => U.int (List.headD r (U.i (0 : Int)))) (List.replicate (Int.toNat (IntKind.wrap IntKind.i64 (IntKind.wrap IntKind.i64 (IntKind.wrap IntKind.i64 ((0 : Int) + Int.ofNat (List.length (List.map (fun r => U.int (List.headD r (U.i (0 : Int)))) (U.list (List.getD (List.getD [[U.l l], [U.l k]] (Int.toNat (0 : Int)) []) (0 : Nat) (U.i (0 : Int))))))) + Int.ofNat (List.length (List.map (fun r => U.int (List.headD r (U.i (0 : Int)))) (U.list (List.getD (List.getD [[U.l l], [U.l k]] (Int.toNat (IntKind.wrap IntKind.i64 ((0 : Int) + (1 : Int)))) []) (0 : Nat) (U.i (0 : Int))))))) - IntKind.wrap IntKind.i64 ((Nat.cast (0 : Nat) : Int) - (Nat.cast (0 : Nat) : Int))))) [U.i (0 : Int)])))) (bc (bc (Nat.ble (List.length (List.take (Int.toNat (Nat.cast (0 : Nat) : Int)) (List.map (fun r => U.int (List.headD r (U.i (0 : Int)))) (List.replicate (Int.toNat (IntKind.wrap IntKind.i64 (IntKind.wrap IntKind.i64 (IntKind.wrap IntKind.i64 ((0 : Int) + Int.ofNat (List.length (List.map (fun r => U.int (List.headD r (U.i (0 : Int)))) (U.list (List.getD (List.getD [[U.l l], [U.l k]] (Int.toNat (0 : Int)) []) (0 : Nat) (U.i (0 : Int))))))) + Int.ofNat (List.length (List.map (fun r => U.int (List.headD r (U.i (0 : Int)))) (U.list (List.getD (List.getD [[U.l l], [U.l k]] (Int.toNat (IntKind.wrap IntKind.i64 ((0 : Int) + (1 : Int)))) []) (0 : Nat) (U.i (0 : Int))))))) - IntKind.wrap IntKind.i64 ((Nat.cast (0 : Nat) : Int) - (Nat.cast (0 : Nat) : Int))))) [U.i (0 : Int)]))) + List.length (List.map (fun r => U.int (List.headD r (U.i (0 : Int)))) (U.list (List.getD (List.getD [[U.l l], [U.l k]] (Int.toNat (0 : Int)) []) (0 : Nat) (U.i (0 : Int)))))) (65536 : Nat)) true false) (bc (bc (Nat.beq (List.length (List.take (Int.toNat (Nat.cast (0 : Nat) : Int)) (List.map (fun r => U.int (List.headD r (U.i (0 : Int)))) (List.replicate (Int.toNat (IntKind.wrap IntKind.i64 (IntKind.wrap IntKind.i64 (IntKind.wrap IntKind.i64 ((0 : Int) + Int.ofNat (List.length (List.map (fun r => U.int (List.headD r (U.i (0 : Int)))) (U.list (List.getD (List.getD [[U.l l], [U.l k]] (Int.toNat (0 : Int)) []) (0 : Nat) (U.i (0 : Int))))))) + Int.ofNat (List.length (List.map (fun r => U.int (List.headD r (U.i (0 : Int)))) (U.list (List.getD (List.getD [[U.l l], [U.l k]] (Int.toNat (IntKind.wrap IntKind.i64 ((0 : Int) + (1 : Int)))) []) (0 : Nat) (U.i (0 : Int))))))) - IntKind.wrap IntKind.i64 ((Nat.cast (0 : Nat) : Int) - (Nat.cast (0 : Nat) : Int))))) [U.i (0 : Int)])) ++ List.map (fun r => U.int (List.headD r (U.i (0 : Int)))) (U.list (List.getD (List.getD [[U.l l], [U.l k]] (Int.toNat (0 : Int)) []) (0 : Nat) (U.i (0 : Int)))))) (List.length (List.take (Int.toNat (Nat.cast (0 : Nat) : Int)) (List.map (fun r => U.int (List.headD r (U.i (0 : Int)))) (List.replicate (Int.toNat (IntKind.wrap IntKind.i64 (IntKind.wrap IntKind.i64 (IntKind.wrap IntKind.i64 ((0 : Int) + Int.ofNat (List.length (List.map (fun r => U.int (List.headD r (U.i (0 : Int)))) (U.list (List.getD (List.getD [[U.l l], [U.l k]] (Int.toNat (0 : Int)) []) (0 : Nat) (U.i (0 : Int))))))) + Int.ofNat (List.length (List.map (fun r => U.int (List.headD r (U.i (0 : Int)))) (U.list (List.getD (List.getD [[U.l l], [U.l k]] (Int.toNat (IntKind.wrap IntKind.i64 ((0 : Int) + (1 : Int)))) []) (0 : Nat) (U.i (0 : Int))))))) - IntKind.wrap IntKind.i64 ((Nat.cast (0 : Nat) : Int) - (Nat.cast (0 : Nat) : Int))))) [U.i (0 : Int)])) ++ List.map (fun r => U.int (List.headD r (U.i (0 : Int)))) (U.list (List.getD (List.getD [[U.l l], [U.l k]] (Int.toNat (0 : Int)) []) (0 : Nat) (U.i (0 : Int))))))) (bc (Nat.ble (List.length (List.take (Int.toNat (Nat.cast (0 : Nat) : Int)) (List.map (fun r => U.int (List.headD r (U.i (0 : Int)))) (List.replicate (Int.toNat (IntKind.wrap IntKind.i64 (IntKind.wrap IntKind.i64 (IntKind.wrap IntKind.i64 ((0 : Int) + Int.ofNat (List.length (List.map (fun r => U.int (List.headD r (U.i (0 : Int)))) (U.list (List.getD (List.getD [[U.l l], [U.l k]] (Int.toNat (0 : Int)) []) (0 : Nat) (U.i (0 : Int))))))) + Int.ofNat (List.length (List.map (fun r => U.int (List.headD r (U.i (0 : Int)))) (U.list (List.getD (List.getD [[U.l l], [U.l k]] (Int.toNat (IntKind.wrap IntKind.i64 ((0 : Int) + (1 : Int)))) []) (0 : Nat) (U.i (0 : Int))))))) - IntKind.wrap IntKind.i64 ((Nat.cast (0 : Nat) : Int) - (Nat.cast (0 : Nat) : Int))))) [U.i (0 : Int)])) ++ List.map (fun r => U.int (List.headD r (U.i (0 : Int)))) (U.list (List.getD (List.getD [[U.l l], [U.l k]] (Int.toNat (0 : Int)) []) (0 : Nat) (U.i (0 : Int))))) + List.length (List.map (fun r => U.int (List.headD r (U.i (0 : Int)))) (U.list (List.getD (List.getD [[U.l l], [U.l k]] (Int.toNat (IntKind.wrap IntKind.i64 ((0 : Int) + (1 : Int)))) []) (0 : Nat) (U.i (0 : Int)))))) (65536 : Nat)) true false) false) (bc (Nat.beq (List.length (List.take (Int.toNat (Nat.cast (0 : Nat) : Int)) (List.map (fun r => U.int (List.headD r (U.i (0 : Int)))) (List.replicate (Int.toNat (IntKind.wrap IntKind.i64 (IntKind.wrap IntKind.i64 (IntKind.wrap IntKind.i64 ((0 : Int) + Int.ofNat (List.length (List.map (fun r => U.int (List.headD r (U.i (0 : Int)))) (U.list (List.getD (List.getD [[U.l l], [U.l k]] (Int.toNat (0 : Int)) []) (0 : Nat) (U.i (0 : Int))))))) + Int.ofNat (List.length (List.map (fun r => U.int (List.headD r (U.i (0 : Int)))) (U.list (List.getD (List.getD [[U.l l], [U.l k]] (Int.toNat (IntKind.wrap IntKind.i64 ((0 : Int) + (1 : Int)))) []) (0 : Nat) (U.i (0 : Int))))))) - IntKind.wrap IntKind.i64 ((Nat.cast (0 : Nat) : Int) - (Nat.cast (0 : Nat) : Int))))) [U.i (0 : Int)])) ++ List.map (fun r => U.int (List.headD r (U.i (0 : Int)))) (U.list (List.getD (List.getD [[U.l l], [U.l k]] (Int.toNat (0 : Int)) []) (0 : Nat) (U.i (0 : Int)))) ++ List.map (fun r => U.int (List.headD r (U.i (0 : Int)))) (U.list (List.getD (List.getD [[U.l l], [U.l k]] (Int.toNat (IntKind.wrap IntKind.i64 ((0 : Int) + (1 : Int)))) []) (0 : Nat) (U.i (0 : Int)))))) (List.length (List.take (Int.toNat (Nat.cast (0 : Nat) : Int)) (List.map (fun r => U.int (List.headD r (U.i (0 : Int)))) (List.replicate (Int.toNat (IntKind.wrap IntKind.i64 (IntKind.wrap IntKind.i64 (IntKind.wrap IntKind.i64 ((0 : Int) + Int.ofNat (List.length (List.map (fun r => U.int (List.headD r (U.i (0 : Int)))) (U.list (List.getD (List.getD [[U.l l], [U.l k]] (Int.toNat (0 : Int)) []) (0 : Nat) (U.i (0 : Int))))))) + Int.ofNat (List.length (List.map (fun r => U.int (List.headD r (U.i (0 : Int)))) (U.list (List.getD (List.getD [[U.l l], [U.l k]] (Int.toNat (IntKind.wrap IntKind.i64 ((0 : Int) + (1 : Int)))) []) (0 : Nat) (U.i (0 : Int))))))) - IntKind.wrap IntKind.i64 ((Nat.cast (0 : Nat) : Int) - (Nat.cast (0 : Nat) : Int))))) [U.i (0 : Int)])) ++ List.map (fun r => U.int (List.headD r (U.i (0 : Int)))) (U.list (List.getD (List.getD [[U.l l], [U.l k]] (Int.toNat (0 : Int)) []) (0 : Nat) (U.i (0 : Int)))) ++ List.map (fun r => U.int (List.headD r (U.i (0 : Int)))) (U.list (List.getD (List.getD [[U.l l], [U.l k]] (Int.toNat (IntKind.wrap IntKind.i64 ((0 : Int) + (1 : Int)))) []) (0 : Nat) (U.i (0 : Int))))))) (.done (EV.lst (SyC.ints IntKind.i64 (List.take (Int.toNat (Nat.cast (0 : Nat) : Int)) (List.map (fun r => U.int (List.headD r (U.i (0 : Int)))) (List.replicate (Int.toNat (IntKind.wrap IntKind.i64 (IntKind.wrap IntKind.i64 (IntKind.wrap IntKind.i64 ((0 : Int) + Int.ofNat (List.length (List.map (fun r => U.int (List.headD r (U.i (0 : Int)))) (U.list (List.getD (List.getD [[U.l l], [U.l k]] (Int.toNat (0 : Int)) []) (0 : Nat) (U.i (0 : Int))))))) + Int.ofNat (List.length (List.map (fun r => U.int (List.headD r (U.i (0 : Int)))) (U.list (List.getD (List.getD [[U.l l], [U.l k]] (Int.toNat (IntKind.wrap IntKind.i64 ((0 : Int) + (1 : Int)))) []) (0 : Nat) (U.i (0 : Int))))))) - IntKind.wrap IntKind.i64 ((Nat.cast (0 : Nat) : Int) - (Nat.cast (0 : Nat) : Int))))) [U.i (0 : Int)])) ++ List.map (fun r => U.int (List.headD r (U.i (0 : Int)))) (U.list (List.getD (List.getD [[U.l l], [U.l k]] (Int.toNat (0 : Int)) []) (0 : Nat) (U.i (0 : Int)))) ++ List.map (fun r => U.int (List.headD r (U.i (0 : Int)))) (U.list (List.getD (List.getD [[U.l l], [U.l k]] (Int.toNat (IntKind.wrap IntKind.i64 ((0 : Int) + (1 : Int)))) []) (0 : Nat) (U.i (0 : Int))))))) [] 0) .bad) .bad) .bad) .bad) .bad) (bc (bc (Nat.ble ((0 : Nat) + List.length (List.map (fun r => U.int (List.headD r (U.i (0 : Int)))) (U.list (List.getD (List.getD [[U.l l], [U.l k]] (Int.toNat (0 : Int)) []) (0 : Nat) (U.i (0 : Int)))))) (65536 : Nat)) true false) (bc (bc (Nat.beq (List.length (List.map (fun r => U.int (List.headD r (U.i (0 : Int)))) [] ++ List.map (fun r => U.int (List.headD r (U.i (0 : Int)))) (U.list (List.getD (List.getD [[U.l l], [U.l k]] (Int.toNat (0 : Int)) []) (0 : Nat) (U.i (0 : Int)))))) (List.length (List.map (fun r => U.int (List.headD r (U.i (0 : Int)))) [] ++ List.map (fun r => U.int (List.headD r (U.i (0 : Int)))) (U.list (List.getD (List.getD [[U.l l], [U.l k]] (Int.toNat (0 : Int)) []) (0 : Nat) (U.i (0 : Int))))))) (bc (Nat.ble (List.length (List.map (fun r => U.int (List.headD r (U.i (0 : Int)))) [] ++ List.map (fun r => U.int (List.headD r (U.i (0 : Int)))) (U.list (List.getD (List.getD [[U.l l], [U.l k]] (Int.toNat (0 : Int)) []) (0 : Nat) (U.i (0 : Int))))) + List.length (List.map (fun r => U.int (List.headD r (U.i (0 : Int)))) (U.list (List.getD (List.getD [[U.l l], [U.l k]] (Int.toNat (IntKind.wrap IntKind.i64 ((0 : Int) + (1 : Int)))) []) (0 : Nat) (U.i (0 : Int)))))) (65536 : Nat)) (bc (Nat.blt (0 : Nat) (List.length (List.map (fun r => U.int (List.headD r (U.i (0 : Int)))) (U.list (List.getD (List.getD [[U.l l], [U.l k]] (Int.toNat (0 : Int)) []) (0 : Nat) (U.i (0 : Int))))))) true (bc (Nat.blt (0 : Nat) (List.length (List.map (fun r => U.int (List.headD r (U.i (0 : Int)))) (U.list (List.getD (List.getD [[U.l l], [U.l k]] (Int.toNat (0 : Int)) []) (0 : Nat) (U.i (0 : Int))))))) false true)) false) false) (bc (Nat.beq (List.length (List.map (fun r => U.int (List.headD r (U.i (0 : Int)))) [] ++ List.map (fun r => U.int (List.headD r (U.i (0 : Int)))) (U.list (List.getD (List.getD [[U.l l], [U.l k]] (Int.toNat (0 : Int)) []) (0 : Nat) (U.i (0 : Int)))) ++ List.map (fun r => U.int (List.headD r (U.i (0 : Int)))) (U.list (List.getD (List.getD [[U.l l], [U.l k]] (Int.toNat (IntKind.wrap IntKind.i64 ((0 : Int) + (1 : Int)))) []) (0 : Nat) (U.i (0 : Int)))))) (List.length (List.map (fun r => U.int (List.headD r (U.i (0 : Int)))) [] ++ List.map (fun r => U.int (List.headD r (U.i (0 : Int)))) (U.list (List.getD (List.getD [[U.l l], [U.l k]] (Int.toNat (0 : Int)) []) (0 : Nat) (U.i (0 : Int)))) ++ List.map (fun r => U.int (List.headD r (U.i (0 : Int)))) (U.list (List.getD (List.getD [[U.l l], [U.l k]] (Int.toNat (IntKind.wrap IntKind.i64 ((0 : Int) + (1 : Int)))) []) (0 : Nat) (U.i (0 : Int))))))) (.done (EV.lst (SyC.ints IntKind.i64 (List.map (fun r => U.int (List.headD r (U.i (0 : Int)))) [] ++ List.map (fun r => U.int (List.headD r (U.i (0 : Int)))) (U.list (List.getD (List.getD [[U.l l], [U.l k]] (Int.toNat (0 : Int)) []) (0 : Nat) (U.i (0 : Int)))) ++ List.map (fun r => U.int (List.headD r (U.i (0 : Int)))) (U.list (List.getD (List.getD [[U.l l], [U.l k]] (Int.toNat (IntKind.wrap IntKind.i64 ((0 : Int) + (1 : Int)))) []) (0 : Nat) (U.i (0 : Int))))))) [] 0) .bad) .bad) .bad))))) := by kernel_rfl
theorem ends (l k : List (List U)) (hl : l.length ≤ 1000) (hk : k.length ≤ 1000) : EndZ 100 .nil false (st0 100 [.lst (.recs [.list [.int .i64]] [[.l l], [.l k]])]) (il (rl l ++ rl k)) [] 0 := by
  have h := in_t l k; have e1 : List.map (fun r => U.int (List.headD r (U.i 0))) (U.list (List.getD (List.getD [[U.l l], [U.l k]] (Int.toNat 0) []) 0 (U.i 0))) = rl l := rfl; have e2 : List.map (fun r => U.int (List.headD r (U.i 0))) (U.list (List.getD (List.getD [[U.l l], [U.l k]] (Int.toNat (IntKind.wrap IntKind.i64 (0 + 1))) []) 0 (U.i 0))) = rl k := rfl; have n1 : (rl l).length = l.length := List.length_map ..; have n2 : (rl k).length = k.length := List.length_map ..; have e3 : IntKind.wrap IntKind.i64 ((Nat.cast 0 : Int) - (Nat.cast 0 : Int)) = 0 := rfl
  have e4 : (Int.toNat (Nat.cast 0 : Int)) = 0 := rfl; have w1 : IntKind.wrap IntKind.i64 (0 + (l.length : Int)) = l.length := by simp (disch := omega) only [Int.zero_add, wrap_in]
  have w2 : IntKind.wrap IntKind.i64 ((l.length : Int) + (k.length : Int)) = l.length + k.length := by simp (disch := omega) only [wrap_in]
  have w3 : IntKind.wrap IntKind.i64 ((l.length : Int) + (k.length : Int) - 0) = l.length + k.length := by simp (disch := omega) only [Int.sub_zero, wrap_in]
  simp only [e1, e2, e3, e4, n1, n2, ofn, w1, w2, w3] at h; have d1 : ¬ (l.length : Int) < 0 := by omega
  have d2 : ¬ (l.length : Int) + (k.length : Int) < 0 := by omega
  simp only [df d1, df d2, bc_f] at h
  by_cases h0 : (0 : Int) < (l.length : Int) + (k.length : Int)
  · have d3 : (l.length : Int) + (k.length : Int) ≤ 4096 := by omega
    simp (disch := omega) only [Nat.add_eq, eqSy_self, eqN_self, bc_same, List.length_cons, ofn, wrap_in, dt, df, bltD, bltN, ble_of, bleN, beqD, bc_t, bc_f, nn_ok, Nat.zero_add, to_nat, Int.zero_add, Int.sub_zero, Int.sub_self, Int.cast_ofNat_Int, Int.natCast_zero, Int.toNat_zero, List.take_zero, List.nil_append, List.length_append, List.length_nil, dt h0, dt d3, bc_t, List.take_zero, List.length_nil, List.nil_append, List.length_map, List.length_replicate, Nat.zero_add, n1, n2] at h; exact .done h
  · have z1 : l = [] := List.eq_nil_of_length_eq_zero (by omega); have z2 : k = [] := List.eq_nil_of_length_eq_zero (by omega); subst z1; subst z2; exact .done h
end PCat
noncomputable def spCatI : ZCT := fun ax => match ax with
  | [.lst (.recs [.list [.int .i64]] [[.l l], [.l k]])] => some ⟨decide (l.length ≤ 1000 ∧ k.length ≤ 1000), il (rl l ++ rl k), [], 0⟩
  | _ => none
theorem spCatI_ok : ZCtOk Try.prog 100 spCatI := fun γ w us ax r hs hc hax hN hfz => by
  unfold spCatI at hs; split at hs
  case h_2 => cases hs
  rename_i l k; obtain ⟨rfl⟩ := Option.some.inj hs; have hc_0 : decide (l.length ≤ 1000 ∧ k.length ≤ 1000) = true := hc; have hc := of_decide_eq_true hc_0; exact EndZ.calls (PCat.ends l k hc.1 hc.2) (.nil _) (by kernel_rfl) hax hN hfz
namespace PTms
noncomputable def ct : Tr ZCC := (Tr.nil.put 83 (some (dC spPChk))).put 100 (some (dC spCatI))
theorem ct_ok : ZCtsOk Try.prog ct := ((ZCtsOk.nil _).add rfl spPChk_ok).add rfl spCatI_ok
noncomputable def RUN (s : ES) : ZF := RZ 57 ct (fun _ => false) [] [] false s
theorem in_t (n : Int) (a b : List Int) : RUN (st0 57 [iv n, il a, il b]) = (bc (List.getD (List.map (fun r => U.int (List.headD r (U.i (0 : Int)))) [[U.i (chk n a)], [U.i (chk n b)]]) (Int.toNat (0 : Int)) (0 : Int) != (0 : Int)) (bc (List.getD (List.map (fun r => U.int (List.headD r (U.i (0 : Int)))) [[U.i (chk n a)], [U.i (chk n b)]]) (Int.toNat (0 : Int)) (0 : Int) != (0 : Int)) (.done (EV.tup [(EV.v (Value.slice Option.none 0 0)), (EV.v (Value.int IntKind.i64 (List.getD (List.map (fun r => U.int (List.headD r (U.i (0 : Int)))) [[U.i (chk n a)], [U.i (chk n b)]]) (Int.toNat (0 : Int)) (0 : Int))))]) [] 0) (bc (decide ((400 : Int) < IntKind.wrap IntKind.i64 (Int.ofNat (List.length a) + Int.ofNat (List.length b)))) (.done (EV.tup [(EV.v (Value.slice Option.none 0 0)), (EV.v (Value.int IntKind.i64 (3)))]) [] 0) (bc (decide (List.length (List.map (fun x => [U.i x]) a) ≤ (1000 : Nat) ∧ List.length (List.map (fun x => [U.i x]) b) ≤ (1000 : Nat))) (.done (EV.tup [(EV.lst (SyC.ints IntKind.i64 (rl (List.map (fun x => [U.i x]) a) ++ rl (List.map (fun x => [U.i x]) b)))), (EV.v (Value.int IntKind.i64 (0)))]) [] 0) .bad))) (bc (List.getD (List.map (fun r => U.int (List.headD r (U.i (0 : Int)))) [[U.i (chk n a)], [U.i (chk n b)]]) (Int.toNat (IntKind.wrap IntKind.i64 ((0 : Int) + (1 : Int)))) (0 : Int) != (0 : Int)) (bc (List.getD (List.map (fun r => U.int (List.headD r (U.i (0 : Int)))) [[U.i (chk n a)], [U.i (chk n b)]]) (Int.toNat (IntKind.wrap IntKind.i64 ((0 : Int) + (1 : Int)))) (0 : Int) != (0 : Int)) (.done (EV.tup [(EV.v (Value.slice Option.none 0 0)), (EV.v (Value.int IntKind.i64 (List.getD (List.map (fun r => U.int (List.headD r (U.i (0 : Int)))) [[U.i (chk n a)], [U.i (chk n b)]]) (Int.toNat (IntKind.wrap IntKind.i64 ((0 : Int) + (1 : Int)))) (0 : Int))))]) [] 0) (bc (decide ((400 : Int) < IntKind.wrap IntKind.i64 (Int.ofNat (List.length a) + Int.ofNat (List.length b)))) (.done (EV.tup [(EV.v (Value.slice Option.none 0 0)), (EV.v (Value.int IntKind.i64 (3)))]) [] 0) (bc (decide (List.length (List.map (fun x => [U.i x]) a) ≤ (1000 : Nat) ∧ List.length (List.map (fun x => [U.i x]) b) ≤ (1000 : Nat))) (.done (EV.tup [(EV.lst (SyC.ints IntKind.i64 (rl (List.map (fun x => [U.i x]) a) ++ rl (List.map (fun x => [U.i x]) b)))), (EV.v (Value.int IntKind.i64 (0)))]) [] 0) .bad))) (bc (decide ((400 : Int) < IntKind.wrap IntKind.i64 (Int.ofNat (List.length a) + Int.ofNat (List.length b)))) (.done (EV.tup [(EV.v (Value.slice Option.none 0 0)), (EV.v (Value.int IntKind.i64 (3)))]) [] 0) (bc (decide (List.length (List.map (fun x => [U.i x]) a) ≤ (1000 : Nat) ∧ List.length (List.map (fun x => [U.i x]) b) ≤ (1000 : Nat))) (.done (EV.tup [(EV.lst (SyC.ints IntKind.i64 (rl (List.map (fun x => [U.i x]) a) ++ rl (List.map (fun x => [U.i x]) b)))), (EV.v (Value.int IntKind.i64 (0)))]) [] 0) .bad)))) := by kernel_rfl

noncomputable def tmsE (n : Int) (a b : List Int) : Int := bc (samE n a b != 0) (samE n a b) (bc (decide (400 < a.length + b.length)) 3 0)
theorem ends (n : Int) (a b : List Int) : EndZ 57 ct false (st0 57 [iv n, il a, il b]) (resL (tmsE n a b) (a ++ b)) [] 0 := by
  have h := in_t n a b; have g0 : List.getD (List.map (fun r => U.int (List.headD r (U.i 0))) [[U.i (chk n a)], [U.i (chk n b)]]) (Int.toNat 0) 0 = chk n a := rfl; have g1 : List.getD (List.map (fun r => U.int (List.headD r (U.i 0))) [[U.i (chk n a)], [U.i (chk n b)]]) (Int.toNat (IntKind.wrap IntKind.i64 (0 + 1))) 0 = chk n b := rfl; rw [g0, g1] at h
  by_cases z1 : chk n a = 0
  · rw [z1, show ((0 : Int) != 0) = false from rfl, bc_f] at h
    by_cases z2 : chk n b = 0
    · rw [z2, show ((0 : Int) != 0) = false from rfl, bc_f] at h
      have e1 : samE n a b = 0 := by unfold samE; rw [z1, z2]; rfl
      obtain ⟨_, l1⟩ := chk_wok z1; obtain ⟨_, l2⟩ := chk_wok z2; rw [ofn, ofn, wrap_in _ (by omega) (by omega), rl_of, rl_of] at h
      by_cases z3 : 400 < a.length + b.length
      · rw [dt (show (400 : Int) < (a.length : Int) + (b.length : Int) by omega), bc_t] at h; have e2 : tmsE n a b = 3 := by unfold tmsE; rw [e1, dt z3]; rfl
        have := resL_err (e := tmsE n a b) (a ++ b) (by omega); rw [e2] at this ⊢; exact (EndZ.done h).weak this
      · rw [df (show ¬ (400 : Int) < (a.length : Int) + (b.length : Int) by omega), bc_f, dt ⟨by rw [List.length_map]; omega, by rw [List.length_map]; omega⟩, bc_t] at h; have e2 : tmsE n a b = 0 := by unfold tmsE; rw [e1, df z3]; rfl
        rw [resL_ok _ e2]; exact .done h
    · rw [show (chk n b != 0) = true by simp [z2], bc_t, bc_t] at h; have e2 : tmsE n a b = chk n b := by unfold tmsE samE; rw [z1, show ((0 : Int) != 0) = false from rfl, bc_f, show (chk n b != 0) = true by simp [z2], bc_t]
      rw [e2]; exact (EndZ.done h).weak (resL_err _ z2)
  · rw [show (chk n a != 0) = true by simp [z1], bc_t, bc_t] at h; have e2 : tmsE n a b = chk n a := by unfold tmsE samE; rw [show (chk n a != 0) = true by simp [z1], bc_t, show (chk n a != 0) = true by simp [z1], bc_t]
    rw [e2]; exact (EndZ.done h).weak (resL_err _ z1)
end PTms
noncomputable def spPTms : ZCT := fun ax => match ax with
  | [.v (.int .i64 n), .lst (.ints .i64 a), .lst (.ints .i64 b)] => some ⟨decide (True), resL (PTms.tmsE n a b) (a ++ b), [], 0⟩
  | _ => none
theorem spPTms_ok : ZCtOk Try.prog 57 spPTms := fun γ w us ax r hs hc hax hN hfz => by
  unfold spPTms at hs; split at hs
  case h_2 => cases hs
  rename_i n a b; obtain ⟨rfl⟩ := Option.some.inj hs; have hc_0 : decide (True) = true := hc; have hc := of_decide_eq_true hc_0; exact EndZ.calls (PTms.ends n a b) PTms.ct_ok (by kernel_rfl) hax hN hfz
end Go.Proofs.Ytooimphimnagaaa.Ev
namespace Go.Proofs.Ytooimphimnagaaa.Ev
open Go.Proofs
variable {n : Nat}
theorem fill_set {e : List Int} {n i : Nat} (hi : i < n) (hn : n ≤ e.length) : (e.take i ++ zerosL (n - i)).set i (e.getD i 0) = e.take (i + 1) ++ zerosL (n - (i + 1)) := by
  have hl : (e.take i).length = i := by rw [List.length_take]; omega
  rw [List.set_append_right _ _ (by omega), hl, Nat.sub_self, List.take_succ_eq_append_getElem (show i < e.length by omega), getD_at (show i < e.length by omega), List.append_assoc]; congr 1; obtain ⟨d, hd⟩ : ∃ d, n - i = d + 1 := ⟨n - i - 1, by omega⟩; rw [hd, show n - (i + 1) = d by omega]; rfl
theorem fill_end (e : List Int) (n : Nat) : e.take n ++ zerosL (n - n) = e.take n := by
  rw [Nat.sub_self]; exact List.append_nil _
theorem zeros_len (k : Nat) : (zerosL k).length = k := by unfold zerosL; simp
namespace PLis
noncomputable def K0 (e : List Int) : List (Nat × EK) := [(0, .seq 92 (.ints .u8 e) true)]
noncomputable def RUN (s : ES) : ZF := RMs 1 92 .nil [(atS 0 92 3, [[(0,none),(5,none),(10,none),(11,none)]])] [] [] s

noncomputable def sB (n : Int) (e d : List Int) (m : Nat) (z i : Int) : NS := ⟨[⟨92, 25, [(0, (EV.ptr 0 0)), (5, EV.slO 1 1 m true), (10, iv z), (11, iv i)], [.it (.code (nav [1, 1, 0, 1, 0, 0] (bodyOf Try.f92))), .it (.inLoop (nav [1, 1, 0, 1, 0, 0] (bodyOf Try.f92))), .it (.inBlock 0), .it (.code (nav [1, 1, 1] (bodyOf Try.f92)))], [], Option.none⟩], [(0, (EK.seq 92 (SyC.ints IntKind.u8 (e)) true)), (1, EK.seq 3 (.ints .i64 d) true)], 2⟩
theorem in_t (n : Int) (e : List Int) : RUN (st0m 92 [.ptr 0 0, iv n] (K0 e) 1) = (bc (bc (decide ((0 : Int) ≤ n)) (bc (decide (n ≤ n)) (decide (n ≤ (65536 : Int))) false) false) (.at ⟨[⟨92, 25, [(0, (EV.ptr 0 0)), (5, (EV.slO 1 1 (List.length (zerosL (Int.toNat n))) true)), (10, (EV.v (Value.int IntKind.i64 (Int.ofNat (List.length (zerosL (Int.toNat n))))))), (11, (EV.v (Value.int IntKind.i64 (0))))], [.it (.code (nav [1, 1, 0, 1, 0, 0] (bodyOf Try.f92))), .it (.inLoop (nav [1, 1, 0, 1, 0, 0] (bodyOf Try.f92))), .it (.inBlock 0), .it (.code (nav [1, 1, 1] (bodyOf Try.f92)))], [], Option.none⟩], [(0, (EK.seq 92 (SyC.ints IntKind.u8 (e)) true)), (1, (EK.seq 3 (SyC.ints IntKind.i64 (zerosL (Int.toNat n))) true))], 2⟩) .bad) := by kernel_rfl
theorem b_t (n : Int) (e d : List Int) (m : Nat) (z i : Int) : RUN (stOf (sB n e d m z i)) = (bc (decide (i < z)) (bc (bc (bc (decide ((0 : Int) ≤ i)) (Nat.blt (Int.toNat i) (12 : Nat)) false) true false) (bc (bc (Nat.blt (Int.toNat i) (List.length e)) true false) (bc (bc (bc (decide ((0 : Int) ≤ i)) (Nat.blt (Int.toNat i) m) false) true false) (bc (Nat.blt (Int.toNat i) (List.length d)) (.at ⟨[⟨92, 25, [(0, (EV.ptr 0 0)), (5, (EV.slO 1 1 (m) true)), (10, (EV.v (Value.int IntKind.i64 (z)))), (11, (EV.v (Value.int IntKind.i64 (IntKind.wrap IntKind.i64 (i + (1 : Int))))))], [.it (.code (nav [1, 1, 0, 1, 0, 0] (bodyOf Try.f92))), .it (.inLoop (nav [1, 1, 0, 1, 0, 0] (bodyOf Try.f92))), .it (.inBlock 0), .it (.code (nav [1, 1, 1] (bodyOf Try.f92)))], [], Option.none⟩], [(0, (EK.seq 92 (SyC.ints IntKind.u8 (e)) true)), (1, (EK.seq 3 (SyC.ints IntKind.i64 (List.set d (Int.toNat i) (IntKind.wrap IntKind.i64 (List.getD e (Int.toNat i) (0 : Int))))) true))], 2⟩) .bad) .bad) .bad) .bad) (.done (EV.slO 1 1 (m) true) [(0, (EK.seq 92 (SyC.ints IntKind.u8 (e)) true)), (1, (EK.seq 3 (SyC.ints IntKind.i64 (d)) true))] 2)) := by kernel_rfl
theorem step {n : Nat} {e : List Int} {d : List Int} {i : Nat} (hi : i < n) (hn : n ≤ 12) (he : In12 e) (hd : d.length = n) : RUN (stOf (sB n e d n n i)) = .at (sB n e (d.set i (e.getD i 0)) n n (i + 1 : Nat)) := by
  rw [b_t]; have h1 := he.2 i (by omega); have h2 := he.1; have e0 : ((i : Int)).toNat = i := rfl; rw [e0]; simp (disch := omega) only [Nat.add_eq, eqSy_self, eqN_self, bc_same, List.length_cons, ofn, wrap_in, dt, df, bltD, bltN, ble_of, bleN, beqD, bc_t, bc_f, nn_ok, Nat.zero_add, to_nat, Int.zero_add, Int.sub_zero, Int.sub_self, Int.cast_ofNat_Int, Int.natCast_zero, Int.toNat_zero, List.take_zero, List.nil_append, List.length_append, List.length_nil]; rfl
theorem last {n : Nat} {e d : List Int} {i : Nat} (hi : n ≤ i) (hd : d.length = n) : RUN (stOf (sB n e d n n i)) = .done (.slO 1 1 n true) [(0, .seq 92 (.ints .u8 e) true), (1, .seq 3 (.ints .i64 d) true)] 2 := by
  rw [b_t]; simp (disch := omega) only [Nat.add_eq, eqSy_self, eqN_self, bc_same, List.length_cons, ofn, wrap_in, dt, df, bltD, bltN, ble_of, bleN, beqD, bc_t, bc_f, nn_ok, Nat.zero_add, to_nat, Int.zero_add, Int.sub_zero, Int.sub_self, Int.cast_ofNat_Int, Int.natCast_zero, Int.toNat_zero, List.take_zero, List.nil_append, List.length_append, List.length_nil]
theorem loop {n : Nat} {e : List Int} (hn : n ≤ 12) (he : In12 e) : ∀ (k i : Nat), i + k = n → EndM 1 92 .nil (stOf (sB n e (e.take i ++ zerosL (n - i)) n n i)) (.slO 1 1 n true) [(0, .seq 92 (.ints .u8 e) true), (1, .seq 3 (.ints .i64 (e.take n)) true)] 2
  | 0, i, h => by
    obtain rfl : i = n := by omega
    rw [fill_end]; exact .done (last (Nat.le_refl _) (by have := he.1; rw [List.length_take]; omega))
  | k + 1, i, h => by
    have hl : (e.take i ++ zerosL (n - i)).length = n := by have := he.1; rw [List.length_append, List.length_take, zeros_len]; omega
    have h1 := step (n := n) (i := i) (by omega) hn he hl; rw [fill_set (by omega) (by have := he.1; omega)] at h1; exact .at (.nil _) h1 (loop hn he k (i + 1) (by omega))
theorem ends {n : Int} {e : List Int} (h0 : 0 ≤ n) (hn : n ≤ 12) (he : In12 e) : EndM 1 92 .nil (st0m 92 [.ptr 0 0, iv n] (K0 e) 1) (.slO 1 1 n.toNat true) [(0, .seq 92 (.ints .u8 e) true), (1, .seq 3 (.ints .i64 (e.take n.toNat)) true)] 2 := by
  obtain ⟨n, rfl⟩ := Int.eq_ofNat_of_zero_le h0; have h := in_t n e; have e0 : ((n : Int)).toNat = n := rfl; rw [e0, dt h0, bc_t, dt (show (n : Int) ≤ n by omega), bc_t, dt (show (n : Int) ≤ 65536 by omega), bc_t, zeros_len] at h; exact .at (.nil _) h (loop (by omega) he n 0 (by omega))
end PLis
noncomputable def spLis : ZMT := fun ax K0 m => match ax, K0 with
  | [.ptr 0 0, .v (.int .i64 n)], [(0, .seq 92 (.ints .u8 e) v_0)] => bc (Nat.beq m (1)) (some ⟨bc (eqN v_0 (true)) (decide (0 ≤ n ∧ n ≤ 12 ∧ In12 e)) false, .slO 1 1 n.toNat true, [(0, .seq 92 (.ints .u8 e) true), (1, .seq 3 (.ints .i64 (e.take n.toNat)) true)], 2, 1⟩) none
  | _, _ => none
theorem spLis_ok : ZMtOk Try.prog 92 spLis := fun γ w0 w us ax K0 m r hs hc hres hax hH => by
  unfold spLis at hs; split at hs
  case h_2 => cases hs
  rename_i n e v_0; obtain ⟨hm, rfl⟩ := noN hs; have hm := Nat.eq_of_beq_eq_true hm; subst hm; have hc_0 : bc (eqN v_0 (true)) (decide (0 ≤ n ∧ n ≤ 12 ∧ In12 e)) false = true := hc; obtain ⟨q_0, hc_1⟩ := bcT hc_0; have p_0 := (eqN_ok q_0).symm; subst p_0; have hc := of_decide_eq_true hc_1; exact EndM.calls (PLis.ends hc.1 hc.2.1 hc.2.2) (.nil _) (by kernel_rfl) hres hax hH

noncomputable def swP (p : Pm n) (k : Nat) : Pm n := if h : 0 < k ∧ k < n then p.L k h else p
noncomputable def lnP (n : Nat) (w : List Int) : Pm n := w.foldl (fun p x => swP p x.natAbs) (Pm.one n)
theorem lnP_app (w : List Int) (x : Int) : lnP n (w ++ [x]) = swP (lnP n w) x.natAbs := by unfold lnP; rw [List.foldl_append]; rfl
theorem lnP_g0 : ∀ {w : List Int}, Vld n w → ∀ (p : Pm n) (x : Nat), (w.foldl (fun p x => swP p x.natAbs) p).g x = gW w (p.g x)
  | [], _, _, _ => rfl
  | l :: w, h, p, x => by
    have hl := h.head; show (w.foldl (fun p x => swP p x.natAbs) (swP p l.natAbs)).g x = gW w (sw l.natAbs (p.g x)); rw [lnP_g0 h.tail]; unfold swP; rw [dif_pos hl]; rfl
theorem lnP_g {w : List Int} (h : Vld n w) (x : Nat) : (lnP n w).g x = gW w x := lnP_g0 h (Pm.one n) x
theorem prm_take {w : List Int} (h : Vld n w) (hn : n ≤ 12) : (pA (lnP n w).inv).take n = prmL n w := by
  unfold pA prmL; rw [← List.map_take, List.take_range, Nat.min_eq_left hn]; exact List.map_congr_left fun x _ => congrArg (fun y : Nat => (y : Int)) (lnP_g h x)
namespace PPrm
noncomputable def ct : Tr ZCC := (((Tr.nil.put 83 (some (dC spPChk))).put 93 (some (dC spPln))).put 95 (some (mC spInv))).put 92 (some (mC spLis))
theorem ct_ok : ZCtsOk Try.prog ct := ((((ZCtsOk.nil _).add rfl spPChk_ok).add rfl spPln_ok).addM rfl spInv_ok).addM rfl spLis_ok
noncomputable def RUN (s : ES) : ZF := RZ 45 ct (atS 0 45 6) [] [[(0,none),(7,none),(20,none),(21,none),(22,none)]] false s

noncomputable def sA (n : Int) (w e : List Int) (z i : Int) : NS := ⟨[⟨45, 47, [(0, (EV.v (Value.int IntKind.i64 (n)))), (7, (EV.ptr 0 0)), (20, (EV.lst (SyC.ints IntKind.i64 (w)))), (21, iv z), (22, iv i)], [.it (.code (nav [1, 1, 1, 0, 1, 0, 0] (bodyOf Try.f45))), .it (.inLoop (nav [1, 1, 1, 0, 1, 0, 0] (bodyOf Try.f45))), .it (.inBlock 0), .it (.code (nav [1, 1, 1, 1] (bodyOf Try.f45)))], [], Option.none⟩], [(0, EK.seq 92 (.ints .u8 e) true)], 1⟩
theorem in_t (n : Int) (w : List Int) : RUN (st0 45 [iv n, il w]) = (bc (chk n w != (0 : Int)) (.done (EV.tup [(EV.v (Value.slice Option.none 0 0)), (EV.v (Value.int IntKind.i64 (chk n w)))]) [] 0) (.at (sA (n) (w) (e12) (Int.ofNat (List.length w)) ((0 : Int))))) := by kernel_rfl
theorem a_t (n : Int) (w e : List Int) (z i : Int) : RUN (stOf (sA n w e z i)) = (bc (decide (i < z)) (bc (bc (bc (decide ((0 : Int) ≤ i)) (Nat.blt (Int.toNat i) (List.length w)) false) true false) (bc (bc (Nat.blt (Int.toNat i) (List.length w)) true false) (bc (decide (List.getD w (Int.toNat i) (0 : Int) < (0 : Int))) (bc (bc (bc (bc (bc (decide ((0 : Int) ≤ IntKind.wrap IntKind.i64 ((0 : Int) - List.getD w (Int.toNat i) (0 : Int)))) (Nat.blt (Int.toNat (IntKind.wrap IntKind.i64 ((0 : Int) - List.getD w (Int.toNat i) (0 : Int)))) (12 : Nat)) false) true false) (bc (bc (Nat.blt (Int.toNat (IntKind.wrap IntKind.i64 ((0 : Int) - List.getD w (Int.toNat i) (0 : Int)))) (List.length e)) true false) (bc (bc (bc (decide ((0 : Int) ≤ IntKind.wrap IntKind.i64 (IntKind.wrap IntKind.i64 ((0 : Int) - List.getD w (Int.toNat i) (0 : Int)) - (1 : Int)))) (Nat.blt (Int.toNat (IntKind.wrap IntKind.i64 (IntKind.wrap IntKind.i64 ((0 : Int) - List.getD w (Int.toNat i) (0 : Int)) - (1 : Int)))) (12 : Nat)) false) true false) (bc (bc (Nat.blt (Int.toNat (IntKind.wrap IntKind.i64 (IntKind.wrap IntKind.i64 ((0 : Int) - List.getD w (Int.toNat i) (0 : Int)) - (1 : Int)))) (List.length e)) true false) (bc (bc (bc (decide ((0 : Int) ≤ IntKind.wrap IntKind.i64 (IntKind.wrap IntKind.i64 ((0 : Int) - List.getD w (Int.toNat i) (0 : Int)) - (1 : Int)))) (Nat.blt (Int.toNat (IntKind.wrap IntKind.i64 (IntKind.wrap IntKind.i64 ((0 : Int) - List.getD w (Int.toNat i) (0 : Int)) - (1 : Int)))) (12 : Nat)) false) true false) (bc (Nat.blt (Int.toNat (IntKind.wrap IntKind.i64 (IntKind.wrap IntKind.i64 ((0 : Int) - List.getD w (Int.toNat i) (0 : Int)) - (1 : Int)))) (List.length e)) (bc (bc (bc (decide ((0 : Int) ≤ IntKind.wrap IntKind.i64 ((0 : Int) - List.getD w (Int.toNat i) (0 : Int)))) (Nat.blt (Int.toNat (IntKind.wrap IntKind.i64 ((0 : Int) - List.getD w (Int.toNat i) (0 : Int)))) (12 : Nat)) false) true false) (bc (Nat.blt (Int.toNat (IntKind.wrap IntKind.i64 ((0 : Int) - List.getD w (Int.toNat i) (0 : Int)))) (List.length (List.set e (Int.toNat (IntKind.wrap IntKind.i64 (IntKind.wrap IntKind.i64 ((0 : Int) - List.getD w (Int.toNat i) (0 : Int)) - (1 : Int)))) (List.getD e (Int.toNat (IntKind.wrap IntKind.i64 ((0 : Int) - List.getD w (Int.toNat i) (0 : Int)))) (0 : Int))))) true false) false) false) false) false) false) false) false) true false) (.at (sA (n) (w) (List.set (List.set e (Int.toNat (IntKind.wrap IntKind.i64 (IntKind.wrap IntKind.i64 ((0 : Int) - List.getD w (Int.toNat i) (0 : Int)) - (1 : Int)))) (List.getD e (Int.toNat (IntKind.wrap IntKind.i64 ((0 : Int) - List.getD w (Int.toNat i) (0 : Int)))) (0 : Int))) (Int.toNat (IntKind.wrap IntKind.i64 ((0 : Int) - List.getD w (Int.toNat i) (0 : Int)))) (List.getD e (Int.toNat (IntKind.wrap IntKind.i64 (IntKind.wrap IntKind.i64 ((0 : Int) - List.getD w (Int.toNat i) (0 : Int)) - (1 : Int)))) (0 : Int))) (z) (IntKind.wrap IntKind.i64 (i + (1 : Int))))) .bad) (bc (bc (bc (bc (bc (decide ((0 : Int) ≤ List.getD w (Int.toNat i) (0 : Int))) (Nat.blt (Int.toNat (List.getD w (Int.toNat i) (0 : Int))) (12 : Nat)) false) true false) (bc (bc (Nat.blt (Int.toNat (List.getD w (Int.toNat i) (0 : Int))) (List.length e)) true false) (bc (bc (bc (decide ((0 : Int) ≤ IntKind.wrap IntKind.i64 (List.getD w (Int.toNat i) (0 : Int) - (1 : Int)))) (Nat.blt (Int.toNat (IntKind.wrap IntKind.i64 (List.getD w (Int.toNat i) (0 : Int) - (1 : Int)))) (12 : Nat)) false) true false) (bc (bc (Nat.blt (Int.toNat (IntKind.wrap IntKind.i64 (List.getD w (Int.toNat i) (0 : Int) - (1 : Int)))) (List.length e)) true false) (bc (bc (bc (decide ((0 : Int) ≤ IntKind.wrap IntKind.i64 (List.getD w (Int.toNat i) (0 : Int) - (1 : Int)))) (Nat.blt (Int.toNat (IntKind.wrap IntKind.i64 (List.getD w (Int.toNat i) (0 : Int) - (1 : Int)))) (12 : Nat)) false) true false) (bc (Nat.blt (Int.toNat (IntKind.wrap IntKind.i64 (List.getD w (Int.toNat i) (0 : Int) - (1 : Int)))) (List.length e)) (bc (bc (bc (decide ((0 : Int) ≤ List.getD w (Int.toNat i) (0 : Int))) (Nat.blt (Int.toNat (List.getD w (Int.toNat i) (0 : Int))) (12 : Nat)) false) true false) (bc (Nat.blt (Int.toNat (List.getD w (Int.toNat i) (0 : Int))) (List.length (List.set e (Int.toNat (IntKind.wrap IntKind.i64 (List.getD w (Int.toNat i) (0 : Int) - (1 : Int)))) (List.getD e (Int.toNat (List.getD w (Int.toNat i) (0 : Int))) (0 : Int))))) true false) false) false) false) false) false) false) false) true false) (.at (sA (n) (w) (List.set (List.set e (Int.toNat (IntKind.wrap IntKind.i64 (List.getD w (Int.toNat i) (0 : Int) - (1 : Int)))) (List.getD e (Int.toNat (List.getD w (Int.toNat i) (0 : Int))) (0 : Int))) (Int.toNat (List.getD w (Int.toNat i) (0 : Int))) (List.getD e (Int.toNat (IntKind.wrap IntKind.i64 (List.getD w (Int.toNat i) (0 : Int) - (1 : Int)))) (0 : Int))) (z) (IntKind.wrap IntKind.i64 (i + (1 : Int))))) .bad)) .bad) .bad) (bc (bc (decide (In12 e)) true false) (bc (bc (Nat.beq (List.length (invS e (12 : Nat))) (12 : Nat)) (Nat.beq (List.length (zerosL (12 : Nat))) (12 : Nat)) false) (bc (bc (decide ((0 : Int) ≤ n ∧ n ≤ (12 : Int) ∧ In12 (invS e (12 : Nat)))) true false) (bc (bc (Nat.beq (Int.toNat n) (List.length (List.take (Int.toNat n) (invS e (12 : Nat))))) true false) (.done (EV.tup [(EV.lst (SyC.ints IntKind.i64 (List.take (Int.toNat n) (invS e (12 : Nat))))), (EV.v (Value.int IntKind.i64 (0)))]) [] 0) .bad) .bad) .bad) .bad)) := by kernel_rfl
theorem step {w : List Int} {i : Nat} {x : Int} (hi : i < w.length) (hn : n ≤ 12) (hw : w.length ≤ 2000) (hx : w.getD i 0 = x) (hk : 0 < x.natAbs ∧ x.natAbs < n) : RUN (stOf (sA n w (pA (lnP n (w.take i))) w.length i)) = .at (sA n w (pA (lnP n (w.take (i + 1)))) w.length (i + 1 : Nat)) := by
  obtain ⟨h1, h2⟩ := hk; rw [List.take_succ_eq_append_getElem hi, lnP_app, ← getD_at hi, hx]; generalize hp : lnP n (w.take i) = p; rw [a_t, dt (show (i : Int) < (w.length : Int) by omega), bc_t]; have e0 : ((i : Int)).toNat = i := rfl; rw [e0, hx]; unfold swP; rw [dif_pos ⟨h1, h2⟩]; have hl := pA_len p; obtain ⟨j, hj⟩ : ∃ j, x.natAbs = j + 1 := ⟨x.natAbs - 1, by omega⟩; have e1 : ((j : Int)).toNat = j := rfl; have e2 : (((j + 1 : Nat) : Int)).toNat = j + 1 := rfl; have w1 : IntKind.i64.wrap (((j + 1 : Nat) : Int) - 1) = (j : Int) := by rw [wrap_in _ (by omega) (by omega)]; omega
  have g0 : ((pA p).set j (p.f (j + 1) : Int)).set (j + 1) (p.f j : Int) = pA (p.L x.natAbs ⟨h1, h2⟩) := by
    rw [← pA_L p ⟨h1, h2⟩ hn]; simp only [hj, Nat.add_sub_cancel]
  have hl2 : ((pA p).set j (p.f (j + 1) : Int)).length = 12 := by rw [List.length_set, hl]
  by_cases hs : x < 0
  · have w0 : IntKind.i64.wrap (0 - x) = ((j + 1 : Nat) : Int) := by rw [wrap_in _ (by omega) (by omega)]; omega
    rw [dt hs, bc_t, w0, w1, e1, e2, pA_get p (show j + 1 < 12 by omega), pA_get p (show j < 12 by omega)]; simp (disch := omega) only [Nat.add_eq, eqSy_self, eqN_self, bc_same, List.length_cons, ofn, wrap_in, dt, df, bltD, bltN, ble_of, bleN, beqD, bc_t, bc_f, nn_ok, Nat.zero_add, to_nat, Int.zero_add, Int.sub_zero, Int.sub_self, Int.cast_ofNat_Int, Int.natCast_zero, Int.toNat_zero, List.take_zero, List.nil_append, List.length_append, List.length_nil]; rw [g0]; rfl
  · obtain rfl : x = ((j + 1 : Nat) : Int) := by omega
    rw [df hs, bc_f, w1, e1, e2, pA_get p (show j + 1 < 12 by omega), pA_get p (show j < 12 by omega)]; simp (disch := omega) only [Nat.add_eq, eqSy_self, eqN_self, bc_same, List.length_cons, ofn, wrap_in, dt, df, bltD, bltN, ble_of, bleN, beqD, bc_t, bc_f, nn_ok, Nat.zero_add, to_nat, Int.zero_add, Int.sub_zero, Int.sub_self, Int.cast_ofNat_Int, Int.natCast_zero, Int.toNat_zero, List.take_zero, List.nil_append, List.length_append, List.length_nil]; rw [g0]; rfl
theorem last {w : List Int} {p : Pm n} (hn : n ≤ 12) : RUN (stOf (sA n w (pA p) w.length w.length)) = .done (.tup [il ((pA p.inv).take n), iv 0]) [] 0 := by
  rw [a_t, df (show ¬ (w.length : Int) < (w.length : Int) by omega), bc_f, invS_pA hn]; have h1 := In12.pA hn p; have h2 := In12.pA hn p.inv; have e1 : ((n : Int)).toNat = n := rfl; have e3 : ((pA p.inv).take n).length = n := by rw [List.length_take, pA_len]; omega
  have e4 : ((0 : Int) ≤ (n : Int) ∧ (n : Int) ≤ 12 ∧ In12 (pA p.inv)) := ⟨by omega, by omega, h2⟩; have e5 := pA_len p.inv; rw [e1]; simp (disch := omega) only [Nat.add_eq, eqSy_self, eqN_self, bc_same, List.length_cons, ofn, wrap_in, dt, df, bltD, bltN, ble_of, bleN, beqD, bc_t, bc_f, nn_ok, Nat.zero_add, to_nat, Int.zero_add, Int.sub_zero, Int.sub_self, Int.cast_ofNat_Int, Int.natCast_zero, Int.toNat_zero, List.take_zero, List.nil_append, List.length_append, List.length_nil, dt h1, dt e4, e3, zeros_len]
theorem loop {w : List Int} (hn : n ≤ 12) (hw : w.length ≤ 2000) (h : Vld n w) : ∀ (k i : Nat), i + k = w.length → EndZ 45 ct false (stOf (sA n w (pA (lnP n (w.take i))) w.length i)) (.tup [il (prmL n w), iv 0]) [] 0
  | 0, i, hi => by
    obtain rfl : i = w.length := by omega
    rw [List.take_length, ← prm_take h hn]; exact .done (last hn)
  | k + 1, i, hi => by
    have hk : 0 < (w.getD i 0).natAbs ∧ (w.getD i 0).natAbs < n := (show Vld n [w.getD i 0] from fun x hx => by
      rw [List.mem_singleton.1 hx, getD_at (show i < w.length by omega)]; exact h _ (List.getElem_mem _)).head
    exact .at ct_ok (step (by omega) hn hw rfl hk) (loop hn hw h k (i + 1) (by omega))
theorem ends (n : Int) (w : List Int) : EndZ 45 ct false (st0 45 [iv n, il w]) (resL (chk n w) (prmL n.toNat w)) [] 0 := by
  have h := in_t n w
  by_cases z : chk n w = 0
  · obtain ⟨⟨w0, w1, w2, w3⟩, _⟩ := chk_wok z; obtain ⟨n, rfl⟩ := Int.eq_ofNat_of_zero_le (show 0 ≤ n by omega); rw [z, show ((0 : Int) != 0) = false from rfl, bc_f, e12_one n] at h
    rw [resL_ok _ z]; exact .at ct_ok h (loop (by omega) w2 w3 w.length 0 (by omega))
  · rw [show (chk n w != 0) = true by simp [z], bc_t] at h; exact (EndZ.done h).weak (resL_err _ z)
end PPrm
noncomputable def spPPrm : ZCT := fun ax => match ax with
  | [.v (.int .i64 n), .lst (.ints .i64 w)] => some ⟨decide (True), resL (chk n w) (prmL n.toNat w), [], 0⟩
  | _ => none
theorem spPPrm_ok : ZCtOk Try.prog 45 spPPrm := fun γ w us ax r hs hc hax hN hfz => by
  unfold spPPrm at hs; split at hs
  case h_2 => cases hs
  rename_i n w; obtain ⟨rfl⟩ := Option.some.inj hs; have hc_0 : decide (True) = true := hc; have hc := of_decide_eq_true hc_0; exact EndZ.calls (PPrm.ends n w) PPrm.ct_ok (by kernel_rfl) hax hN hfz
end Go.Proofs.Ytooimphimnagaaa.Ev
namespace Go.Proofs.Ytooimphimnagaaa.Ev
open Go.Proofs
variable {n : Nat}
namespace POth
noncomputable def RUN (s : ES) : ZF := RZ 97 .nil (atS 0 97 3) [] [[(4,some (1, 3, .ints .i64 [])),(5,none),(11,none),(12,none),(13,none)]] false s

noncomputable def sA (w q : List Int) (nn : Bool) (p z i : Int) : NS := ⟨[⟨97, 55, [(4, EV.slO 0 1 q.length nn), (5, iv p), (11, (EV.lst (SyC.ints IntKind.i64 (w)))), (12, iv z), (13, iv i)], [.it (.code (nav [1, 1, 0, 1, 0, 0] (bodyOf Try.f97))), .it (.inLoop (nav [1, 1, 0, 1, 0, 0] (bodyOf Try.f97))), .it (.inBlock 0), .it (.code (nav [1, 1, 1] (bodyOf Try.f97)))], [], Option.none⟩], [(0, EK.seq 3 (.ints .i64 q) nn)], 1⟩
theorem in_t (w : List Int) (p : Int) : RUN (st0 97 [il w, iv p]) = (.at (sA (w) ([]) (false) (p) (Int.ofNat (List.length w)) ((0 : Int)))) := by kernel_rfl
theorem a_t (w q : List Int) (nn : Bool) (p z i : Int) : RUN (stOf (sA w q nn p z i)) = (bc (decide (i < z)) (bc (bc (bc (decide ((0 : Int) ≤ i)) (Nat.blt (Int.toNat i) (List.length w)) false) true false) (bc (bc (Nat.blt (Int.toNat i) (List.length w)) true false) (bc (decide (List.getD w (Int.toNat i) (0 : Int) < (0 : Int))) (bc (p == IntKind.wrap IntKind.i64 (IntKind.wrap IntKind.i64 ((0 : Int) - List.getD w (Int.toNat i) (0 : Int)) - (1 : Int))) (.at (sA (w) (q) (nn) (IntKind.wrap IntKind.i64 (IntKind.wrap IntKind.i64 (IntKind.wrap IntKind.i64 ((2 : Int) * IntKind.wrap IntKind.i64 ((0 : Int) - List.getD w (Int.toNat i) (0 : Int))) - (1 : Int)) - p)) (z) (IntKind.wrap IntKind.i64 (i + (1 : Int))))) (bc (p == IntKind.wrap IntKind.i64 ((0 : Int) - List.getD w (Int.toNat i) (0 : Int))) (.at (sA (w) (q) (nn) (IntKind.wrap IntKind.i64 (IntKind.wrap IntKind.i64 (IntKind.wrap IntKind.i64 ((2 : Int) * IntKind.wrap IntKind.i64 ((0 : Int) - List.getD w (Int.toNat i) (0 : Int))) - (1 : Int)) - p)) (z) (IntKind.wrap IntKind.i64 (i + (1 : Int))))) (bc (decide (p < IntKind.wrap IntKind.i64 ((0 : Int) - List.getD w (Int.toNat i) (0 : Int)))) (bc (bc (Nat.beq (List.length q) (List.length q)) (bc (Nat.ble (List.length q + List.length (List.map (fun r => U.int (List.headD r (U.i (0 : Int)))) [[U.i (IntKind.wrap IntKind.i64 ((-1 : Int) * IntKind.wrap IntKind.i64 (IntKind.wrap IntKind.i64 ((0 : Int) - List.getD w (Int.toNat i) (0 : Int)) - (1 : Int))))]])) (65536 : Nat)) (bc nn true (bc nn false true)) false) false) (.at (sA (w) (q ++ List.map (fun r => U.int (List.headD r (U.i (0 : Int)))) [[U.i (IntKind.wrap IntKind.i64 ((-1 : Int) * IntKind.wrap IntKind.i64 (IntKind.wrap IntKind.i64 ((0 : Int) - List.getD w (Int.toNat i) (0 : Int)) - (1 : Int))))]]) (bc nn true (Nat.blt (0 : Nat) (List.length (List.map (fun r => U.int (List.headD r (U.i (0 : Int)))) [[U.i (IntKind.wrap IntKind.i64 ((-1 : Int) * IntKind.wrap IntKind.i64 (IntKind.wrap IntKind.i64 ((0 : Int) - List.getD w (Int.toNat i) (0 : Int)) - (1 : Int))))]])))) (p) (z) (IntKind.wrap IntKind.i64 (i + (1 : Int))))) .bad) (bc (bc (Nat.beq (List.length q) (List.length q)) (bc (Nat.ble (List.length q + List.length (List.map (fun r => U.int (List.headD r (U.i (0 : Int)))) [[U.i (List.getD w (Int.toNat i) (0 : Int))]])) (65536 : Nat)) (bc nn true (bc nn false true)) false) false) (.at (sA (w) (q ++ List.map (fun r => U.int (List.headD r (U.i (0 : Int)))) [[U.i (List.getD w (Int.toNat i) (0 : Int))]]) (bc nn true (Nat.blt (0 : Nat) (List.length (List.map (fun r => U.int (List.headD r (U.i (0 : Int)))) [[U.i (List.getD w (Int.toNat i) (0 : Int))]])))) (p) (z) (IntKind.wrap IntKind.i64 (i + (1 : Int))))) .bad)))) (bc (p == IntKind.wrap IntKind.i64 (List.getD w (Int.toNat i) (0 : Int) - (1 : Int))) (.at (sA (w) (q) (nn) (IntKind.wrap IntKind.i64 (IntKind.wrap IntKind.i64 (IntKind.wrap IntKind.i64 ((2 : Int) * List.getD w (Int.toNat i) (0 : Int)) - (1 : Int)) - p)) (z) (IntKind.wrap IntKind.i64 (i + (1 : Int))))) (bc (p == List.getD w (Int.toNat i) (0 : Int)) (.at (sA (w) (q) (nn) (IntKind.wrap IntKind.i64 (IntKind.wrap IntKind.i64 (IntKind.wrap IntKind.i64 ((2 : Int) * List.getD w (Int.toNat i) (0 : Int)) - (1 : Int)) - p)) (z) (IntKind.wrap IntKind.i64 (i + (1 : Int))))) (bc (decide (p < List.getD w (Int.toNat i) (0 : Int))) (bc (bc (Nat.beq (List.length q) (List.length q)) (bc (Nat.ble (List.length q + List.length (List.map (fun r => U.int (List.headD r (U.i (0 : Int)))) [[U.i (IntKind.wrap IntKind.i64 ((1 : Int) * IntKind.wrap IntKind.i64 (List.getD w (Int.toNat i) (0 : Int) - (1 : Int))))]])) (65536 : Nat)) (bc nn true (bc nn false true)) false) false) (.at (sA (w) (q ++ List.map (fun r => U.int (List.headD r (U.i (0 : Int)))) [[U.i (IntKind.wrap IntKind.i64 ((1 : Int) * IntKind.wrap IntKind.i64 (List.getD w (Int.toNat i) (0 : Int) - (1 : Int))))]]) (bc nn true (Nat.blt (0 : Nat) (List.length (List.map (fun r => U.int (List.headD r (U.i (0 : Int)))) [[U.i (IntKind.wrap IntKind.i64 ((1 : Int) * IntKind.wrap IntKind.i64 (List.getD w (Int.toNat i) (0 : Int) - (1 : Int))))]])))) (p) (z) (IntKind.wrap IntKind.i64 (i + (1 : Int))))) .bad) (bc (bc (Nat.beq (List.length q) (List.length q)) (bc (Nat.ble (List.length q + List.length (List.map (fun r => U.int (List.headD r (U.i (0 : Int)))) [[U.i (List.getD w (Int.toNat i) (0 : Int))]])) (65536 : Nat)) (bc nn true (bc nn false true)) false) false) (.at (sA (w) (q ++ List.map (fun r => U.int (List.headD r (U.i (0 : Int)))) [[U.i (List.getD w (Int.toNat i) (0 : Int))]]) (bc nn true (Nat.blt (0 : Nat) (List.length (List.map (fun r => U.int (List.headD r (U.i (0 : Int)))) [[U.i (List.getD w (Int.toNat i) (0 : Int))]])))) (p) (z) (IntKind.wrap IntKind.i64 (i + (1 : Int))))) .bad))))) .bad) .bad) (bc (bc (Nat.beq (List.length q) (List.length q)) true false) (.done (EV.tup [(EV.lst (SyC.ints IntKind.i64 (q))), (EV.v (Value.int IntKind.i64 (p)))]) [] 0) .bad)) := by kernel_rfl

def othS (p : Nat) (x : Int) : List Int × Nat := if p + 1 = x.natAbs ∨ p = x.natAbs then ([], sw x.natAbs p) else if p < x.natAbs then ([lowL x], p) else ([x], p)
theorem oth_S (p : Nat) (x : Int) (w : List Int) : oth p (x :: w) = ((othS p x).1 ++ (oth (othS p x).2 w).1, (oth (othS p x).2 w).2) := by
  rw [oth_cons]; unfold othS; split
  · rfl
  · split <;> rfl
theorem step {w q : List Int} {nn : Bool} {p i j : Nat} {x : Int} (hi : i < w.length) (hx : w.getD i 0 = x) (hj : x.natAbs = j + 1) (hn : j ≤ 11) (hp : p ≤ 12) (hw : w.length ≤ 2000) (hq : q.length ≤ i) (hnn : nn = true ∨ q = []) : ∃ nn', RUN (stOf (sA w q nn p w.length i)) = .at (sA w (q ++ (othS p x).1) nn' ((othS p x).2 : Nat) w.length (i + 1 : Nat)) ∧ (nn' = true ∨ q ++ (othS p x).1 = []) := by
  rw [a_t, dt (show (i : Int) < (w.length : Int) by omega), bc_t]; have e0 : ((i : Int)).toNat = i := rfl; rw [e0, hx]; have w1 : IntKind.i64.wrap (((j + 1 : Nat) : Int) - 1) = (j : Int) := by rw [wrap_in _ (by omega) (by omega)]; omega
  have w2 : IntKind.i64.wrap (2 * ((j + 1 : Nat) : Int)) = 2 * ((j + 1 : Nat) : Int) := wrap_in _ (by omega) (by omega); have w3 : IntKind.i64.wrap (2 * ((j + 1 : Nat) : Int) - 1) = 2 * (j : Int) + 1 := by rw [wrap_in _ (by omega) (by omega)]; omega
  have w4 : IntKind.i64.wrap (-1 * (j : Int)) = -(j : Int) := by rw [wrap_in _ (by omega) (by omega)]; omega
  have w5 : IntKind.i64.wrap (1 * (j : Int)) = (j : Int) := by rw [wrap_in _ (by omega) (by omega)]; omega
  have w6 : IntKind.i64.wrap (2 * (j : Int) + 1 - (p : Int)) = 2 * (j : Int) + 1 - (p : Int) := wrap_in _ (by omega) (by omega); have hb : ∀ v : Int, bc nn true (Nat.blt 0 (List.length (List.map (fun r => U.int (List.headD r (U.i 0))) [[U.i v]]))) = true := fun v => by cases nn <;> rfl
  have hb2 : bc nn true (bc nn false true) = true := by cases nn <;> rfl
  unfold othS lowL; rw [hj]; have hs : (∃ s : Int, x = s * ((j + 1 : Nat) : Int) ∧ (s = -1 ∧ x < 0 ∨ s = 1 ∧ ¬ x < 0)) := by
    by_cases h : x < 0
    · exact ⟨-1, by omega, .inl ⟨rfl, h⟩⟩
    · exact ⟨1, by omega, .inr ⟨rfl, h⟩⟩
  have main : ∃ nn', (bc ((p : Int) == (j : Int)) (ZF.at (sA w q nn (2 * (j : Int) + 1 - (p : Int)) w.length (i + 1 : Nat))) (bc ((p : Int) == ((j + 1 : Nat) : Int)) (ZF.at (sA w q nn (2 * (j : Int) + 1 - (p : Int)) w.length (i + 1 : Nat))) (bc (decide ((p : Int) < ((j + 1 : Nat) : Int))) (ZF.at (sA w (q ++ [if x < 0 then x + 1 else x - 1]) true p w.length (i + 1 : Nat))) (ZF.at (sA w (q ++ [x]) true p w.length (i + 1 : Nat)))))) = ZF.at (sA w (q ++ (if p + 1 = j + 1 ∨ p = j + 1 then (([] : List Int), sw (j + 1) p) else if p < j + 1 then ([if x < 0 then x + 1 else x - 1], p) else ([x], p)).1) nn' ((if p + 1 = j + 1 ∨ p = j + 1 then (([] : List Int), sw (j + 1) p) else if p < j + 1 then ([if x < 0 then x + 1 else x - 1], p) else ([x], p)).2 : Nat) w.length (i + 1 : Nat)) ∧ (nn' = true ∨ q ++ (if p + 1 = j + 1 ∨ p = j + 1 then (([] : List Int), sw (j + 1) p) else if p < j + 1 then ([if x < 0 then x + 1 else x - 1], p) else ([x], p)).1 = []) := by
    by_cases c1 : p = j
    · subst c1; refine ⟨nn, ?_, ?_⟩
      · rw [show (((p : Int) == (p : Int)) = true) by simp, bc_t, if_pos (.inl rfl), List.append_nil, show sw (p + 1) p = p + 1 by unfold sw; rw [if_neg (by omega), if_pos rfl], show 2 * (p : Int) + 1 - p = ((p + 1 : Nat) : Int) by omega]
      · rw [if_pos (.inl rfl), List.append_nil]; exact hnn
    · rw [show (((p : Int) == (j : Int)) = false) by simp; omega, bc_f]
      by_cases c2 : p = j + 1
      · subst c2; refine ⟨nn, ?_, ?_⟩
        · rw [show ((((j + 1 : Nat) : Int) == ((j + 1 : Nat) : Int)) = true) by simp, bc_t, if_pos (.inr rfl), List.append_nil, show sw (j + 1) (j + 1) = j by unfold sw; rw [if_pos rfl]; omega, show 2 * (j : Int) + 1 - ((j + 1 : Nat) : Int) = (j : Int) by omega]
        · rw [if_pos (.inr rfl), List.append_nil]; exact hnn
      · rw [show (((p : Int) == ((j + 1 : Nat) : Int)) = false) by simp; omega, bc_f, if_neg (show ¬ (p + 1 = j + 1 ∨ p = j + 1) by omega)]
        by_cases c3 : p < j + 1
        · rw [if_pos c3, dt (show (p : Int) < ((j + 1 : Nat) : Int) by omega), bc_t]; exact ⟨true, rfl, .inl rfl⟩
        · rw [if_neg c3, df (show ¬ (p : Int) < ((j + 1 : Nat) : Int) by omega), bc_f]; exact ⟨true, rfl, .inl rfl⟩
  obtain ⟨nn', m1, m2⟩ := main; refine ⟨nn', Eq.trans ?_ m1, m2⟩; have m3 : ∀ v : Int, List.map (fun r => U.int (List.headD r (U.i 0))) [[U.i v]] = [v] := fun v => rfl
  by_cases hs : x < 0
  · have w0 : IntKind.i64.wrap (0 - x) = ((j + 1 : Nat) : Int) := by rw [wrap_in _ (by omega) (by omega)]; omega
    rw [dt hs, bc_t, w0, w1, w2, w3, w4, w6]; simp (disch := omega) only [Nat.add_eq, eqSy_self, eqN_self, bc_same, List.length_cons, ofn, wrap_in, dt, df, bltD, bltN, ble_of, bleN, beqD, bc_t, bc_f, nn_ok, Nat.zero_add, to_nat, Int.zero_add, Int.sub_zero, Int.sub_self, Int.cast_ofNat_Int, Int.natCast_zero, Int.toNat_zero, List.take_zero, List.nil_append, List.length_append, List.length_nil, hb, hb2, m3, if_pos hs]; rw [show -(j : Int) = x + 1 by omega]; rfl
  · obtain rfl : x = ((j + 1 : Nat) : Int) := by omega
    rw [df hs, bc_f, w1, w2, w3, w5, w6]; simp (disch := omega) only [Nat.add_eq, eqSy_self, eqN_self, bc_same, List.length_cons, ofn, wrap_in, dt, df, bltD, bltN, ble_of, bleN, beqD, bc_t, bc_f, nn_ok, Nat.zero_add, to_nat, Int.zero_add, Int.sub_zero, Int.sub_self, Int.cast_ofNat_Int, Int.natCast_zero, Int.toNat_zero, List.take_zero, List.nil_append, List.length_append, List.length_nil, hb, hb2, m3, if_neg hs]; rw [show ((j + 1 : Nat) : Int) - 1 = (j : Int) by omega]; rfl
theorem othS_lt {n p : Nat} {x : Int} (hk : 0 < x.natAbs ∧ x.natAbs < n) (hp : p < n) : (othS p x).2 < n := by
  unfold othS; split
  · exact sw_ltn hk hp
  · split <;> exact hp
theorem last {w q : List Int} {nn : Bool} {p : Nat} : RUN (stOf (sA w q nn p w.length w.length)) = .done (.tup [il q, iv p]) [] 0 := by
  rw [a_t, df (show ¬ (w.length : Int) < (w.length : Int) by omega), bc_f]; simp only [Nat.add_eq, eqSy_self, eqN_self, bc_same, List.length_cons, ofn, wrap_in, dt, df, bltD, bltN, ble_of, bleN, beqD, bc_t, bc_f, nn_ok, Nat.zero_add, to_nat, Int.zero_add, Int.sub_zero, Int.sub_self, Int.cast_ofNat_Int, Int.natCast_zero, Int.toNat_zero, List.take_zero, List.nil_append, List.length_append, List.length_nil]
theorem loop {w : List Int} (hn : n ≤ 12) (hw : w.length ≤ 2000) (h : Vld n w) : ∀ (k i : Nat) (q : List Int) (nn : Bool) (p : Nat), i + k = w.length → p < n → q.length ≤ i → (nn = true ∨ q = []) → EndZ 97 .nil false (stOf (sA w q nn p w.length i)) (.tup [il (q ++ (oth p (w.drop i)).1), iv ((oth p (w.drop i)).2 : Nat)]) [] 0
  | 0, i, q, nn, p, hi, hp, hq, hnn => by
    obtain rfl : i = w.length := by omega
    rw [List.drop_length, show oth p [] = ([], p) from rfl, List.append_nil]
    exact .done last
  | k + 1, i, q, nn, p, hi, hp, hq, hnn => by
    have hi2 : i < w.length := by omega
    have hk : 0 < (w.getD i 0).natAbs ∧ (w.getD i 0).natAbs < n := (show Vld n [w.getD i 0] from fun x hx => by
      rw [List.mem_singleton.1 hx, getD_at hi2]; exact h _ (List.getElem_mem _)).head
    obtain ⟨nn', h1, h2⟩ := step (p := p) hi2 rfl (show (w.getD i 0).natAbs = (w.getD i 0).natAbs - 1 + 1 by omega) (by omega) (by omega) hw hq hnn; rw [List.drop_eq_getElem_cons hi2, oth_S, ← getD_at hi2, ← List.append_assoc]; refine .at (.nil _) h1 (loop hn hw h k (i + 1) _ nn' _ (by omega) (othS_lt hk hp) ?_ h2); rw [List.length_append]; have : (othS p (w.getD i 0)).1.length ≤ 1 := by
      unfold othS; split
      · exact Nat.zero_le _
      · split <;> exact Nat.le_refl _
    omega
end POth

def OthOk (w : List Int) (p : Int) : Prop := w.length ≤ 2000 ∧ Vld 12 w ∧ 0 ≤ p ∧ p < 12
noncomputable instance (w : List Int) (p : Int) : Decidable (OthOk w p) := Classical.propDecidable _
noncomputable def spPOth : ZCT := fun ax => match ax with
  | [.lst (.ints .i64 w), .v (.int .i64 p)] => some ⟨decide (OthOk w p), .tup [il (oth p.toNat w).1, iv ((oth p.toNat w).2 : Nat)], [], 0⟩
  | _ => none
theorem spPOth_ok : ZCtOk Try.prog 97 spPOth := fun γ w us ax r hs hc hax hN hfz => by
  unfold spPOth at hs; split at hs
  case h_2 => cases hs
  rename_i w p; obtain ⟨rfl⟩ := Option.some.inj hs; have hc_0 : decide (OthOk w p) = true := hc; have hc := of_decide_eq_true hc_0; exact EndZ.calls (by
    obtain ⟨h1, h2, h3, h4⟩ := hc; obtain ⟨p, rfl⟩ := Int.eq_ofNat_of_zero_le h3; exact .at (.nil _) (POth.in_t w p) (POth.loop (Nat.le_refl _) h1 h2 w.length 0 [] false p (by omega) (by omega) (Nat.zero_le _) (.inr rfl))) (.nil _) (by kernel_rfl) hax hN hfz
end Go.Proofs.Ytooimphimnagaaa.Ev
namespace Go.Proofs.Ytooimphimnagaaa.Ev
open Go.Proofs
variable {n : Nat}
namespace PDrp
noncomputable def ct : Tr ZCC := (Tr.nil.put 83 (some (dC spPChk))).put 97 (some (dC spPOth))
theorem ct_ok : ZCtsOk Try.prog ct := ((ZCtsOk.nil _).add rfl spPChk_ok).add rfl spPOth_ok
noncomputable def RUN (s : ES) : ZF := RZ 52 ct (fun _ => false) [] [] false s
theorem in_t (n : Int) (w : List Int) (p : Int) : RUN (st0 52 [iv n, il w, iv p]) = (bc (chk n w != (0 : Int)) (.done (EV.tup [(EV.v (Value.slice Option.none 0 0)), (EV.v (Value.int IntKind.i64 (chk n w)))]) [] 0) (bc (decide (p < (0 : Int))) (.done (EV.tup [(EV.v (Value.slice Option.none 0 0)), (EV.v (Value.int IntKind.i64 (7)))]) [] 0) (bc (decide (n ≤ p)) (.done (EV.tup [(EV.v (Value.slice Option.none 0 0)), (EV.v (Value.int IntKind.i64 (7)))]) [] 0) (bc (n == (1 : Int)) (.done (EV.tup [(EV.v (Value.slice Option.none 0 0)), (EV.v (Value.int IntKind.i64 (2)))]) [] 0) (bc (decide (OthOk w p)) (.done (EV.tup [(EV.lst (SyC.ints IntKind.i64 (Prod.fst (oth (Int.toNat p) w)))), (EV.v (Value.int IntKind.i64 (0)))]) [] 0) .bad))))) := by kernel_rfl

noncomputable def drpE (n : Int) (w : List Int) (p : Int) : Int := bc (chk n w != 0) (chk n w) (bc (decide (p < 0)) 7 (bc (decide (n ≤ p)) 7 (bc (n == 1) 2 0)))
theorem othOk {n : Int} {w : List Int} {p : Int} (z : chk n w = 0) (h1 : ¬ p < 0) (h2 : ¬ n ≤ p) : OthOk w p := by
  obtain ⟨⟨w0, w1, w2, w3⟩, _⟩ := chk_wok z; exact ⟨w2, vld_more (by omega) w3, by omega, by omega⟩
theorem ends (n : Int) (w : List Int) (p : Int) : EndZ 52 ct false (st0 52 [iv n, il w, iv p]) (resL (drpE n w p) (oth p.toNat w).1) [] 0 := by
  have h := in_t n w p
  by_cases z : chk n w = 0
  · rw [z, show ((0 : Int) != 0) = false from rfl, bc_f] at h
    have e1 : drpE n w p = bc (decide (p < 0)) 7 (bc (decide (n ≤ p)) 7 (bc (n == 1) 2 0)) := by unfold drpE; rw [z]; rfl
    by_cases h1 : p < 0
    · rw [dt h1, bc_t] at h e1; rw [e1]; exact (EndZ.done h).weak (resL_err _ (by decide))
    rw [df h1, bc_f] at h e1
    by_cases h2 : n ≤ p
    · rw [dt h2, bc_t] at h e1; rw [e1]; exact (EndZ.done h).weak (resL_err _ (by decide))
    rw [df h2, bc_f] at h e1
    by_cases h3 : n = 1
    · rw [show (n == 1) = true by simp [h3], bc_t] at h e1; rw [e1]; exact (EndZ.done h).weak (resL_err _ (by decide))
    · rw [show (n == 1) = false by simp [h3], bc_f] at h e1; rw [dt (othOk z h1 h2), bc_t] at h; rw [resL_ok _ e1]; exact .done h
  · have e1 : drpE n w p = chk n w := by unfold drpE; rw [show (chk n w != 0) = true by simp [z], bc_t]
    rw [show (chk n w != 0) = true by simp [z], bc_t] at h; rw [e1]; exact (EndZ.done h).weak (resL_err _ z)
end PDrp
noncomputable def spPDrp : ZCT := fun ax => match ax with
  | [.v (.int .i64 n), .lst (.ints .i64 w), .v (.int .i64 p)] => some ⟨decide (True), resL (PDrp.drpE n w p) (oth p.toNat w).1, [], 0⟩
  | _ => none
theorem spPDrp_ok : ZCtOk Try.prog 52 spPDrp := fun γ w us ax r hs hc hax hN hfz => by
  unfold spPDrp at hs; split at hs
  case h_2 => cases hs
  rename_i n w p; obtain ⟨rfl⟩ := Option.some.inj hs; have hc_0 : decide (True) = true := hc; have hc := of_decide_eq_true hc_0; exact EndZ.calls (PDrp.ends n w p) PDrp.ct_ok (by kernel_rfl) hax hN hfz
namespace PLay
noncomputable def RUN (s : ES) : ZF := RZs 54 PDrp.ct [(atS 0 54 11, [[(0,none),(1,none),(2,none),(11,none),(12,some (1, 3, .ints .i64 [])),(13,none)]]), (atS 0 54 17, [[(11,none),(12,none),(15,none),(16,none)]])] [] false s

noncomputable def sA (n : Int) (w : List Int) (p s : Int) (q : List Int) (nn : Bool) (k : Int) : NS := ⟨[⟨54, 73, [(0, (EV.v (Value.int IntKind.i64 (n)))), (1, (EV.lst (SyC.ints IntKind.i64 (w)))), (2, iv p), (11, iv s), (12, EV.slO 0 1 q.length nn), (13, iv k)], [.it (.code (nav [1, 1, 1, 1, 1, 0, 1, 0, 0, 0] (bodyOf Try.f54))), .it (.code (nav [1, 1, 1, 1, 1, 0, 1, 0, 0, 1] (bodyOf Try.f54))), .it (.inLoop (nav [1, 1, 1, 1, 1, 0, 1, 0, 0] (bodyOf Try.f54))), .it (.inBlock 1), .it (.code (nav [1, 1, 1, 1, 1, 1] (bodyOf Try.f54)))], [], Option.none⟩], [(0, EK.seq 3 (.ints .i64 q) nn)], 1⟩
noncomputable def sB (s : Int) (q : List Int) (nn : Bool) (p k : Int) : NS := ⟨[⟨54, 73, [(11, iv s), (12, EV.slO 0 1 q.length nn), (15, iv p), (16, iv k)], [.it (.code (nav [1, 1, 1, 1, 1, 1, 1, 1, 0, 1, 0, 0, 0] (bodyOf Try.f54))), .it (.code (nav [1, 1, 1, 1, 1, 1, 1, 1, 0, 1, 0, 0, 1] (bodyOf Try.f54))), .it (.inLoop (nav [1, 1, 1, 1, 1, 1, 1, 1, 0, 1, 0, 0] (bodyOf Try.f54))), .it (.inBlock 3), .it (.code (nav [1, 1, 1, 1, 1, 1, 1, 1, 1] (bodyOf Try.f54)))], [], Option.none⟩], [(0, EK.seq 3 (.ints .i64 q) nn)], 1⟩
theorem in_t (n : Int) (w : List Int) (p : Int) (a : Bool) : RUN (st0 54 [iv n, il w, iv p, bv a]) = (bc (chk n w != (0 : Int)) (.done (EV.tup [(EV.v (Value.slice Option.none 0 0)), (EV.v (Value.int IntKind.i64 (chk n w)))]) [] 0) (bc (decide (p < (0 : Int))) (.done (EV.tup [(EV.v (Value.slice Option.none 0 0)), (EV.v (Value.int IntKind.i64 (7)))]) [] 0) (bc (decide (n ≤ p)) (.done (EV.tup [(EV.v (Value.slice Option.none 0 0)), (EV.v (Value.int IntKind.i64 (7)))]) [] 0) (bc (a) (.at (sA (n) (w) (p) ((1 : Int)) ([]) (false) (IntKind.wrap IntKind.i64 (p + (1 : Int))))) (.at (sA (n) (w) (p) ((-1 : Int)) ([]) (false) (IntKind.wrap IntKind.i64 (p + (1 : Int))))))))) := by kernel_rfl
theorem a_t (n : Int) (w : List Int) (p s : Int) (q : List Int) (nn : Bool) (k : Int) : RUN (stOf (sA n w p s q nn k)) = (bc (decide (k < n)) (bc (bc (Nat.beq (List.length q) (List.length q)) (bc (Nat.ble (List.length q + List.length (List.map (fun r => U.int (List.headD r (U.i (0 : Int)))) [[U.i (IntKind.wrap IntKind.i64 (s * k))]])) (65536 : Nat)) (bc nn true (bc nn false true)) false) false) (.at (sA (n) (w) (p) (s) (q ++ List.map (fun r => U.int (List.headD r (U.i (0 : Int)))) [[U.i (IntKind.wrap IntKind.i64 (s * k))]]) (bc nn true (Nat.blt (0 : Nat) (List.length (List.map (fun r => U.int (List.headD r (U.i (0 : Int)))) [[U.i (IntKind.wrap IntKind.i64 (s * k))]])))) (IntKind.wrap IntKind.i64 (k + (1 : Int))))) .bad) (bc (decide (OthOk w p)) (bc (bc (Nat.beq (List.length q) (List.length q)) (bc (Nat.ble (List.length q + List.length (Prod.fst (oth (Int.toNat p) w))) (65536 : Nat)) (bc nn true (bc nn false true)) false) false) (.at (sB (s) (q ++ Prod.fst (oth (Int.toNat p) w)) (bc nn true (Nat.blt (0 : Nat) (List.length (Prod.fst (oth (Int.toNat p) w))))) ((Nat.cast (Prod.snd (oth (Int.toNat p) w)) : Int)) (IntKind.wrap IntKind.i64 (n - (1 : Int))))) .bad) .bad)) := by kernel_rfl
theorem b_t (s : Int) (q : List Int) (nn : Bool) (p k : Int) : RUN (stOf (sB s q nn p k)) = (bc (decide (p < k)) (bc (bc (Nat.beq (List.length q) (List.length q)) (bc (Nat.ble (List.length q + List.length (List.map (fun r => U.int (List.headD r (U.i (0 : Int)))) [[U.i (IntKind.wrap IntKind.i64 (IntKind.wrap IntKind.i64 ((0 : Int) - s) * k))]])) (65536 : Nat)) (bc nn true (bc nn false true)) false) false) (.at (sB (s) (q ++ List.map (fun r => U.int (List.headD r (U.i (0 : Int)))) [[U.i (IntKind.wrap IntKind.i64 (IntKind.wrap IntKind.i64 ((0 : Int) - s) * k))]]) (bc nn true (Nat.blt (0 : Nat) (List.length (List.map (fun r => U.int (List.headD r (U.i (0 : Int)))) [[U.i (IntKind.wrap IntKind.i64 (IntKind.wrap IntKind.i64 ((0 : Int) - s) * k))]])))) (p) (IntKind.wrap IntKind.i64 (k - (1 : Int))))) .bad) (bc (decide ((400 : Int) < Int.ofNat (List.length q))) (.done (EV.tup [(EV.v (Value.slice Option.none 0 0)), (EV.v (Value.int IntKind.i64 (3)))]) [] 0) (bc (bc (Nat.beq (List.length q) (List.length q)) true false) (.done (EV.tup [(EV.lst (SyC.ints IntKind.i64 (q))), (EV.v (Value.int IntKind.i64 (0)))]) [] 0) .bad))) := by kernel_rfl

noncomputable def sgn (a : Bool) : Int := bc a 1 (-1)
theorem sgn_ok (a : Bool) : sgn a = 1 ∨ sgn a = -1 := by cases a; exact .inr rfl; exact .inl rfl
theorem m3 (v : Int) : List.map (fun r => U.int (List.headD r (U.i 0))) [[U.i v]] = [v] := rfl
theorem hb (nn : Bool) (v : Int) : bc nn true (Nat.blt 0 (List.length [v])) = true := by cases nn <;> rfl
theorem hb2 (nn : Bool) : bc nn true (bc nn false true) = true := by cases nn <;> rfl
theorem hb3 {nn : Bool} {q : List Int} (h : nn = true ∨ q = []) (r : List Int) : bc nn true (Nat.blt 0 r.length) = true ∨ q ++ r = [] := by
  cases nn with
  | true => exact .inl rfl
  | false =>
    have h : q = [] := by simpa using h
    subst h
    cases r with
    | nil => exact .inr rfl
    | cons x r => exact .inl rfl
theorem wsg {s : Int} (hs : s = 1 ∨ s = -1) {k : Int} (h0 : 0 ≤ k) (h1 : k ≤ 20) : IntKind.i64.wrap (s * k) = s * k := by
  rcases hs with h | h <;> subst h <;> exact wrap_in _ (by omega) (by omega)
theorem wsn {s : Int} (hs : s = 1 ∨ s = -1) : IntKind.i64.wrap (0 - s) = -s := by
  rcases hs with h | h <;> subst h <;> rfl
theorem stepA {w q : List Int} {p s : Int} {nn : Bool} {k : Nat} (hs : s = 1 ∨ s = -1) (hk : k < n) (hn : n ≤ 12) (hq : q.length ≤ 20) : RUN (stOf (sA n w p s q nn k)) = .at (sA n w p s (q ++ [s * (k : Int)]) true (k + 1 : Nat)) := by
  rw [a_t, dt (show (k : Int) < n by omega), bc_t, m3, wsg hs (by omega) (by omega), hb, hb2]; simp (disch := omega) only [Nat.add_eq, eqSy_self, eqN_self, bc_same, List.length_cons, ofn, wrap_in, dt, df, bltD, bltN, ble_of, bleN, beqD, bc_t, bc_f, nn_ok, Nat.zero_add, to_nat, Int.zero_add, Int.sub_zero, Int.sub_self, Int.cast_ofNat_Int, Int.natCast_zero, Int.toNat_zero, List.take_zero, List.nil_append, List.length_append, List.length_nil]; rfl
theorem midA {w q : List Int} {p s : Int} {nn : Bool} {k : Nat} (hk : n ≤ k) (hw : w.length ≤ 2000) (hn1 : 1 ≤ n) (hn : n ≤ 12) (hq : q.length ≤ 20) (hp : OthOk w p) : RUN (stOf (sA n w p s q nn k)) = .at (sB s (q ++ (oth p.toNat w).1) (bc nn true (Nat.blt 0 (oth p.toNat w).1.length)) ((oth p.toNat w).2 : Nat) ((n : Int) - 1)) := by
  have h1 := oth_len w p.toNat; rw [a_t, df (show ¬ (k : Int) < n by omega), bc_f, dt hp, bc_t, hb2, wrap_in ((n : Int) - 1) (by omega) (by omega)]; simp (disch := omega) only [Nat.add_eq, eqSy_self, eqN_self, bc_same, List.length_cons, ofn, wrap_in, dt, df, bltD, bltN, ble_of, bleN, beqD, bc_t, bc_f, nn_ok, Nat.zero_add, to_nat, Int.zero_add, Int.sub_zero, Int.sub_self, Int.cast_ofNat_Int, Int.natCast_zero, Int.toNat_zero, List.take_zero, List.nil_append, List.length_append, List.length_nil]
theorem stepB {q : List Int} {s : Int} {nn : Bool} {p k : Nat} (hs : s = 1 ∨ s = -1) (hk : p < k) (hk2 : k ≤ 20) (hq : q.length ≤ 3000) : RUN (stOf (sB s q nn p k)) = .at (sB s (q ++ [-s * (k : Int)]) true p ((k : Int) - 1)) := by
  rw [b_t, dt (show (p : Int) < k by omega), bc_t, m3, wsn hs, wsg (neg_sgn hs) (by omega) (by omega), hb, hb2, wrap_in ((k : Int) - 1) (by omega) (by omega)]; simp (disch := omega) only [Nat.add_eq, eqSy_self, eqN_self, bc_same, List.length_cons, ofn, wrap_in, dt, df, bltD, bltN, ble_of, bleN, beqD, bc_t, bc_f, nn_ok, Nat.zero_add, to_nat, Int.zero_add, Int.sub_zero, Int.sub_self, Int.cast_ofNat_Int, Int.natCast_zero, Int.toNat_zero, List.take_zero, List.nil_append, List.length_append, List.length_nil]
theorem lastB {q : List Int} {s : Int} {nn : Bool} {p k : Int} (hk : k ≤ p) : RUN (stOf (sB s q nn p k)) = bc (decide (400 < (q.length : Int))) (.done (.tup [.v (.slice none 0 0), iv 3]) [] 0) (.done (.tup [il q, iv 0]) [] 0) := by
  rw [b_t, df (show ¬ p < k by omega), bc_f]; simp only [Nat.add_eq, eqSy_self, eqN_self, bc_same, List.length_cons, ofn, wrap_in, dt, df, bltD, bltN, ble_of, bleN, beqD, bc_t, bc_f, nn_ok, Nat.zero_add, to_nat, Int.zero_add, Int.sub_zero, Int.sub_self, Int.cast_ofNat_Int, Int.natCast_zero, Int.toNat_zero, List.take_zero, List.nil_append, List.length_append, List.length_nil]
theorem loopB {s : Int} (hs : s = 1 ∨ s = -1) (p : Nat) : ∀ (d : Nat) (q : List Int) (nn : Bool), p + d ≤ 20 → q.length + d ≤ 2900 → (nn = true ∨ q = []) → EndZ 54 PDrp.ct false (stOf (sB s q nn p ((p : Int) + d))) (resL (bc (decide (400 < (q ++ dnW (-s) p d).length)) 3 0) (q ++ dnW (-s) p d)) [] 0
  | 0, q, nn, hd, hq, hnn => by
    rw [show dnW (-s) p 0 = [] from rfl, List.append_nil]
    have h := lastB (s := s) (q := q) (nn := nn) (p := p) (k := (p : Int) + (0 : Nat)) (by omega)
    by_cases c : 400 < q.length
    · rw [dt (show (400 : Int) < (q.length : Int) by omega), bc_t] at h; rw [dt c, bc_t]; exact (EndZ.done h).weak (resL_err _ (by decide))
    · rw [df (show ¬ (400 : Int) < (q.length : Int) by omega), bc_f] at h; rw [df c, bc_f]; exact .done h
  | d + 1, q, nn, hd, hq, hnn => by
    have h := stepB (s := s) (q := q) (nn := nn) (p := p) (k := p + (d + 1)) hs (by omega) (by omega) (by omega); rw [show (((p + (d + 1) : Nat) : Int) - 1) = (p : Int) + (d : Nat) by omega] at h; have e : q ++ dnW (-s) p (d + 1) = (q ++ [-s * ((p + (d + 1) : Nat) : Int)]) ++ dnW (-s) p d := by
      rw [List.append_assoc]; rfl
    rw [e]; exact .at PDrp.ct_ok h (loopB hs p d _ true (by omega) (by rw [List.length_append, List.length_singleton]; omega) (.inl rfl))
theorem loopA {w : List Int} {p : Nat} {s : Int} (hs : s = 1 ∨ s = -1) (hn : n ≤ 12) (hw : w.length ≤ 2000) (hv : Vld n w) (hp : p < n) (hpo : OthOk w p) : ∀ (d a : Nat) (q : List Int) (nn : Bool), a + 1 + d = n → q.length ≤ a → (nn = true ∨ q = []) → EndZ 54 PDrp.ct false (stOf (sA n w p s q nn (a + 1 : Nat))) (resL (bc (decide (400 < (q ++ upW s a d ++ (oth p w).1 ++ dnW (-s) (oth p w).2 (n - 1 - (oth p w).2)).length)) 3 0) (q ++ upW s a d ++ (oth p w).1 ++ dnW (-s) (oth p w).2 (n - 1 - (oth p w).2))) [] 0
  | 0, a, q, nn, hd, hq, hnn => by
    have h := midA (s := s) (q := q) (nn := nn) (k := a + 1) (by omega) hw (by omega) hn (by omega) hpo; have h1 := gW_lt hv hp; rw [← oth_at] at h1; rw [show ((p : Int)).toNat = p from rfl, show (n : Int) - 1 = ((oth p w).2 : Int) + ((n - 1 - (oth p w).2 : Nat) : Int) by omega] at h
    rw [show upW s a 0 = [] from rfl, List.append_nil]
    have h3 := oth_len w p; exact .at PDrp.ct_ok h (loopB hs _ _ _ _ (by omega) (by rw [List.length_append]; omega) (hb3 hnn _))
  | d + 1, a, q, nn, hd, hq, hnn => by
    have h := stepA (w := w) (p := p) (s := s) (q := q) (nn := nn) (k := a + 1) hs (show a + 1 < n by omega) hn (by omega); have e : q ++ upW s a (d + 1) = (q ++ [s * ((a + 1 : Nat) : Int)]) ++ upW s (a + 1) d := by
      rw [List.append_assoc]; rfl
    rw [e]; exact .at PDrp.ct_ok h (loopA hs hn hw hv hp hpo d (a + 1) _ true (by omega) (by rw [List.length_append, List.length_singleton]; omega) (.inl rfl))

noncomputable def layE (n : Int) (w : List Int) (p : Int) (a : Bool) : Int := bc (chk n w != 0) (chk n w) (bc (decide (p < 0)) 7 (bc (decide (n ≤ p)) 7 (bc (decide (400 < (layW n.toNat w p.toNat (sgn a)).length)) 3 0)))
theorem ends (n : Int) (w : List Int) (p : Int) (a : Bool) : EndZ 54 PDrp.ct false (st0 54 [iv n, il w, iv p, bv a]) (resL (layE n w p a) (layW n.toNat w p.toNat (sgn a))) [] 0 := by
  have h := in_t n w p a
  by_cases z : chk n w = 0
  · rw [z, show ((0 : Int) != 0) = false from rfl, bc_f] at h
    have e1 : layE n w p a = bc (decide (p < 0)) 7 (bc (decide (n ≤ p)) 7 (bc (decide (400 < (layW n.toNat w p.toNat (sgn a)).length)) 3 0)) := by unfold layE; rw [z]; rfl
    by_cases h1 : p < 0
    · rw [dt h1, bc_t] at h e1; rw [e1]; exact (EndZ.done h).weak (resL_err _ (by decide))
    rw [df h1, bc_f] at h e1
    by_cases h2 : n ≤ p
    · rw [dt h2, bc_t] at h e1; rw [e1]; exact (EndZ.done h).weak (resL_err _ (by decide))
    rw [df h2, bc_f] at h e1; have ho := PDrp.othOk z h1 h2; obtain ⟨⟨w0, w1, w2, w3⟩, _⟩ := chk_wok z; obtain ⟨n, rfl⟩ := Int.eq_ofNat_of_zero_le (show 0 ≤ n by omega); obtain ⟨p, rfl⟩ := Int.eq_ofNat_of_zero_le (show 0 ≤ p by omega); have e2 : IntKind.i64.wrap ((p : Int) + 1) = ((p + 1 : Nat) : Int) := by rw [wrap_in _ (by omega) (by omega)]; omega
    have e3 : bc a (.at (sA n w p 1 [] false ((p + 1 : Nat) : Int))) (.at (sA n w p (-1) [] false ((p + 1 : Nat) : Int))) = ZF.at (sA n w p (sgn a) [] false ((p + 1 : Nat) : Int)) := by cases a <;> rfl
    rw [e2] at h; have h5 := h.trans e3; rw [e1]; have h6 := loopA (sgn_ok a) (by omega) w2 w3 (by omega) ho (n - 1 - p) p [] false (by omega) (Nat.zero_le _) (.inr rfl); rw [List.nil_append] at h6; exact .at PDrp.ct_ok h5 h6
  · have e1 : layE n w p a = chk n w := by unfold layE; rw [show (chk n w != 0) = true by simp [z], bc_t]
    rw [show (chk n w != 0) = true by simp [z], bc_t] at h; rw [e1]; exact (EndZ.done h).weak (resL_err _ z)
end PLay
noncomputable def spPLay : ZCT := fun ax => match ax with
  | [.v (.int .i64 n), .lst (.ints .i64 w), .v (.int .i64 p), .v (.bool a)] => some ⟨decide (True), resL (PLay.layE n w p a) (layW n.toNat w p.toNat (PLay.sgn a)), [], 0⟩
  | _ => none
theorem spPLay_ok : ZCtOk Try.prog 54 spPLay := fun γ w us ax r hs hc hax hN hfz => by
  unfold spPLay at hs; split at hs
  case h_2 => cases hs
  rename_i n w p a; obtain ⟨rfl⟩ := Option.some.inj hs; have hc_0 : decide (True) = true := hc; have hc := of_decide_eq_true hc_0; exact EndZ.calls (PLay.ends n w p a) PDrp.ct_ok (by kernel_rfl) hax hN hfz
end Go.Proofs.Ytooimphimnagaaa.Ev
namespace Go.Proofs.Ytooimphimnagaaa.Ev
variable {n : Nat}

noncomputable instance pmDec (p q : Pm n) : Decidable (p = q) := Classical.propDecidable _
end Go.Proofs.Ytooimphimnagaaa.Ev
namespace Go.Proofs.Ytooimphimnagaaa.Ev
open Go.Proofs
namespace RLin
end RLin
namespace RAft
end RAft
namespace RFin
end RFin
namespace RTrn
end RTrn
namespace RFlt
end RFlt
end Go.Proofs.Ytooimphimnagaaa.Ev
namespace Go.Proofs.Ytooimphimnagaaa.Ev
open Go.Proofs
variable {n : Nat}
namespace RLin
end RLin
namespace RAft
end RAft
namespace RFin
end RFin
namespace RTrn
end RTrn
namespace RFlt
end RFlt
end Go.Proofs.Ytooimphimnagaaa.Ev
namespace Go.Proofs.Ytooimphimnagaaa.Ev
open Go.Proofs
namespace RWo
end RWo
namespace RSli
end RSli
end Go.Proofs.Ytooimphimnagaaa.Ev
namespace Go.Proofs.Ytooimphimnagaaa.Ev
open Go.Proofs
variable {n : Nat}
namespace RWo
end RWo
namespace RSli
end RSli
end Go.Proofs.Ytooimphimnagaaa.Ev
namespace Go.Proofs.Ytooimphimnagaaa.Ev
open Go.Proofs
namespace RNrm
end RNrm
end Go.Proofs.Ytooimphimnagaaa.Ev
namespace Go.Proofs.Ytooimphimnagaaa.Ev
open Go.Proofs
variable {n : Nat}
namespace RNrm
end RNrm
end Go.Proofs.Ytooimphimnagaaa.Ev
namespace Go.Proofs.Ytooimphimnagaaa.Ev
open Go.Proofs
theorem eqLI_head (x y : Int) (a b : List Int) : eqLI (x :: a) (y :: b) = bc (x != y) false (eqLI a b) := by
  by_cases h : x = y
  · have e : (x != y) = false := by simp [h]
    rw [e, bc_f]
    cases hq : eqLI a b with
    | true => rw [h, eqLI_iff.1 hq, eqLI_iff.2 rfl]
    | false =>
      cases hx : eqLI (x :: a) (y :: b) with
      | false => rfl
      | true =>
        have := List.cons.inj (eqLI_iff.1 hx); rw [eqLI_iff.2 this.2] at hq; cases hq
  · have e : (x != y) = true := by simp [h]
    rw [e, bc_t]
    cases hx : eqLI (x :: a) (y :: b) with
    | false => rfl
    | true => exact absurd (List.cons.inj (eqLI_iff.1 hx)).1 h
theorem eqLI_len {a b : List Int} (h : a.length ≠ b.length) : eqLI a b = false := by
  cases hx : eqLI a b with
  | false => rfl
  | true => exact absurd (congrArg List.length (eqLI_iff.1 hx)) h
namespace RSin
noncomputable def RUN (s : ES) : ZF := RZ 47 .nil (atS 0 47 4) [] [[(0,none),(1,none),(5,none)]] false s

noncomputable def sS (a b : List Int) (i : Int) : NS := ⟨[⟨47, 26, [(0, (EV.lst (SyC.ints IntKind.i64 (a)))), (1, (EV.lst (SyC.ints IntKind.i64 (b)))), (5, iv i)], [.it (.code (nav [1, 1, 0, 1, 0, 0, 0] (bodyOf Try.f47))), .it (.code (nav [1, 1, 0, 1, 0, 0, 1] (bodyOf Try.f47))), .it (.inLoop (nav [1, 1, 0, 1, 0, 0] (bodyOf Try.f47))), .it (.inBlock 0), .it (.code (nav [1, 1, 1] (bodyOf Try.f47)))], [], Option.none⟩], [], 0⟩
theorem in_t (a b : List Int) : RUN (st0 47 [il a, il b]) = (bc (Int.ofNat (List.length a) != Int.ofNat (List.length b)) (.done (EV.v (Value.bool false)) [] 0) (.at (sS (a) (b) ((0 : Int))))) := by kernel_rfl
theorem step_t (a b : List Int) (i : Int) : RUN (stOf (sS a b i)) = (bc (decide (i < Int.ofNat (List.length a))) (bc (bc (bc (bc (bc (decide ((0 : Int) ≤ i)) (Nat.blt (Int.toNat i) (List.length a)) false) true false) (bc (bc (Nat.blt (Int.toNat i) (List.length a)) true false) (bc (bc (bc (decide ((0 : Int) ≤ i)) (Nat.blt (Int.toNat i) (List.length b)) false) true false) (bc (bc (Nat.blt (Int.toNat i) (List.length b)) true false) true false) false) false) false) true false) (bc (List.getD a (Int.toNat i) (0 : Int) != List.getD b (Int.toNat i) (0 : Int)) (.done (EV.v (Value.bool false)) [] 0) (.at (sS (a) (b) (IntKind.wrap IntKind.i64 (i + (1 : Int)))))) .bad) (.done (EV.v (Value.bool true)) [] 0)) := by kernel_rfl
theorem loop {a b : List Int} (hl : a.length = b.length) (hz : a.length ≤ 100000) : ∀ (k i : Nat), i + k = a.length → EndZ 47 .nil false (stOf (sS a b i)) (bv (eqLI (a.drop i) (b.drop i))) [] 0
  | 0, i, h => by
    have hs := step_t a b i; rw [List.drop_eq_nil_of_le (by omega), List.drop_eq_nil_of_le (by omega), eqLI_iff.2 rfl]; simp (disch := omega) only [Nat.add_eq, eqSy_self, eqN_self, bc_same, List.length_cons, ofn, wrap_in, dt, df, bltD, bltN, ble_of, bleN, beqD, bc_t, bc_f, nn_ok, Nat.zero_add, to_nat, Int.zero_add, Int.sub_zero, Int.sub_self, Int.cast_ofNat_Int, Int.natCast_zero, Int.toNat_zero, List.take_zero, List.nil_append, List.length_append, List.length_nil] at hs; exact .done hs
  | k + 1, i, h => by
    have hi : i < a.length := by omega
    have hi2 : i < b.length := by omega
    have hs := step_t a b i; have e1 : a.getD i 0 = a[i] := getD_at hi; have e2 : b.getD i 0 = b[i] := getD_at hi2; rw [to_nat, e1, e2] at hs; rw [List.drop_eq_getElem_cons hi, List.drop_eq_getElem_cons hi2, eqLI_head]; simp (disch := omega) only [Nat.add_eq, eqSy_self, eqN_self, bc_same, List.length_cons, ofn, wrap_in, dt, df, bltD, bltN, ble_of, bleN, beqD, bc_t, bc_f, nn_ok, Nat.zero_add, to_nat, Int.zero_add, Int.sub_zero, Int.sub_self, Int.cast_ofNat_Int, Int.natCast_zero, Int.toNat_zero, List.take_zero, List.nil_append, List.length_append, List.length_nil] at hs
    cases hq : a[i] != b[i] with
    | true => rw [hq] at hs; exact .done hs
    | false => rw [hq] at hs; exact .at (.nil _) hs (loop hl hz k (i + 1) (by omega))
theorem ends {a b : List Int} (hz : a.length ≤ 100000) : EndZ 47 .nil false (st0 47 [il a, il b]) (bv (eqLI a b)) [] 0 := by
  have h := in_t a b
  by_cases hl : a.length = b.length
  · have e : (Int.ofNat a.length != Int.ofNat b.length) = false := by simp [hl]
    rw [e, bc_f] at h; exact .at (.nil _) h (loop hl hz a.length 0 (by omega))
  · have e : (Int.ofNat a.length != Int.ofNat b.length) = true := by simp; omega
    rw [e, bc_t] at h; rw [eqLI_len hl]; exact .done h
end RSin
noncomputable def spRSin : ZCT := fun ax => match ax with
  | [.lst (.ints .i64 a), .lst (.ints .i64 b)] => some ⟨decide (a.length ≤ 100000), bv (eqLI a b), [], 0⟩
  | _ => none
theorem spRSin_ok : ZCtOk Try.prog 47 spRSin := fun γ w us ax r hs hc hax hN hfz => by
  unfold spRSin at hs; split at hs
  case h_2 => cases hs
  rename_i a b; obtain ⟨rfl⟩ := Option.some.inj hs; have hc_0 : decide (a.length ≤ 100000) = true := hc; have hc := of_decide_eq_true hc_0; exact EndZ.calls (RSin.ends hc) (.nil _) (by kernel_rfl) hax hN hfz

namespace RSfo
end RSfo
namespace RSam
end RSam
namespace RTri
end RTri
end Go.Proofs.Ytooimphimnagaaa.Ev
namespace Go.Proofs.Ytooimphimnagaaa.Ev
open Go.Proofs
theorem awakeB_run : endsB (exClosed Try.prog ft (drD Try.prog ft 16 4) 25 18) = true := by kernel_rfl
theorem awakeBC (w : World) : Calls Try.prog 25 #[] w fun e w' => e = .returned (.bool true) ∧ Stays w w' := closedTrue ftOk (drD_ok mix ftOk 16 4) awakeB_run w
theorem spAwakeB_ok : ZCtOk Try.prog 25 spTrue := spTrue_ok awakeBC
end Go.Proofs.Ytooimphimnagaaa.Ev
namespace Go.Proofs.Ytooimphimnagaaa
open Go.ChangeShapes Go.WideShapes Go.ChangeAt Go.RowKit

theorem kept_of_stays {W W' : World} (h : Ev.Stays W W') (may : MemPlace → Prop) : W.keptBut W' may := by
  refine ⟨h.os, h.output, fun i hi => ?_⟩; have e := h.block i hi; rw [e]
  cases hb : W.heap[i]? with
  | none => simp
  | some o =>
    cases o <;> first | exact ⟨rfl, rfl, rfl, fun _ _ => rfl⟩ | exact .inr ⟨rfl, rfl⟩ | rfl
theorem frozen_of_stays {W W' : World} (h : Ev.Stays W W') (a : Addr) (ha : a.block < W.heap.size) : W'.frozen? a = W.frozen? a := by
  unfold World.frozen?; rw [h.block _ ha]
section
variable {H : Type} {enc : TypeId × Value → H} {P : Program}

theorem post_of_stays {f : Func} {s : ChangeSpec} {apart fresh handsOn again : Bool} {W W' : World} {args : Array Value} {v : Value} {ds gs : List (DataW H)} {before pa pv : List MemPlace}
    (hW : DataW.Whole enc P f.params.toList s.vars apart W args.toList ds gs before)
    (hres : ∀ (b : Nat) (sp : Nat → Bool) (hd : Bool), DataW.TrodAll enc P W' b sp hd f.resultTypes.toList (v.resultList f.resultTypes.size) (s.fn H (ds ++ gs)).results [])
    (hargs : ∀ sp : Nat → Bool, (∀ p ∈ before, sp p.block = true) → DataW.TrodAll enc P W' 0 sp true f.params.toList args.toList (s.fn H (ds ++ gs)).args pa)
    (hvars : ∀ sp : Nat → Bool, (∀ p ∈ before, sp p.block = true) → DataW.TrodVars enc P W' sp s.vars (s.fn H (ds ++ gs)).vars pv)
    (hps : before = pa ++ pv) (hst : Ev.Stays W W')
    (hok : ∀ (j : Nat) (t : TypeId) (r : Value), f.resultTypes[j]? = some t → (v.resultList f.resultTypes.size)[j]? = some r → Value.okWide P W' .any 0 t r) :
    s.post enc P f apart fresh handsOn again W args v W' := by
  have hk : W.keptBut W' (· ∈ before) := kept_of_stays hst _; have hold : ∀ p ∈ before, (fun b => decide (b < W.heap.size)) p.block = true := fun p hp => by simpa using hW.lt p hp
  have hlt := fun p hp => hW.lt p hp; refine ⟨ds, gs, before, [], pa, pv, hW, hres _ _ _, hargs _ hold, hvars _ hold, World.keptBut_mono (fun p hp => ⟨hp, ?_⟩) hk, fun _ => ?_⟩
  · rw [hps, List.mem_append] at hp; exact Or.inr hp
  · obtain ⟨_, _, _, _, _, hz, hn⟩ := hW; refine ⟨hok, _, _, ([] ++ pa) ++ pv, ⟨[] ++ pa, pv, trodAll_append (hargs _ (fun _ _ => rfl)) (hres _ _ _), hvars _ (fun _ _ => rfl), rfl, ?_, ?_⟩, ?_⟩
    · intro b off hp; have hp2 : MemPlace.cell b off ∈ before := by rw [hps]; simpa using hp
      rw [frozen_of_stays hst _ (hlt _ hp2)]; exact hz b off hp2
    · intro ha; have := hn ha; rw [hps] at this; simpa using this
    · intro p hp _; rw [hps]; simpa using hp
end
end Go.Proofs.Ytooimphimnagaaa
namespace Go.Proofs.Ytooimphimnagaaa
open Go.ChangeShapes Go.WideShapes Go.ChangeAt Go.RowKit
section
variable {H : Type} {enc : TypeId × Value → H} {P : Program}
theorem same_of_stays {W W' : World} (h : Ev.Stays W W') {p : MemPlace} (hp : p.block < W.heap.size) : W.sameAt W' p := by
  cases p with
  | cell b off =>
    show W'.cell? _ = W.cell? _; unfold World.cell?; rw [h.block b hp]
  | map b => exact h.block b hp
theorem args_carry {W W' : World} {base : Nat} {sp : Nat → Bool} {hd : Bool} : ∀ {ts : List TypeId} {vs : List Value} {ds : List (DataW H)} {ps : List MemPlace}, DataW.TrodAll enc P W base sp hd ts vs ds ps → (∀ p ∈ ps, W.sameAt W' p) → DataW.TrodAll enc P W' base sp hd ts vs ds ps
  | [], [], [], _, h, _ => h
  | _ :: _, _ :: _, _ :: _, _, ⟨p, q, ⟨n, h⟩, hs, e⟩, k => ⟨p, q, ⟨n, DataW.trod_carry n _ _ _ h fun x hx => k x (by rw [e]; exact List.mem_append_left _ hx)⟩, args_carry hs fun x hx => k x (by rw [e]; exact List.mem_append_right _ hx), e⟩
  | [], [], _ :: _, _, h, _ => h.elim
  | [], _ :: _, _, _, h, _ => h.elim
  | _ :: _, [], _, _, h, _ => h.elim
  | _ :: _, _ :: _, [], _, h, _ => h.elim

theorem post_law {f : Func} {s : ChangeSpec} {apart fresh handsOn again : Bool} {W W' : World} {args : Array Value} {ds : List (DataW H)} {p : List MemPlace} {bt : TypeId} {T : TypeId → Prop} (K : Kids P T) (hz : ∀ t e, T t → P.underlying t = some (.slice e) → 0 < P.cellsOf e)
    (hbt : P.underlying bt = some .bool) (hrt : f.resultTypes.toList = [bt]) (hsz : f.resultTypes.size = 1) (hvs : s.vars = []) (hfn : s.fn H (ds ++ []) = { results := [.lit (.bool true)], args := ds })
    (hpt : ∀ t ∈ f.params.toList, T t)
    (hW : DataW.Whole enc P f.params.toList s.vars apart W args.toList ds [] (p ++ [])) (hA : DataW.TrodAll enc P W 0 (fun _ => true) true f.params.toList args.toList ds p) (hst : Ev.Stays W W')
    (hok : ∀ (j : Nat) (t : TypeId) (r : Value), f.resultTypes[j]? = some t → ((Value.bool true).resultList f.resultTypes.size)[j]? = some r → Value.okWide P W' .any 0 t r) :
    s.post enc P f apart fresh handsOn again W args (.bool true) W' := by
  have hlt := fun q hq => hW.lt q hq; refine post_of_stays (pa := p) (pv := []) hW (fun b sp hd => ?_) (fun sp hsp => ?_) (fun sp _ => ?_) rfl hst hok
  · rw [hrt, hfn, hsz]; exact trodAll_mk1 (shut_bool hbt _)
  · rw [hfn]; exact DataW.TrodAll.respare K hz hpt (args_carry hA fun q hq => same_of_stays hst (hlt q (by simpa using hq))) fun q hq => hsp q (by simpa using hq)
  · rw [hfn, hvs]; rfl
end
namespace Ev


inductive UFit : Sh → U → Prop where
  | int (k : IntKind) (n : Int) (h : (Lit.int k n).wf = true) : UFit (.int k) (.i n)
  | bool (b : Bool) : UFit .bool (.b b)
  | str (s : ByteArray) (h : s.size ≤ maxLen) : UFit .str (.s s)
  | list (sh : List Sh) (l : List (List U)) (hl : l.length ≤ maxLen) (hr : ∀ j, j < l.length → (l.getD j []).length = sh.length) (h : ∀ (j f : Nat) (s : Sh), j < l.length → sh[f]? = some s → UFit s ((l.getD j []).getD f (.i 0))) : UFit (.list sh) (.l l)
structure RowFit (sh : List Sh) (r : List U) : Prop where
  len : r.length = sh.length
  fit : ∀ (f : Nat) (s : Sh), sh[f]? = some s → UFit s (r.getD f (.i 0))
theorem RowFit.nil : RowFit [] [] := ⟨rfl, fun f s h => by simp at h⟩
theorem RowFit.append {sh1 sh2 : List Sh} {r1 r2 : List U} (h1 : RowFit sh1 r1) (h2 : RowFit sh2 r2) : RowFit (sh1 ++ sh2) (r1 ++ r2) := by
  refine ⟨by simp [h1.len, h2.len], fun f s h => ?_⟩; rw [List.getD_eq_getElem?_getD]
  by_cases hf : f < sh1.length
  · rw [List.getElem?_append_left hf] at h; rw [List.getElem?_append_left (by rw [h1.len]; exact hf), ← List.getD_eq_getElem?_getD]; exact h1.fit f s h
  · rw [List.getElem?_append_right (by omega)] at h; rw [List.getElem?_append_right (by rw [h1.len]; omega), h1.len, ← List.getD_eq_getElem?_getD]; exact h2.fit _ s h
theorem recE_app : ∀ {sh1 sh2 : List Sh} {r1 r2 : List U}, r1.length = sh1.length → recE (sh1 ++ sh2) (r1 ++ r2) = recE sh1 r1 ++ recE sh2 r2
  | [], sh2, r1, r2, h => by
    have : r1 = [] := List.eq_nil_of_length_eq_zero h; subst this; rfl
  | s :: sh1, sh2, [], r2, h => by cases h
  | s :: sh1, sh2, u :: r1, r2, h => by
    show s.ev u :: recE (sh1 ++ sh2) (r1 ++ r2) = s.ev u :: (recE sh1 r1 ++ recE sh2 r2); rw [recE_app (by simpa using h)]

def shFs (P : Program) (f : TypeId → Option (List Sh)) : List Field → Nat → Option (List Sh)
  | [], _ => some []
  | fd :: r, off => match f fd.type with
    | some sh => if fd.offset = off ∧ P.cellsOf fd.type = sh.length then match shFs P f r (off + sh.length) with
      | some l => some (sh ++ l)
      | none => none else none
    | none => none
def shB (P : Program) : Nat → TypeId → Option (List Sh)
  | 0, _ => none
  | k + 1, t => match P.underlying t with
    | some (.int κ) => some [.int κ]
    | some .bool => some [.bool]
    | some .string => some [.str]
    | some (.slice e) => match shB P k e with
      | some sh => if P.cellsOf e = sh.length ∧ 0 < sh.length then some [.list sh] else none
      | none => none
    | some (.struct fs) => match shFs P (shB P k) fs.toList 0 with
      | some sh => if P.cellsOf t = sh.length then some sh else none
      | none => none
    | some (.array m e) => match shB P k e with
      | some sh => if P.cellsOf e = sh.length ∧ P.cellsOf t = m * sh.length then some (List.replicate m sh).flatten else none
      | none => none
    | _ => none
noncomputable def fzAll (W : World) : Nat → Option (Array Value) := fun k => match W.heap[k]? with
  | some (.cells a _ _) => some a
  | _ => none
noncomputable def gAll (W : World) : G := ⟨fun _ => none, fzAll W, fun _ _ _ => none⟩
theorem fzAll_at (W : World) : FzAt (gAll W) W := ⟨fun k a hk => (by
  have hk : fzAll W k = some a := hk; unfold fzAll at hk; split at hk
  · rename_i a' ty fz h; injection hk with hk; subst hk
    exact ⟨ty, fz, h⟩
  · cases hk), fun _ _ _ => rfl⟩
theorem list_of {Q : Nat → List U → Prop} : ∀ (n : Nat), (∀ i, i < n → ∃ r, Q i r) → ∃ l : List (List U), l.length = n ∧ ∀ i, i < n → Q i (l.getD i [])
  | 0, _ => ⟨[], rfl, fun i hi => absurd hi (by omega)⟩
  | n + 1, h => by
    obtain ⟨l, h1, h2⟩ := list_of n fun i hi => h i (by omega); obtain ⟨r, hr⟩ := h n (by omega); refine ⟨l ++ [r], by simp [h1], fun i hi => ?_⟩; rw [List.getD_eq_getElem?_getD]
    by_cases e : i < n
    · rw [List.getElem?_append_left (by omega), ← List.getD_eq_getElem?_getD]; exact h2 i e
    · have : i = n := by omega
      subst this; rw [List.getElem?_append_right (by omega), h1, Nat.sub_self]; exact hr
variable {H : Type} {enc : TypeId × Value → H} {P : Program} {W : World} {base : Nat} {sp : Nat → Bool} {hd : Bool}
def OpenAt (enc : TypeId × Value → H) (P : Program) (W : World) (base : Nat) (sp : Nat → Bool) (hd : Bool) (k : Nat) : Prop := ∀ (t : TypeId) (sh : List Sh) (fuel : Nat) (cs : List Value) (x : DataW H × List MemPlace), shB P k t = some sh → DataW.trod enc P W base sp hd fuel t cs = some x → ∃ r, RowFit sh r ∧ ∀ γ : G, γ.fz = fzAll W → ECL γ (recE sh r) cs
theorem fields_open {k : Nat} (ih : OpenAt enc P W base sp hd k) {cs : List Value} {n : Nat} : ∀ (fs : List Field) (off : Nat) (sh : List Sh), shFs P (shB P k) fs off = some sh → (∀ f, f ∈ fs → ∃ y, DataW.trod enc P W base sp hd n f.type ((cs.drop f.offset).take (P.cellsOf f.type)) = some y) → ∃ r, RowFit sh r ∧ ∀ γ : G, γ.fz = fzAll W → ECL γ (recE sh r) ((cs.drop off).take sh.length)
  | [], off, sh, h, _ => by
    injection (show some [] = some sh from h) with h; subst h
    exact ⟨[], .nil, fun γ _ => by
      rw [show ([] : List Sh).length = 0 from rfl, List.take_zero]; exact ECL.nil γ⟩
  | fd :: fs, off, sh, h, hall => by
    unfold shFs at h; split at h
    case h_2 => cases h
    rename_i s1 hs1; split at h
    case isFalse => cases h
    rename_i hc; split at h
    case h_2 => cases h
    rename_i s2 hs2; injection h with h; subst h
    obtain ⟨y, hy⟩ := hall fd (by simp); rw [hc.1, hc.2] at hy; obtain ⟨r1, h1, h2⟩ := ih fd.type s1 n _ y hs1 hy; obtain ⟨r2, h3, h4⟩ := fields_open ih fs (off + s1.length) s2 hs2 fun f hf => hall f (by simp [hf]); refine ⟨r1 ++ r2, h1.append h3, fun γ hγ => ?_⟩; rw [recE_app h1.len, List.length_append]; have e : (cs.drop off).take (s1.length + s2.length) = (cs.drop off).take s1.length ++ (cs.drop (off + s1.length)).take s2.length := by
      rw [List.take_add, List.drop_drop]
    rw [e]; exact (h2 γ hγ).append (h4 γ hγ)
theorem elems_open {k : Nat} (ih : OpenAt enc P W base sp hd k) {cs : List Value} {n : Nat} {e : TypeId} {sh : List Sh} (hsh : shB P k e = some sh) (hc : P.cellsOf e = sh.length) : ∀ (m i0 : Nat), (∀ i, i < m → ∃ y, DataW.trod enc P W base sp hd n e ((cs.drop ((i0 + i) * P.cellsOf e)).take (P.cellsOf e)) = some y) → ∃ r, RowFit (List.replicate m sh).flatten r ∧ ∀ γ : G, γ.fz = fzAll W → ECL γ (recE (List.replicate m sh).flatten r) ((cs.drop (i0 * sh.length)).take (m * sh.length))
  | 0, i0, _ => ⟨[], .nil, fun γ _ => by
      rw [Nat.zero_mul, List.take_zero]; exact ECL.nil γ⟩
  | m + 1, i0, h => by
    obtain ⟨y, hy⟩ := h 0 (by omega); rw [hc, Nat.add_zero] at hy; obtain ⟨r1, h1, h2⟩ := ih e sh n _ y hsh hy; obtain ⟨r2, h3, h4⟩ := elems_open ih hsh hc m (i0 + 1) fun i hi => by
      have := h (i + 1) (by omega)
      rwa [show i0 + (i + 1) = i0 + 1 + i by omega] at this
    refine ⟨r1 ++ r2, by rw [List.replicate_succ, List.flatten_cons]; exact h1.append h3, fun γ hγ => ?_⟩; rw [List.replicate_succ, List.flatten_cons, recE_app h1.len, Nat.succ_mul, Nat.add_comm, List.take_add, List.drop_drop]; have := h4 γ hγ; rw [Nat.succ_mul] at this; exact (h2 γ hγ).append this
theorem open_cells : ∀ k, OpenAt enc P W base sp hd k
  | 0 => fun t sh fuel cs x h => by cases h
  | k + 1 => fun t sh fuel cs x h ht => by
    have ih : OpenAt enc P W base sp hd k := open_cells k; unfold shB at h; split at h
    · rename_i κ hu; injection h with h; subst h
      obtain ⟨n, rfl, _, hw⟩ := DataW.trod_int hu ht; refine ⟨[.i n], ⟨rfl, fun f s hf => ?_⟩, fun γ _ => .cons (.v _) (.nil _)⟩; obtain ⟨rfl, rfl⟩ := one_f hf; exact .int κ n hw
    · rename_i hu; injection h with h; subst h
      obtain ⟨b, rfl, _⟩ := DataW.trod_bool hu ht; refine ⟨[.b b], ⟨rfl, fun f s hf => ?_⟩, fun γ _ => .cons (.v _) (.nil _)⟩; obtain ⟨rfl, rfl⟩ := one_f hf; exact .bool b
    · rename_i hu; injection h with h; subst h
      obtain ⟨s, rfl, _, hs⟩ := DataW.trod_string hu ht; refine ⟨[.s s], ⟨rfl, fun f s hf => ?_⟩, fun γ _ => .cons (.v _) (.nil _)⟩; obtain ⟨rfl, rfl⟩ := one_f hf; exact .str _ hs
    · rename_i e hu; split at h
      case h_2 => cases h
      rename_i sh' hsh; split at h
      case isFalse => cases h
      rename_i hc; injection h with h; subst h
      rcases DataW.trod_slice hu ht with ⟨rfl, _⟩ | ⟨a, len, cap, elems, rest, n, _, rfl, _, hb, hlc, hcm, hel, hall, _⟩
      · refine ⟨[.l []], ⟨rfl, fun f s hf => ?_⟩, fun γ _ => .cons ?_ (.nil _)⟩
        · obtain ⟨rfl, rfl⟩ := one_f hf; exact .list sh' [] (Nat.zero_le _) (fun j hj => by simp at hj) (fun j f s hj => by simp at hj)
        · exact UOk.ec (s := .list sh') (.empty sh' (.l []) none 0 rfl (Nat.zero_le _) fun _ => rfl)
      · have each : ∀ i, i < len → ∃ r, RowFit sh' r ∧ ∃ ys, W.cells? base (a.add (i * sh'.length)) sh'.length = some ys ∧ ∀ γ : G, γ.fz = fzAll W → ECL γ (recE sh' r) ys := fun i hi => by
          have h1 := hall i hi; rw [hc.1] at h1; have h2 : i < elems.length := by omega
          rw [List.getElem?_eq_getElem h2] at h1; obtain ⟨ys, h3, h4⟩ := Option.bind_eq_some_iff.1 h1; obtain ⟨r, h5, h6⟩ := ih e sh' n ys _ hsh h4; exact ⟨r, h5, ys, h3, h6⟩
        obtain ⟨l, hl, hQ⟩ := list_of len each; refine ⟨[.l l], ⟨rfl, fun f s hf => ?_⟩, fun γ hγ => .cons ?_ (.nil _)⟩
        · obtain ⟨rfl, rfl⟩ := one_f hf; exact .list sh' l (by omega) (fun j hj => (hQ j (by omega)).1.len) fun j f s hj hf => (hQ j (by omega)).1.fit f s hf
        · refine UOk.ec (s := .list sh') ?_
          by_cases h0 : len = 0
          · have : l = [] := List.eq_nil_of_length_eq_zero (by omega); subst this; subst h0; exact .empty sh' (.l []) (some a) cap rfl hcm fun e => by cases e
          · obtain ⟨b, off, spot⟩ := a; have hblk : spot = none ∧ ∃ arr ty fz, W.heap[b]? = some (.cells arr ty fz) := by
              obtain ⟨h1, ys, h2, h3⟩ := hQ 0 (by omega); obtain ⟨_, h4, h5⟩ := World.cells?_some h2; have h6 := h5 0 hc.2; rw [List.getElem?_eq_getElem (show 0 < ys.length by omega)] at h6; have h6 : W.cell? ⟨b, off, spot⟩ = some ys[0] := by
                have e : ((⟨b, off, spot⟩ : Addr).add (0 * sh'.length)).add 0 = ⟨b, off, spot⟩ := by simp [Addr.add]
                rw [e] at h6; exact h6
              unfold World.cell? at h6; split at h6
              · rename_i arr ty fz hb'; split at h6
                · cases h6
                · rename_i hs; exact ⟨by cases spot <;> simp_all, arr, ty, fz, hb'⟩
              · cases h6
            obtain ⟨rfl, arr, ty, fz, hblk⟩ := hblk; have cellAt : ∀ i f, i < len → f < sh'.length → ∃ y, W.cell? ⟨b, off + (i * sh'.length + f), none⟩ = some y ∧ ∀ s, sh'[f]? = some s → UOk γ.fz s ((l.getD i []).getD f (.i 0)) y := fun i f hi hf => by
              obtain ⟨h1, ys, h2, h3⟩ := hQ i hi; obtain ⟨_, h4, h5⟩ := World.cells?_some h2; have h6 := h5 f hf; have h7 : f < ys.length := by omega
              rw [List.getElem?_eq_getElem h7] at h6; refine ⟨ys[f], ?_, fun s hs => ?_⟩
              · have e : ((⟨b, off, none⟩ : Addr).add (i * sh'.length)).add f = ⟨b, off + (i * sh'.length + f), none⟩ := by
                  unfold Addr.add; split <;> split <;> simp_all [Nat.add_assoc]
                rw [← h6, e]
              · have h8 := recE_get (s := s) (f := f) (sh := sh') (l.getD i []) hs; have h9 := (h3 γ hγ).2 f _ ys[f] h8 (List.getElem?_eq_getElem h7); exact UOk.of_ec h9
            have getA : ∀ i f, i < len → f < sh'.length → ∃ y, arr[off + (i * sh'.length + f)]? = some y ∧ ∀ s, sh'[f]? = some s → UOk γ.fz s ((l.getD i []).getD f (.i 0)) y := fun i f hi hf => by
              obtain ⟨y, h1, h2⟩ := cellAt i f hi hf; refine ⟨y, ?_, h2⟩; unfold World.cell? at h1; simpa [hblk] using h1
            have hk : γ.fz b = some arr := by
              rw [hγ]; unfold fzAll; rw [hblk]
            subst hl; refine .list sh' (.l l) b off cap arr hk hlc hcm ?_ fun j f s x hj hf hx => ?_
            · show off + l.length * sh'.length ≤ arr.size; obtain ⟨y, h1, _⟩ := getA (l.length - 1) (sh'.length - 1) (by omega) (by omega); have := (Array.getElem?_eq_some_iff.1 h1).1; have e : l.length * sh'.length = (l.length - 1) * sh'.length + sh'.length := by rw [← Nat.succ_mul]; congr 1; omega
              omega
            · obtain ⟨y, h1, h2⟩ := getA j f hj (List.getElem?_eq_some_iff.1 hf).1; rw [h1] at hx; injection hx with hx; subst hx; exact h2 s hf
    · rename_i fs hu; split at h
      case h_2 => cases h
      rename_i sh' hsh; split at h
      case isFalse => cases h
      rename_i hc; injection h with h; subst h
      obtain ⟨xs, n, _, _, hl, hlen, hf⟩ := DataW.trod_struct hu ht; obtain ⟨r, h1, h2⟩ := fields_open (cs := cs) (n := n) ih fs.toList 0 sh' hsh fun f hm => by
        obtain ⟨i, hi, rfl⟩ := List.getElem_of_mem hm; have hi2 : i < fs.size := by simpa using hi
        have := hf i fs.toList[i] (by simp [hi2]); rw [List.getElem?_eq_getElem (by omega)] at this; exact ⟨_, this⟩
      refine ⟨r, h1, fun γ hγ => ?_⟩; have := h2 γ hγ
      rwa [List.drop_zero, List.take_of_length_le (by omega)] at this
    · rename_i m e hu; split at h
      case h_2 => cases h
      rename_i sh' hsh; split at h
      case isFalse => cases h
      rename_i hc; injection h with h; subst h
      obtain ⟨xs, n, _, _, hl, hlen, hf⟩ := DataW.trod_array hu ht; obtain ⟨r, h1, h2⟩ := elems_open (cs := cs) (n := n) ih hsh hc.1 m 0 fun i hi => by
        have := hf i hi; rw [List.getElem?_eq_getElem (by omega)] at this; rw [Nat.zero_add]; exact ⟨_, this⟩
      refine ⟨r, h1, fun γ hγ => ?_⟩; have := h2 γ hγ
      rwa [Nat.zero_mul, List.drop_zero, List.take_of_length_le (by omega)] at this
    · cases h

theorem open_lst {t e : TypeId} {v : Value} {d : DataW H} {ps : List MemPlace} {k b0 : Nat} {rc : Reach} {sh : List Sh} (hu : P.underlying t = some (.slice e)) (hs : shB P k t = some [.list sh]) (hv : Value.okWide P W rc b0 t v) (h : DataW.Trod enc P W base sp hd t v d ps) : ∃ l, UFit (.list sh) (.l l) ∧ EC (gAll W) (.lst (mkC sh l)) v := by
  obtain ⟨a, len, cap, rfl⟩ := okWide_slice hu hv; obtain ⟨fuel, hf⟩ := h; obtain ⟨r, h1, h2⟩ := open_cells k t _ fuel _ _ hs hf; have h3 := h2 (gAll W) rfl; obtain ⟨h4, h5⟩ := h1
  match r, h4 with
  | [u], _ =>
    have h6 := h5 0 _ rfl; have h6 : UFit (.list sh) u := h6
    cases h6 with
    | list _ l hl hr hh =>
      refine ⟨l, .list sh l hl hr hh, ?_⟩; exact h3.2 0 _ _ rfl rfl
end Ev
end Go.Proofs.Ytooimphimnagaaa
namespace Go.Proofs.Ytooimphimnagaaa.Ev
open Go.Proofs
noncomputable def ctGr : Tr ZCC := (((((((((Tr.nil.put 42 (some (dC spRChk))).put 56 (some (dC spPIvr))).put 57 (some (dC spPTms))).put 33 (some (dC spPTri))).put 54 (some (dC spPLay))).put 45 (some (dC spPPrm))).put 47 (some (dC spRSin))).put 52 (some (dC spPDrp))).put 27 (some (dC spPSam))).put 25 (some (dC spTrue))
theorem ctGr_ok : ZCtsOk Try.prog ctGr := ((((((((((ZCtsOk.nil _).add rfl spRChk_ok).add rfl spPIvr_ok).add rfl spPTms_ok).add rfl spPTri_ok).add rfl spPLay_ok).add rfl spPPrm_ok).add rfl spRSin_ok).add rfl spPDrp_ok).add rfl spPSam_ok).add rfl spAwakeB_ok
theorem chk_of {n : Nat} {w : List Int} (h1 : 1 ≤ n) (h2 : n ≤ 12) (hl : w.length ≤ 400) (h : Vld n w) : chk n w = 0 := by
  unfold chk; rw [df (show ¬ (n : Int) < 1 by omega), df (show ¬ (12 : Int) < n by omega), df (show ¬ (400 : Int) < Int.ofNat w.length by rw [ofn]; omega), bc_f, bc_f, bc_f]; have : w.any (badL n) = false := by
    rw [List.any_eq_false]; intro x hx hb; obtain ⟨q1, q2, q3⟩ := h x hx; unfold badL at hb; rw [wrap_in (0 - (n : Int)) (by omega) (by omega), show (x == 0) = false by simp [q1], bc_f, df (show ¬ x ≤ 0 - (n : Int) by omega), bc_f, df (show ¬ (n : Int) ≤ x by omega)] at hb; cases hb
  rw [this, bc_f]
theorem samE_0 {n : Int} {a b : List Int} (h1 : chk n a = 0) (h2 : chk n b = 0) : samE n a b = 0 := by unfold samE; rw [h1, h2]; rfl
theorem samB_1 {n : Int} {a b : List Int} (h1 : chk n a = 0) (h2 : chk n b = 0) (h : nfW n.toNat a = nfW n.toNat b) : samB n a b = true := by
  unfold samB sameN; rw [samE_0 h1 h2, show ((0 : Int) != 0) = false from rfl, bc_f]
  exact decide_eq_true h
theorem tmsE_0 {n : Int} {a b : List Int} (h1 : chk n a = 0) (h2 : chk n b = 0) (h : a.length + b.length ≤ 400) : PTms.tmsE n a b = 0 := by
  unfold PTms.tmsE; rw [samE_0 h1 h2, show ((0 : Int) != 0) = false from rfl, bc_f, df (show ¬ 400 < a.length + b.length by omega), bc_f]
theorem layW_len {n : Nat} {w : List Int} {p : Nat} {s : Int} (hn : n ≤ 12) : (layW n w p s).length ≤ w.length + 24 := by
  have := oth_len w p; unfold layW; rw [List.length_append, List.length_append, upW_len, dnW_len]; omega
theorem prmL_ext {n : Nat} {u v : List Int} (h : ∀ x, x < n → gW u x = gW v x) : prmL n u = prmL n v := by
  unfold prmL; exact List.map_congr_left fun x hx => by rw [h x (List.mem_range.1 hx)]
namespace AGr
noncomputable def RUN (s : ES) : ZF := RZ 10 ctGr (atS 0 10 11) [] [[(0,none),(1,none),(2,none),(17,none)]] false s

noncomputable def sL (n : Int) (w : List Int) (p k : Int) : NS := ⟨[⟨10, 182, [(0, (EV.v (Value.int IntKind.i64 (n)))), (1, (EV.lst (SyC.ints IntKind.i64 (w)))), (2, (EV.v (Value.int IntKind.i64 (p)))), (17, iv k)], [.it (.code (nav [1, 1, 1, 1, 1, 1, 1, 1, 0, 1, 0, 0, 0] (bodyOf Try.f10))), .it (.code (nav [1, 1, 1, 1, 1, 1, 1, 1, 0, 1, 0, 0, 1] (bodyOf Try.f10))), .it (.inLoop (nav [1, 1, 1, 1, 1, 1, 1, 1, 0, 1, 0, 0] (bodyOf Try.f10))), .it (.inBlock 0), .it (.code (nav [1, 1, 1, 1, 1, 1, 1, 1, 1] (bodyOf Try.f10)))], [], Option.none⟩], [], 0⟩
theorem in_t (n : Int) (w : List Int) (p : Int) : RUN (st0 10 [iv n, il w, iv p]) = (bc (decide ((60 : Int) < Int.ofNat (List.length w))) (.done (EV.v (Value.bool true)) [] 0) (bc (chk n w != (0 : Int)) (.done (EV.v (Value.bool true)) [] 0) (bc (decide (p < (0 : Int))) (.done (EV.v (Value.bool true)) [] 0) (bc (decide (n ≤ p)) (.done (EV.v (Value.bool true)) [] 0) (bc (chk n w != (0 : Int)) (.done (EV.v (Value.bool false)) [] 0) (bc (PTms.tmsE n w (bc (chk n w != (0 : Int)) [] (invW w)) != (0 : Int)) (.done (EV.v (Value.bool false)) [] 0) (bc (PTms.tmsE n (bc (chk n w != (0 : Int)) [] (invW w)) w != (0 : Int)) (.done (EV.v (Value.bool false)) [] 0) (bc (samE n (bc (PTms.tmsE n w (bc (chk n w != (0 : Int)) [] (invW w)) != (0 : Int)) [] (w ++ bc (chk n w != (0 : Int)) [] (invW w))) [] != (0 : Int)) (.done (EV.v (Value.bool false)) [] 0) (bc (samE n (bc (PTms.tmsE n (bc (chk n w != (0 : Int)) [] (invW w)) w != (0 : Int)) [] (bc (chk n w != (0 : Int)) [] (invW w) ++ w)) [] != (0 : Int)) (.done (EV.v (Value.bool false)) [] 0) (bc (!samB n (bc (PTms.tmsE n w (bc (chk n w != (0 : Int)) [] (invW w)) != (0 : Int)) [] (w ++ bc (chk n w != (0 : Int)) [] (invW w))) []) (.done (EV.v (Value.bool false)) [] 0) (bc (!samB n (bc (PTms.tmsE n (bc (chk n w != (0 : Int)) [] (invW w)) w != (0 : Int)) [] (bc (chk n w != (0 : Int)) [] (invW w) ++ w)) []) (.done (EV.v (Value.bool false)) [] 0) (.at (sL (n) (w) (p) ((0 : Int))))))))))))))) := by kernel_rfl
theorem l_t (n : Int) (w : List Int) (p k : Int) : RUN (stOf (sL n w p k)) = (bc (decide (k < (2 : Int))) (bc (PLay.layE n w p (k == (0 : Int)) != (0 : Int)) (.done (EV.v (Value.bool false)) [] 0) (bc (chk n w != (0 : Int)) (.done (EV.v (Value.bool false)) [] 0) (bc (chk n (bc (PLay.layE n w p (k == (0 : Int)) != (0 : Int)) [] (layW (Int.toNat n) w (Int.toNat p) (PLay.sgn (k == (0 : Int))))) != (0 : Int)) (.done (EV.v (Value.bool false)) [] 0) (bc (bc (decide (List.length (bc (chk n w != (0 : Int)) [] (prmL (Int.toNat n) w)) ≤ (100000 : Nat))) true false) (bc (!eqLI (bc (chk n w != (0 : Int)) [] (prmL (Int.toNat n) w)) (bc (chk n (bc (PLay.layE n w p (k == (0 : Int)) != (0 : Int)) [] (layW (Int.toNat n) w (Int.toNat p) (PLay.sgn (k == (0 : Int))))) != (0 : Int)) [] (prmL (Int.toNat n) (bc (PLay.layE n w p (k == (0 : Int)) != (0 : Int)) [] (layW (Int.toNat n) w (Int.toNat p) (PLay.sgn (k == (0 : Int)))))))) (.done (EV.v (Value.bool false)) [] 0) (bc (n == (1 : Int)) (.at (sL (n) (w) (p) (IntKind.wrap IntKind.i64 (k + (1 : Int))))) (bc (PDrp.drpE n (bc (PLay.layE n w p (k == (0 : Int)) != (0 : Int)) [] (layW (Int.toNat n) w (Int.toNat p) (PLay.sgn (k == (0 : Int))))) p != (0 : Int)) (.done (EV.v (Value.bool false)) [] 0) (bc (PDrp.drpE n w p != (0 : Int)) (.done (EV.v (Value.bool false)) [] 0) (bc (samE (IntKind.wrap IntKind.i64 (n - (1 : Int))) (bc (PDrp.drpE n (bc (PLay.layE n w p (k == (0 : Int)) != (0 : Int)) [] (layW (Int.toNat n) w (Int.toNat p) (PLay.sgn (k == (0 : Int))))) p != (0 : Int)) [] (Prod.fst (oth (Int.toNat p) (bc (PLay.layE n w p (k == (0 : Int)) != (0 : Int)) [] (layW (Int.toNat n) w (Int.toNat p) (PLay.sgn (k == (0 : Int)))))))) (bc (PDrp.drpE n w p != (0 : Int)) [] (Prod.fst (oth (Int.toNat p) w))) != (0 : Int)) (.done (EV.v (Value.bool false)) [] 0) (bc (!samB (IntKind.wrap IntKind.i64 (n - (1 : Int))) (bc (PDrp.drpE n (bc (PLay.layE n w p (k == (0 : Int)) != (0 : Int)) [] (layW (Int.toNat n) w (Int.toNat p) (PLay.sgn (k == (0 : Int))))) p != (0 : Int)) [] (Prod.fst (oth (Int.toNat p) (bc (PLay.layE n w p (k == (0 : Int)) != (0 : Int)) [] (layW (Int.toNat n) w (Int.toNat p) (PLay.sgn (k == (0 : Int)))))))) (bc (PDrp.drpE n w p != (0 : Int)) [] (Prod.fst (oth (Int.toNat p) w)))) (.done (EV.v (Value.bool false)) [] 0) (.at (sL (n) (w) (p) (IntKind.wrap IntKind.i64 (k + (1 : Int))))))))))) .bad)))) (.done (EV.v (Value.bool true)) [] 0)) := by kernel_rfl
theorem z0 : ((0 : Int) != 0) = false := rfl
theorem layE_0 {n : Nat} {w : List Int} {p : Nat} {a : Bool} (z : chk n w = 0) (hp : p < n) (hn : n ≤ 12) (hw : w.length ≤ 60) : PLay.layE n w p a = 0 := by
  unfold PLay.layE; have := layW_len (w := w) (p := p) (s := PLay.sgn a) hn; rw [z, z0, bc_f, df (show ¬ (p : Int) < 0 by omega), df (show ¬ (n : Int) ≤ p by omega), bc_f, bc_f]; have e : ¬ 400 < (layW ((n : Int)).toNat w ((p : Int)).toNat (PLay.sgn a)).length := by
    show ¬ 400 < (layW n w p (PLay.sgn a)).length; omega
  rw [df e, bc_f]
theorem drpE_0 {n : Nat} {w : List Int} {p : Nat} (z : chk n w = 0) (hp : p < n) (hn : n ≠ 1) : PDrp.drpE n w p = 0 := by
  unfold PDrp.drpE; rw [z, z0, bc_f, df (show ¬ (p : Int) < 0 by omega), df (show ¬ (n : Int) ≤ p by omega), bc_f, bc_f, show ((n : Int) == 1) = false by simp; omega, bc_f]
theorem step {n : Nat} {w : List Int} {p : Nat} {k : Int} (hk : 0 ≤ k ∧ k < 2) (hn : 1 ≤ n ∧ n ≤ 12) (hw : w.length ≤ 60) (hv : Vld n w) (hp : p < n) : RUN (stOf (sL n w p k)) = .at (sL n w p (k + 1)) := by
  have zw := chk_of hn.1 hn.2 (by omega) hv; have hs := PLay.sgn_ok (k == 0); have hl := layW_len (w := w) (p := p) (s := PLay.sgn (k == 0)) hn.2; have vl := layW_vld hs hv hp; have zl := chk_of hn.1 hn.2 (by omega) vl; have el : PLay.layE n w p (k == 0) = 0 := layE_0 zw hp hn.2 hw; have ep : prmL n (layW n w p (PLay.sgn (k == 0))) = prmL n w := prmL_ext fun x hx => layW_g hs hv hp x hx; have eo := oth_lay (s := PLay.sgn (k == 0)) hs hv hp; rw [l_t, dt hk.2, bc_t, el, z0, bc_f, zw, z0, bc_f, bc_f, bc_f]; rw [show ((n : Int)).toNat = n from rfl, show ((p : Int)).toNat = p from rfl]
  rw [zl, z0, bc_f, bc_f, ep, eqLI_iff.2 rfl, dt (show (prmL n w).length ≤ 100000 by rw [prmL_len]; omega)]; rw [wrap_in (k + 1) (by omega) (by omega)]
  by_cases h1 : n = 1
  · rw [show ((n : Int) == 1) = true by simp [h1]]; rfl
  · rw [show ((n : Int) == 1) = false by simp; omega, drpE_0 zl hp h1, drpE_0 zw hp h1, z0]; rw [bc_f, bc_f, eo, wrap_in ((n : Int) - 1) (by omega) (by omega), show ((n : Int) - 1) = ((n - 1 : Nat) : Int) by omega]; have zo := chk_of (n := n - 1) (w := (oth p w).1) (by omega) (by omega) (by have := oth_len w p; omega) (oth_vld hv hp); simp only [bc_t, bc_f, Bool.not_true, samE_0 zo zo, samB_1 zo zo rfl, z0]
theorem ends (n : Int) (w : List Int) (p : Int) : EndZ 10 ctGr false (st0 10 [iv n, il w, iv p]) (bv true) [] 0 := by
  have h := in_t n w p
  by_cases c1 : 60 < w.length
  · rw [dt (show (60 : Int) < Int.ofNat w.length by rw [ofn]; omega), bc_t] at h; exact .done h
  rw [df (show ¬ (60 : Int) < Int.ofNat w.length by rw [ofn]; omega), bc_f] at h
  by_cases c2 : ¬ chk n w = 0
  · rw [show (chk n w != 0) = true by simp [c2], bc_t] at h; exact .done h
  have c2 : chk n w = 0 := Decidable.of_not_not c2; rw [c2, z0, bc_f] at h
  by_cases c3 : p < 0
  · rw [dt c3, bc_t] at h; exact .done h
  rw [df c3, bc_f] at h
  by_cases c4 : n ≤ p
  · rw [dt c4, bc_t] at h; exact .done h
  rw [df c4, bc_f, bc_f, bc_f] at h; obtain ⟨⟨w0, w1, w2, w3⟩, _⟩ := chk_wok c2; obtain ⟨n, rfl⟩ := Int.eq_ofNat_of_zero_le (show 0 ≤ n by omega); obtain ⟨p, rfl⟩ := Int.eq_ofNat_of_zero_le (show 0 ≤ p by omega); have w3 : Vld n w := w3; have vi := invW_vld w3; have li := invW_len w; have zi := chk_of (by omega) (by omega) (by omega) vi; have t1 := tmsE_0 c2 zi (by omega); have t2 := tmsE_0 zi c2 (by omega); have z1 := chk_of (n := n) (w := w ++ invW w) (by omega) (by omega) (by rw [List.length_append]; omega) (w3.app vi)
  have z2 := chk_of (n := n) (w := invW w ++ w) (by omega) (by omega) (by rw [List.length_append]; omega) (vi.app w3); have z3 : chk n [] = 0 := chk_of (by omega) (by omega) (Nat.zero_le _) (fun x hx => by cases hx); rw [t1, t2, z0, bc_f, bc_f, bc_f, bc_f, samE_0 z1 z3, samE_0 z2 z3, z0, bc_f, bc_f, samB_1 z1 z3 (nf_inv w3), samB_1 z2 z3 (nf_inv2 w3)] at h; have s1 := step (n := n) (w := w) (p := p) (k := 0) (by omega) (by omega) (by omega) w3 (by omega); have s2 := step (n := n) (w := w) (p := p) (k := 1) (by omega) (by omega) (by omega) w3 (by omega); have s3 := l_t n w p 2
  exact .at ctGr_ok h (.at ctGr_ok s1 (.at ctGr_ok s2 (.done s3)))
end AGr
theorem braidsGroup_calls {γ : G} {w : World} {us : Array Value} (n : Int) (wn : (Lit.int .i64 n).wf = true) (a : List (List U)) (wa : UFit (.list [.int .i64]) (.l a)) (b : Int) (wb : (Lit.int .i64 b).wf = true) (hax : ECL γ [iv n, .lst (mkC [.int .i64] a), iv b] us.toList) (hN : ∀ i, γ i = none) (hfz : FzAt γ w) : Calls Try.prog 10 us w fun e w' => e = .returned (.bool true) ∧ Stays w w' :=
  law_of ((AGr.ends n _ b).calls ctGr_ok (by kernel_rfl) hax hN hfz)
end Go.Proofs.Ytooimphimnagaaa.Ev
namespace Go.Proofs.Ytooimphimnagaaa
open Go.ChangeShapes Go.WideShapes Go.ChangeAt Go.RowKit Go.ChangeMaps
theorem knobBraidsGroup : ownKnob Try.prog.godebug = none := by kernel_rfl
theorem kidsBraidsGroup : Kids Try.prog (· < Try.prog.types.size) := kids_rows (by kernel_rfl) (by kernel_rfl)
theorem fullBraidsGroup : ∀ t e, t < Try.prog.types.size → Try.prog.underlying t = some (.slice e) → 0 < Try.prog.cellsOf e := slices_full_of Try.prog (by kernel_rfl)
set_option maxRecDepth 100000 in
theorem liftedBraidsGroup (os : Os) (started : os.Started) (H : Type) (enc : TypeId × Value → H) :
    ReturnsInHanded {} Try.checked os 10 .any (Rows.braidsGroupSpec.pre6 enc Try.prog Try.f10 Rows.braidsGroupRow.domain false) (Rows.braidsGroupSpec.post enc Try.prog Try.f10 false true false false) := by
  refine returnsInHanded_of_change (C := Try.checked) knobBraidsGroup started (by kernel_rfl) Try.func10
    (ChangeSpec.witness6 (enc := enc) (C := Try.checked) false ⟨#[], #[.int .i64 0, .slice none 0 0, .int .i64 0], []⟩ 8 (by kernel_rfl) (by kernel_rfl) (by kernel_rfl) (by kernel_rfl)) ?_
  intro W base args ds gs before hval0 hW hcnd _; have hval : ∀ (j : Nat) t v, Try.f10.params[j]? = some t → args[j]? = some v → Value.okWide Try.prog W .any base t v := hval0; have hW' := hW; obtain ⟨p, q, hA0, hV, rfl, hfz, hnd⟩ := hW; have hA : DataW.TrodAll enc Try.prog W 0 (fun _ => true) true Try.f10.params.toList args.toList ds p := hA0; have hAk := hA; rw [Try.params10] at hA hval; obtain ⟨rfl, rfl⟩ := trodVars_none hV; obtain ⟨v0, v1, v2, d0, d1, d2, p0, p1, p2, rfl, rfl, rfl, h0, h1, h2⟩ := trodAll_three hA
  obtain ⟨n, rfl, rfl, rfl, wn⟩ := open_int Try.underlying3 (hval 0 3 v0 rfl rfl) h0; obtain ⟨a, wa, ea⟩ := Ev.open_lst (k := 8) Try.underlying22 (by kernel_rfl : Ev.shB Try.prog 8 22 = some [.list [.int .i64]]) (hval 1 22 v1 rfl rfl) h1; obtain ⟨b, rfl, rfl, rfl, wb⟩ := open_int Try.underlying3 (hval 2 3 v2 rfl rfl) h2; clear hA0 hval0; refine (Ev.braidsGroup_calls n wn a wa b wb (γ := Ev.gAll W) (.cons (.v _) (.cons ea (.cons (.v _) (.nil _)))) (fun i => rfl) (Ev.fzAll_at W)).mono fun e W' ⟨he, hg⟩ => ?_; subst he
  exact ⟨_, rfl, post_law kidsBraidsGroup fullBraidsGroup Try.underlying4 (by kernel_rfl) (by kernel_rfl) rfl rfl (by rw [Try.params10]; decide) hW' hAk hg (ok_one (by kernel_rfl) rfl (okWide_bool_mk Try.underlying4 _))⟩
theorem braidsGroup_holds : Rows.BraidsGroupSaid :=
  OpenClaim.holds_of_wide 10 Try.f10 rfl rfl rfl rfl rfl rfl rfl ⟨rfl, rfl, rfl, rfl, rfl⟩ rfl rfl rfl rfl rfl (by kernel_rfl) Try.func10 (by kernel_rfl)
    (of_decide_eq_true (by kernel_rfl)) (by unfold Func.isWrapper; first | (rw [if_pos (by decide +kernel)]; kernel_rfl) | (rw [if_neg (by decide +kernel)]; exact ⟨rfl, rfl⟩))
    (fun os started H enc _ => liftedBraidsGroup os started H enc)
end Go.Proofs.Ytooimphimnagaaa
