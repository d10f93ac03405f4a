/- MotifsNames returns true, for all arguments, in every world in which it is called, and nothing that was there turns. -/
import Derived.ProofKit
import Derived.ReadAgain
import Derived.OpenShut
import Derived.Test.YtojbgacoolanlaaRows
import Derived.WalkKit
import Derived.Test.YtojbgacoolanlaaMotB5
set_option linter.unusedSimpArgs false
set_option linter.unusedVariables false
namespace Go.Proofs.Ytojbgacoolanlaa.Ev
open Go.Proofs
namespace MWay
noncomputable def RO (s : ES) : ZF := RZ 37 .nil (atS 0 37 3) [] [[(1,none),(5,none),(6,none)]] true s
theorem in_o (n m : Int) : RO (st0 37 [iv n, iv m]) = (.at ⟨[⟨37, 25, [(1, (EV.v (Value.int IntKind.i64 (m)))), (5, (EV.slO 0 1 1 true)), (6, (EV.v (Value.int IntKind.i64 (n))))], [.it (.code (nav [1, 1, 0, 1, 0, 0, 0] (bodyOf Try.f37))), .it (.code (nav [1, 1, 0, 1, 0, 0, 1] (bodyOf Try.f37))), .it (.inLoop (nav [1, 1, 0, 1, 0, 0] (bodyOf Try.f37))), .it (.inBlock 0), .it (.code (nav [1, 1, 1] (bodyOf Try.f37)))], [], Option.none⟩], [(0, (EK.seq 3 (SyC.ints IntKind.i64 (List.map (fun r => U.int (List.headD r (U.i 0))) [[U.i n]])) true))], 1⟩) := by kernel_rfl
theorem last_o (n : Int) (q : List Int) : RO (stOf (sD n n q)) = (bc (n != n)
  (bc (Decidable.decide (n < n))
    (bc (bc (Nat.beq (List.length q) (List.length q)) (bc (Nat.ble (List.length q + List.length (List.map (fun r => U.int (List.headD r (U.i 0))) [[U.i (IntKind.wrap IntKind.i64 (n + 1))]])) 65536) Bool.true Bool.false) Bool.false)
      (.at ⟨[⟨37, 25, [(1, (EV.v (Value.int IntKind.i64 (n)))), (5, (EV.slO 0 1 (List.length (q ++ List.map (fun r => U.int (List.headD r (U.i 0))) [[U.i (IntKind.wrap IntKind.i64 (n + 1))]])) (Bool.true))), (6, (EV.v (Value.int IntKind.i64 (IntKind.wrap IntKind.i64 (n + 1)))))], [.it (.code (nav [1, 1, 0, 1, 0, 0, 0] (bodyOf Try.f37))), .it (.code (nav [1, 1, 0, 1, 0, 0, 1] (bodyOf Try.f37))), .it (.inLoop (nav [1, 1, 0, 1, 0, 0] (bodyOf Try.f37))), .it (.inBlock 0), .it (.code (nav [1, 1, 1] (bodyOf Try.f37)))], [], Option.none⟩], [(0, (EK.seq 3 (SyC.ints IntKind.i64 (q ++ List.map (fun r => U.int (List.headD r (U.i 0))) [[U.i (IntKind.wrap IntKind.i64 (n + 1))]])) (Bool.true)))], 1⟩)
      .bad)
    (bc (bc (Nat.beq (List.length q) (List.length q)) (bc (Nat.ble (List.length q + List.length (List.map (fun r => U.int (List.headD r (U.i 0))) [[U.i (IntKind.wrap IntKind.i64 (n - 1))]])) 65536) Bool.true Bool.false) Bool.false)
      (.at ⟨[⟨37, 25, [(1, (EV.v (Value.int IntKind.i64 (n)))), (5, (EV.slO 0 1 (List.length (q ++ List.map (fun r => U.int (List.headD r (U.i 0))) [[U.i (IntKind.wrap IntKind.i64 (n - 1))]])) (Bool.true))), (6, (EV.v (Value.int IntKind.i64 (IntKind.wrap IntKind.i64 (n - 1)))))], [.it (.code (nav [1, 1, 0, 1, 0, 0, 0] (bodyOf Try.f37))), .it (.code (nav [1, 1, 0, 1, 0, 0, 1] (bodyOf Try.f37))), .it (.inLoop (nav [1, 1, 0, 1, 0, 0] (bodyOf Try.f37))), .it (.inBlock 0), .it (.code (nav [1, 1, 1] (bodyOf Try.f37)))], [], Option.none⟩], [(0, (EK.seq 3 (SyC.ints IntKind.i64 (q ++ List.map (fun r => U.int (List.headD r (U.i 0))) [[U.i (IntKind.wrap IntKind.i64 (n - 1))]])) (Bool.true)))], 1⟩)
      .bad))
  (.done (EV.slO 0 1 (List.length q) true) [(0, (EK.seq 3 (SyC.ints IntKind.i64 (q)) true))] 1)) := by kernel_rfl
theorem upsL {n : Int} (hn : n ≤ 1000) : ∀ (k : Nat) (i : Int) (q : List Int), i + k = n → -1000 ≤ i → q.length + k ≤ 5000 → LeadsZ Try.prog (stOf (sD n i q)) (stOf (sD n n (q ++ upI i k)))
  | 0, i, q, h, _, hq => by
    have : i = n := by omega
    subst this
    show LeadsZ _ _ (stOf (sD i i (q ++ [])))
    rw [List.append_nil]
    exact LeadsZ.refl _
  | k + 1, i, q, h, hi, hq => by
    show LeadsZ _ _ (stOf (sD n n (q ++ ((i + 1) :: upI (i + 1) k))))
    rw [show q ++ (i + 1) :: upI (i + 1) k = (q ++ [i + 1]) ++ upI (i + 1) k by simp]
    exact (leadsZ (.nil _) (up (by omega) hi hn (by omega))).trans (upsL hn k (i + 1) _ (by omega) (by omega) (by simp; omega))
theorem dnsL {n : Int} (hn : -1000 ≤ n) : ∀ (k : Nat) (i : Int) (q : List Int), i - k = n → i ≤ 1000 → q.length + k ≤ 5000 → LeadsZ Try.prog (stOf (sD n i q)) (stOf (sD n n (q ++ dnI i k)))
  | 0, i, q, h, _, hq => by
    have : i = n := by omega
    subst this
    show LeadsZ _ _ (stOf (sD i i (q ++ [])))
    rw [List.append_nil]
    exact LeadsZ.refl _
  | k + 1, i, q, h, hi, hq => by
    show LeadsZ _ _ (stOf (sD n n (q ++ ((i - 1) :: dnI (i - 1) k))))
    rw [show q ++ (i - 1) :: dnI (i - 1) k = (q ++ [i - 1]) ++ dnI (i - 1) k by simp]
    exact (leadsZ (.nil _) (dn (by omega) hi hn (by omega))).trans (dnsL hn k (i - 1) _ (by omega) (by omega) (by simp; omega))
theorem endsO {a b : Int} (ha : -1000 ≤ a) (ha2 : a ≤ 1000) (hb : -1000 ≤ b) (hb2 : b ≤ 1000) : EndZ 37 .nil true (st0 37 [iv a, iv b]) (.slO 0 1 (wayL a b).length true) (zseqs [(0, 3, .ints .i64 (wayL a b), true)]) 1 := by
  have hl := last_o b (wayL a b)
  have hd : ∀ q, EndZ 37 .nil true (stOf (sD b b q)) (.slO 0 1 q.length true) (zseqs [(0, 3, .ints .i64 q, true)]) 1 := fun q => .done (by
    have hl := last_o b q
    have e : (b != b) = false := by simp
    simp only [Nat.add_eq, eqSy_self, eqN_self, bc_same, List.length_cons, ofn, wrap_in, dt, df, bltD, bltN, ble_of, bleN, beqD, bc_t, bc_f, nn_ok, Nat.zero_add, to_nat, Int.zero_add, Int.sub_zero, Int.sub_self, Int.cast_ofNat_Int, Int.natCast_zero, Int.toNat_zero, List.take_zero, List.nil_append, List.length_append, List.length_nil, e] at hl
    exact hl)
  unfold wayL
  have h := in_o a b
  by_cases hab : a < b
  · rw [dt hab, bc_t]
    exact .at (.nil _) h (.lead (upsL hb2 (b - a).toNat a [a] (by omega) ha (by simp; omega)) (hd _))
  · rw [df hab, bc_f]
    exact .at (.nil _) h (.lead (dnsL hb (a - b).toNat a [a] (by omega) ha2 (by simp; omega)) (hd _))
end MWay
noncomputable def spWayO : ZCT := fun ax => match ax with
  | [.v (.int .i64 a), .v (.int .i64 b)] => some ⟨decide (-1000 ≤ a ∧ a ≤ 1000 ∧ -1000 ≤ b ∧ b ≤ 1000), .slO 0 1 (wayL a b).length true, [(0, 3, .ints .i64 (wayL a b), true)], 1⟩
  | _ => none
theorem spWayO_ok : ZCtOk Try.prog 37 spWayO := fun γ w us ax r hs hc hax hN hfz => by
  unfold spWayO at hs
  split at hs
  case h_2 => cases hs
  rename_i a b
  obtain ⟨rfl⟩ := Option.some.inj hs
  have hc_0 : decide (-1000 ≤ a ∧ a ≤ 1000 ∧ -1000 ≤ b ∧ b ≤ 1000) = true := hc
  have hc := of_decide_eq_true hc_0
  exact EndZ.calls (MWay.endsO hc.1 hc.2.1 hc.2.2.1 hc.2.2.2) (.nil _) (by kernel_rfl) hax hN hfz
noncomputable def ctF : Tr ZCC := (ctT.put 37 (some (dC spWayO))).put 38 (some (mC spTher))
theorem ctF_ok : ZCtsOk Try.prog ctF := (ctT_ok.add rfl spWayO_ok).addM rfl spTher_ok
/-! ### ways as ranges -/
theorem upI_range : ∀ (m : Nat) (a : Int), upI a m = (List.range m).map (fun i : Nat => a + 1 + (i : Int))
  | 0, a => rfl
  | m + 1, a => by
    show (a + 1) :: upI (a + 1) m = _
    rw [upI_range m, List.range_succ_eq_map, List.map_cons, List.map_map]
    congr 1
    · omega
    · apply List.map_congr_left; intro i _; show a + 1 + 1 + (i : Int) = a + 1 + ((i + 1 : Nat) : Int); omega
theorem dnI_range : ∀ (m : Nat) (a : Int), dnI a m = (List.range m).map (fun i : Nat => a - 1 - (i : Int))
  | 0, a => rfl
  | m + 1, a => by
    show (a - 1) :: dnI (a - 1) m = _
    rw [dnI_range m, List.range_succ_eq_map, List.map_cons, List.map_map]
    congr 1
    · omega
    · apply List.map_congr_left; intro i _; show a - 1 - 1 - (i : Int) = a - 1 - ((i + 1 : Nat) : Int); omega
noncomputable def castL (k : Nat) : List Int := (List.range k).map (fun i : Nat => (i : Int))
theorem castL_len (k : Nat) : (castL k).length = k := by unfold castL; simp
theorem wayUp (k : Nat) : wayL 0 (((k + 1 : Nat) : Int) - 1) = castL (k + 1) := by
  rw [show ((k + 1 : Nat) : Int) - 1 = (k : Int) by omega]
  unfold wayL castL
  rw [List.range_succ_eq_map, List.map_cons, List.map_map]
  by_cases h : (0 : Int) < k
  · rw [dt h, bc_t, upI_range, show ((k : Int) - 0).toNat = k by omega]
    congr 1
    apply List.map_congr_left; intro i _; show 0 + 1 + (i : Int) = ((i + 1 : Nat) : Int); omega
  · have : k = 0 := by omega
    subst this
    rfl
theorem wayDn (k : Nat) : wayL (((k + 1 : Nat) : Int) - 1) 0 = (castL (k + 1)).reverse := by
  rw [show ((k + 1 : Nat) : Int) - 1 = (k : Int) by omega]
  unfold wayL
  rw [df (show ¬ (k : Int) < 0 by omega), bc_f, dnI_range, show ((k : Int) - 0).toNat = k by omega]
  apply List.ext_getElem
  · simp [castL]
  · intro i h1 h2
    simp at h1
    rw [List.getElem_reverse]
    simp only [castL, List.getElem_map, List.getElem_range, List.length_map, List.length_range]
    cases i with
    | zero => simp
    | succ i => simp; omega
theorem upR_cast : ∀ (m i : Nat), upR i m = (List.range m).map (fun j : Nat => wk bCTC ((i + j : Nat) : Int))
  | 0, i => rfl
  | m + 1, i => by
    show wk bCTC (i : Int) :: upR (i + 1) m = _
    rw [upR_cast m, List.range_succ_eq_map, List.map_cons, List.map_map]
    congr 1
    apply List.map_congr_left; intro j _
    show wk bCTC ((i + 1 + j : Nat) : Int) = wk bCTC ((i + (j + 1) : Nat) : Int)
    rw [show i + 1 + j = i + (j + 1) by omega]
theorem upR_eq (k : Nat) : upR 0 k = (castL k).map (wk bCTC) := by
  rw [upR_cast, castL, List.map_map]
  apply List.map_congr_left; intro j _
  show wk bCTC ((0 + j : Nat) : Int) = wk bCTC (j : Int)
  rw [Nat.zero_add]
theorem downR_eq : ∀ k, downR k = (castL k).reverse.map (wk bCTC)
  | 0 => rfl
  | k + 1 => by
    show wk bCTC (k : Int) :: downR k = _
    rw [downR_eq k]
    unfold castL
    rw [List.range_succ]
    simp
theorem castL_last (k : Nat) : (castL (k + 1)).getD ((castL (k + 1)).length - 1) 0 = (k : Int) := by
  rw [castL_len, getD_at (by rw [castL_len]; omega)]
  simp [castL]
theorem castR_last (k : Nat) : (castL (k + 1)).reverse.getD ((castL (k + 1)).reverse.length - 1) 0 = 0 := by
  rw [List.length_reverse, castL_len, getD_at (by rw [List.length_reverse, castL_len]; omega), List.getElem_reverse]
  simp [castL]
theorem thereUp (w : ByteArray) (k : Nat) : thereQ w (wayL 0 (((k + 1 : Nat) : Int) - 1)) = thereL w (k + 1) := by
  rw [wayUp]
  unfold thereQ thereL
  rw [castL_last, upR_eq, downR_eq, show ((k + 1 : Nat) : Int) - 1 = (k : Int) by omega]
theorem thereDn (k : Nat) : thereQ bLLP (wayL (((k + 1 : Nat) : Int) - 1) 0) = footL1 (k + 1) := by
  rw [wayDn]
  unfold thereQ footL1
  rw [castR_last, upR_eq, downR_eq, List.reverse_reverse]
theorem thereL_len (w : ByteArray) (k : Nat) : (thereL w k).length = 2 * k + 1 := by unfold thereL; simp [upR_len, downR_len]; omega
theorem wayUp_len (k : Nat) : (wayL 0 (((k + 1 : Nat) : Int) - 1)).length = k + 1 := by rw [wayUp, castL_len]
theorem wayDn_len (k : Nat) : (wayL (((k + 1 : Nat) : Int) - 1) 0).length = k + 1 := by rw [wayDn, List.length_reverse, castL_len]
/-! ### Fan -/
namespace MFan
noncomputable def RUN (s : ES) : ZF := RZs 11 ctF [(atS 0 11 5, [[(0,none),(2,none),(4,some (3, 56, .recs shW [])),(5,none)]]), (atS 0 11 9, [[(2,none),(4,some (3, 56, .recs shW [])),(6,none)]])] [] false s

noncomputable def sF1 (n p i : Int) (q : List (List U)) (nn : Bool) : NS := ⟨[⟨11, 47, [(0, (EV.v (Value.int IntKind.i64 (n)))), (2, (EV.ptr 0 0)), (4, (EV.ptr 1 0)), (5, iv i)], [.it (.code (nav [1, 1, 1, 0, 1, 0, 0, 0] (bodyOf Try.f11))), .it (.code (nav [1, 1, 1, 0, 1, 0, 0, 1] (bodyOf Try.f11))), .it (.inLoop (nav [1, 1, 1, 0, 1, 0, 0] (bodyOf Try.f11))), .it (.inBlock 0), .it (.code (nav [1, 1, 1, 1] (bodyOf Try.f11)))], [], Option.none⟩], [(0, (EK.cells 24 [(EV.v (Value.int IntKind.i64 (0))), (EV.v (Value.slice Option.none 0 0))] true)), (1, EK.cells 51 [iv p, EV.slO 2 3 q.length nn] true), (2, EK.seq 56 (.recs shW q) nn)], 3⟩
noncomputable def sF2 (p k : Int) (q : List (List U)) (nn : Bool) : NS := ⟨[⟨11, 47, [(2, (EV.ptr 0 0)), (4, (EV.ptr 1 0)), (6, iv k)], [.it (.code (nav [1, 1, 1, 1, 0, 1, 0, 0, 0] (bodyOf Try.f11))), .it (.code (nav [1, 1, 1, 1, 0, 1, 0, 0, 1] (bodyOf Try.f11))), .it (.inLoop (nav [1, 1, 1, 1, 0, 1, 0, 0] (bodyOf Try.f11))), .it (.inBlock 2), .it (.code (nav [1, 1, 1, 1, 1] (bodyOf Try.f11)))], [], Option.none⟩], [(0, (EK.cells 24 [(EV.v (Value.int IntKind.i64 (0))), (EV.v (Value.slice Option.none 0 0))] true)), (1, EK.cells 51 [iv p, EV.slO 2 3 q.length nn] true), (2, EK.seq 56 (.recs shW q) nn)], 3⟩
theorem in_t (n : Int) : RUN (st0 11 [iv n]) = (bc (Decidable.decide (n < 1))
  (.done (EV.tup [(EV.v (Value.agg (Array.mk [(Value.int IntKind.i64 (0)), (Value.slice Option.none 0 0)]))), (EV.v (Value.int IntKind.i64 (7)))]) [] 0)
  (bc (Decidable.decide (12 < n))
    (.done (EV.tup [(EV.v (Value.agg (Array.mk [(Value.int IntKind.i64 (0)), (Value.slice Option.none 0 0)]))), (EV.v (Value.int IntKind.i64 (7)))]) [] 0)
    (.at (sF1 (n) (IntKind.wrap IntKind.i64 (n + 1)) (1) ([]) (Bool.false))))) := by kernel_rfl
theorem st_t (n p i : Int) (q : List (List U)) (nn : Bool) : RUN (stOf (sF1 n p i q nn)) = (bc (Decidable.decide (i < n))
  (bc (Decidable.decide ((-1000 : Int) ≤ (0 : Int) ∧ (0 : Int) ≤ (1000 : Int) ∧ (-1000 : Int) ≤ IntKind.wrap IntKind.i64 (i - (1 : Int)) ∧ IntKind.wrap IntKind.i64 (i - (1 : Int)) ≤ (1000 : Int)))
    (bc (bc (bc (Nat.beq (List.length (wayL 0 (IntKind.wrap IntKind.i64 (i - 1)))) (List.length (wayL 0 (IntKind.wrap IntKind.i64 (i - 1))))) (bc (Nat.beq (List.length q) (List.length q)) (bc (eqN nn nn) (Decidable.decide (1 ≤ List.length (wayL 0 (IntKind.wrap IntKind.i64 (i - 1))) ∧ List.length (wayL 0 (IntKind.wrap IntKind.i64 (i - 1))) ≤ 1000 ∧ List.length q ≤ 60000)) Bool.false) Bool.false) Bool.false) Bool.true Bool.false)
      (.at (sF1 (n) (p) (IntKind.wrap IntKind.i64 (i + 1)) (q ++ thereQ (zjoin (List.map (fun r => U.str (List.headD r (U.i 0))) [[U.s { data := #[82] }], [U.s { data := #[80] }]]) { data := #[] }) (wayL 0 (IntKind.wrap IntKind.i64 (i - 1)))) (Bool.true)))
      .bad)
    .bad)
  (.at (sF2 (p) (n) (q) (nn)))) := by kernel_rfl
theorem st_u (p k : Int) (q : List (List U)) (nn : Bool) : RUN (stOf (sF2 p k q nn)) = (bc (Decidable.decide (0 < k))
  (bc (Decidable.decide ((-1000 : Int) ≤ (0 : Int) ∧ (0 : Int) ≤ (1000 : Int) ∧ (-1000 : Int) ≤ IntKind.wrap IntKind.i64 (k - (1 : Int)) ∧ IntKind.wrap IntKind.i64 (k - (1 : Int)) ≤ (1000 : Int)))
    (bc (bc (bc (Nat.beq (List.length (wayL 0 (IntKind.wrap IntKind.i64 (k - 1)))) (List.length (wayL 0 (IntKind.wrap IntKind.i64 (k - 1))))) (bc (Nat.beq (List.length q) (List.length q)) (bc (eqN nn nn) (Decidable.decide (1 ≤ List.length (wayL 0 (IntKind.wrap IntKind.i64 (k - 1))) ∧ List.length (wayL 0 (IntKind.wrap IntKind.i64 (k - 1))) ≤ 1000 ∧ List.length q ≤ 60000)) Bool.false) Bool.false) Bool.false) Bool.true Bool.false)
      (.at (sF2 (p) (IntKind.wrap IntKind.i64 (k - 1)) (q ++ thereQ (zjoin (List.map (fun r => U.str (List.headD r (U.i 0))) [[U.s { data := #[82] }], [U.s { data := #[80] }]]) { data := #[] }) (wayL 0 (IntKind.wrap IntKind.i64 (k - 1)))) (Bool.true)))
      .bad)
    .bad)
  (bc (bc (bc (Nat.beq (List.length q) (List.length q)) Bool.true Bool.false) Bool.true Bool.false)
    (.done (EV.tup [(EV.agg [(EV.v (Value.int IntKind.i64 (p))), (EV.lst (SyC.recs [(Sh.int IntKind.i64), (Sh.int IntKind.i64), Sh.str] (q)))]), (EV.v (Value.int IntKind.i64 (0)))]) [] 0)
    .bad)) := by kernel_rfl
theorem zj : zjoin (List.map (fun r => U.str (List.headD r (U.i 0))) [[U.s { data := #[82] }], [U.s { data := #[80] }]]) { data := #[] } = bRP := ba_ext rfl
theorem step {n p : Int} {i : Nat} {q : List (List U)} {nn : Bool} (hi : ((i + 1 : Nat) : Int) < n) (hn : n ≤ 12) (hq : q.length ≤ 1000) : RUN (stOf (sF1 n p (i + 1 : Nat) q nn)) = .at (sF1 n p (i + 2 : Nat) (q ++ thereL bRP (i + 1)) true) := by
  rw [st_t]
  have hw := wayUp_len i
  have e2 : ((i + 1 : Nat) : Int) + 1 = ((i + 2 : Nat) : Int) := by omega
  simp (disch := omega) only [Nat.add_eq, eqSy_self, eqN_self, bc_same, List.length_cons, ofn, wrap_in, dt, df, bltD, bltN, ble_of, bleN, beqD, bc_t, bc_f, nn_ok, Nat.zero_add, to_nat, Int.zero_add, Int.sub_zero, Int.sub_self, Int.cast_ofNat_Int, Int.natCast_zero, Int.toNat_zero, List.take_zero, List.nil_append, List.length_append, List.length_nil, zj, thereUp, e2]
theorem next {n p i : Int} {q : List (List U)} {nn : Bool} (hi : n ≤ i) : RUN (stOf (sF1 n p i q nn)) = .at (sF2 p n q nn) := by
  rw [st_t]
  simp (disch := omega) only [Nat.add_eq, eqSy_self, eqN_self, bc_same, List.length_cons, ofn, wrap_in, dt, df, bltD, bltN, ble_of, bleN, beqD, bc_t, bc_f, nn_ok, Nat.zero_add, to_nat, Int.zero_add, Int.sub_zero, Int.sub_self, Int.cast_ofNat_Int, Int.natCast_zero, Int.toNat_zero, List.take_zero, List.nil_append, List.length_append, List.length_nil]
theorem step2 {p : Int} {k : Nat} {q : List (List U)} {nn : Bool} (hk : k ≤ 12) (hq : q.length ≤ 1000) : RUN (stOf (sF2 p (k + 1 : Nat) q nn)) = .at (sF2 p k (q ++ thereL bRP (k + 1)) true) := by
  rw [st_u]
  have hw := wayUp_len k
  have e2 : ((k + 1 : Nat) : Int) - 1 = (k : Int) := by omega
  simp (disch := omega) only [Nat.add_eq, eqSy_self, eqN_self, bc_same, List.length_cons, ofn, wrap_in, dt, df, bltD, bltN, ble_of, bleN, beqD, bc_t, bc_f, nn_ok, Nat.zero_add, to_nat, Int.zero_add, Int.sub_zero, Int.sub_self, Int.cast_ofNat_Int, Int.natCast_zero, Int.toNat_zero, List.take_zero, List.nil_append, List.length_append, List.length_nil, zj, thereUp]
  rw [e2]
theorem last {p : Int} {q : List (List U)} {nn : Bool} : RUN (stOf (sF2 p 0 q nn)) = .done (shE p q 0) [] 0 := by
  rw [st_u]
  simp (disch := omega) only [Nat.add_eq, eqSy_self, eqN_self, bc_same, List.length_cons, ofn, wrap_in, dt, df, bltD, bltN, ble_of, bleN, beqD, bc_t, bc_f, nn_ok, Nat.zero_add, to_nat, Int.zero_add, Int.sub_zero, Int.sub_self, Int.cast_ofNat_Int, Int.natCast_zero, Int.toNat_zero, List.take_zero, List.nil_append, List.length_append, List.length_nil]
  rfl
theorem loop2 {n : Nat} {p : Int} (hn : n ≤ 12) : ∀ (k : Nat) (q : List (List U)) (nn : Bool), k ≤ n → q.length + 25 * k ≤ 1000 → EndZ 11 ctF false (stOf (sF2 p k q nn)) (shE p (q ++ fanR n (2 * n - k) k) 0) [] 0
  | 0, q, nn, h, hq => by
    show EndZ _ _ _ _ (shE p (q ++ []) 0) _ _
    rw [List.append_nil]
    exact .done last
  | k + 1, q, nn, h, hq => by
    have e : fanR n (2 * n - (k + 1)) (k + 1) = thereL bRP (k + 1) ++ fanR n (2 * n - k) k := by
      show thereL bRP (kk n (2 * n - (k + 1))) ++ fanR n (2 * n - (k + 1) + 1) k = _
      rw [show 2 * n - (k + 1) + 1 = 2 * n - k by omega, show kk n (2 * n - (k + 1)) = k + 1 by unfold kk; split <;> omega]
    rw [e, ← List.append_assoc]
    exact .at ctF_ok (step2 (by omega) (by omega)) (loop2 hn k _ true (by omega) (by rw [List.length_append, thereL_len]; omega))
theorem loop1 {n : Nat} {p : Int} (hn : n ≤ 12) : ∀ (m i : Nat) (q : List (List U)) (nn : Bool), i + 1 + m = n → q.length ≤ 25 * i → EndZ 11 ctF false (stOf (sF1 n p (i + 1 : Nat) q nn)) (shE p (q ++ fanR n (i + 1) (2 * n - (i + 1))) 0) [] 0
  | 0, i, q, nn, h, hq => by
    have := loop2 (p := p) hn n q nn (by omega) (by omega)
    rw [show 2 * n - n = n by omega] at this
    rw [show i + 1 = n by omega, show 2 * n - n = n by omega]
    exact .at ctF_ok (next (by omega)) this
  | m + 1, i, q, nn, h, hq => by
    have e : fanR n (i + 1) (2 * n - (i + 1)) = thereL bRP (i + 1) ++ fanR n (i + 2) (2 * n - (i + 2)) := by
      rw [show 2 * n - (i + 1) = (2 * n - (i + 2)) + 1 by omega]
      show thereL bRP (kk n (i + 1)) ++ fanR n (i + 1 + 1) _ = _
      rw [show kk n (i + 1) = i + 1 by unfold kk; split <;> omega]
    rw [e, ← List.append_assoc]
    exact .at ctF_ok (step (by omega) (by omega) (by omega)) (loop1 hn m (i + 1) _ true (by omega) (by rw [List.length_append, thereL_len]; omega))
theorem ends (n : Int) : EndZ 11 ctF false (st0 11 [iv n]) (shE (fanP n) (fanL n) (fanE n)) [] 0 := by
  have h := in_t n
  unfold fanP fanL fanE
  by_cases h1 : n < 1
  · simp only [dt h1, bc_t] at h ⊢; exact (EndZ.done h).weak (shN_weak 7)
  by_cases h2 : 12 < n
  · simp only [df h1, dt h2, bc_t, bc_f] at h ⊢; exact (EndZ.done h).weak (shN_weak 7)
  obtain ⟨k, rfl⟩ : ∃ k : Nat, n = (k : Int) := ⟨n.toNat, by omega⟩
  simp (disch := omega) only [df h1, df h2, bc_f, bc_t, wrap_in] at h ⊢
  rw [Int.toNat_natCast]
  exact .at ctF_ok h (loop1 (n := k) (by omega) (k - 1) 0 [] false (by omega) (by simp))
end MFan
noncomputable def spPFan : ZCT := fun ax => match ax with
  | [.v (.int .i64 n)] => some ⟨decide (True), shE (fanP n) (fanL n) (fanE n), [], 0⟩
  | _ => none
theorem spPFan_ok : ZCtOk Try.prog 11 spPFan := fun γ w us ax r hs hc hax hN hfz => by
  unfold spPFan at hs
  split at hs
  case h_2 => cases hs
  rename_i n
  obtain ⟨rfl⟩ := Option.some.inj hs
  have hc_0 : decide (True) = true := hc
  have hc := of_decide_eq_true hc_0
  exact EndZ.calls (MFan.ends n) ctF_ok (by kernel_rfl) hax hN hfz
/-! ### Footside -/
namespace MFoot
noncomputable def RUN (s : ES) : ZF := RZs 12 ctF [(atS 0 12 7, [[(0,none),(4,none),(6,some (3, 56, .recs shW [])),(32,none),(33,none)]])] [] false s

noncomputable def sF (n m p i : Int) (q : List (List U)) (nn : Bool) : NS := ⟨[⟨12, 47, [(0, (EV.v (Value.int IntKind.i64 (n)))), (4, (EV.ptr 0 0)), (6, (EV.ptr 1 0)), (32, (EV.v (Value.int IntKind.i64 (m)))), (33, iv i)], [.it (.code (nav [1, 1, 1, 0, 1, 0, 0] (bodyOf Try.f12))), .it (.inLoop (nav [1, 1, 1, 0, 1, 0, 0] (bodyOf Try.f12))), .it (.inBlock 1), .it (.code (nav [1, 1, 1, 1] (bodyOf Try.f12)))], [], Option.none⟩], [(0, (EK.cells 24 [(EV.v (Value.int IntKind.i64 (0))), (EV.v (Value.slice Option.none 0 0))] true)), (1, EK.cells 51 [iv p, EV.slO 2 3 q.length nn] true), (2, EK.seq 56 (.recs shW q) nn)], 3⟩
theorem in_t (n m : Int) : RUN (st0 12 [iv n, iv m]) = (bc (Decidable.decide (n < 1))
  (.done (EV.tup [(EV.v (Value.agg (Array.mk [(Value.int IntKind.i64 (0)), (Value.slice Option.none 0 0)]))), (EV.v (Value.int IntKind.i64 (7)))]) [] 0)
  (bc (Decidable.decide (23 < n))
    (.done (EV.tup [(EV.v (Value.agg (Array.mk [(Value.int IntKind.i64 (0)), (Value.slice Option.none 0 0)]))), (EV.v (Value.int IntKind.i64 (7)))]) [] 0)
    (bc (Decidable.decide (m < 1))
      (.done (EV.tup [(EV.v (Value.agg (Array.mk [(Value.int IntKind.i64 (0)), (Value.slice Option.none 0 0)]))), (EV.v (Value.int IntKind.i64 (7)))]) [] 0)
      (bc (bc (bnot (IntKind.wrap IntKind.i64 (IntKind.wrap IntKind.i64 (2 * n) + 1) == 0)) Bool.true Bool.false)
        (bc (Decidable.decide (IntKind.wrap IntKind.i64 (Int.tdiv 400 (IntKind.wrap IntKind.i64 (IntKind.wrap IntKind.i64 (2 * n) + 1))) < m))
          (.done (EV.tup [(EV.v (Value.agg (Array.mk [(Value.int IntKind.i64 (0)), (Value.slice Option.none 0 0)]))), (EV.v (Value.int IntKind.i64 (3)))]) [] 0)
          (.at (sF (n) (m) (IntKind.wrap IntKind.i64 (n + 1)) (0) ([]) (Bool.false))))
        .bad)))) := by kernel_rfl
theorem st_t (n m p i : Int) (q : List (List U)) (nn : Bool) : RUN (stOf (sF n m p i q nn)) = (bc (Decidable.decide (i < m))
  (bc (Decidable.decide ((-1000 : Int) ≤ IntKind.wrap IntKind.i64 (n - (1 : Int)) ∧ IntKind.wrap IntKind.i64 (n - (1 : Int)) ≤ (1000 : Int) ∧ (-1000 : Int) ≤ (0 : Int) ∧ (0 : Int) ≤ (1000 : Int)))
    (bc (bc (bc (Nat.beq (List.length (wayL (IntKind.wrap IntKind.i64 (n - 1)) 0)) (List.length (wayL (IntKind.wrap IntKind.i64 (n - 1)) 0))) (bc (Nat.beq (List.length q) (List.length q)) (bc (eqN nn nn) (Decidable.decide (1 ≤ List.length (wayL (IntKind.wrap IntKind.i64 (n - 1)) 0) ∧ List.length (wayL (IntKind.wrap IntKind.i64 (n - 1)) 0) ≤ 1000 ∧ List.length q ≤ 60000)) Bool.false) Bool.false) Bool.false) Bool.true Bool.false)
      (.at (sF (n) (m) (p) (IntKind.wrap IntKind.i64 (i + 1)) (q ++ thereQ (zjoin (List.map (fun r => U.str (List.headD r (U.i 0))) [[U.s { data := #[76] }], [U.s { data := #[76] }], [U.s { data := #[80] }]]) { data := #[] }) (wayL (IntKind.wrap IntKind.i64 (n - 1)) 0)) (Bool.true)))
      .bad)
    .bad)
  (bc (bc (bc (Nat.beq (List.length q) (List.length q)) Bool.true Bool.false) Bool.true Bool.false)
    (.done (EV.tup [(EV.agg [(EV.v (Value.int IntKind.i64 (p))), (EV.lst (SyC.recs [(Sh.int IntKind.i64), (Sh.int IntKind.i64), Sh.str] (q)))]), (EV.v (Value.int IntKind.i64 (0)))]) [] 0)
    .bad)) := by kernel_rfl
theorem zj : zjoin (List.map (fun r => U.str (List.headD r (U.i 0))) [[U.s { data := #[76] }], [U.s { data := #[76] }], [U.s { data := #[80] }]]) { data := #[] } = bLLP := ba_ext rfl
theorem step {m p : Int} {n i : Nat} {q : List (List U)} {nn : Bool} (hi : (i : Int) < m) (hm : m ≤ 400) (hn : n + 1 ≤ 23) (hq : q.length ≤ 50000) : RUN (stOf (sF (n + 1 : Nat) m p i q nn)) = .at (sF (n + 1 : Nat) m p (i + 1 : Nat) (q ++ footL1 (n + 1)) true) := by
  rw [st_t]
  have hw := wayDn_len n
  simp (disch := omega) only [Nat.add_eq, eqSy_self, eqN_self, bc_same, List.length_cons, ofn, wrap_in, dt, df, bltD, bltN, ble_of, bleN, beqD, bc_t, bc_f, nn_ok, Nat.zero_add, to_nat, Int.zero_add, Int.sub_zero, Int.sub_self, Int.cast_ofNat_Int, Int.natCast_zero, Int.toNat_zero, List.take_zero, List.nil_append, List.length_append, List.length_nil, zj, thereDn]
  rfl
theorem last {n m p : Int} {i : Nat} {q : List (List U)} {nn : Bool} (hi : m ≤ (i : Int)) : RUN (stOf (sF n m p i q nn)) = .done (shE p q 0) [] 0 := by
  rw [st_t]
  simp (disch := omega) only [Nat.add_eq, eqSy_self, eqN_self, bc_same, List.length_cons, ofn, wrap_in, dt, df, bltD, bltN, ble_of, bleN, beqD, bc_t, bc_f, nn_ok, Nat.zero_add, to_nat, Int.zero_add, Int.sub_zero, Int.sub_self, Int.cast_ofNat_Int, Int.natCast_zero, Int.toNat_zero, List.take_zero, List.nil_append, List.length_append, List.length_nil]
  rfl
theorem loop {m n : Nat} {p : Int} (hm : m ≤ 400) (hn : n + 1 ≤ 23) : ∀ (k i : Nat) (q : List (List U)) (nn : Bool), i + k = m → q.length ≤ 47 * i → EndZ 12 ctF false (stOf (sF (n + 1 : Nat) m p i q nn)) (shE p (q ++ footR (n + 1) k) 0) [] 0
  | 0, i, q, nn, h, hq => by
    show EndZ _ _ _ _ (shE p (q ++ []) 0) _ _
    rw [List.append_nil]
    exact .done (last (by omega))
  | k + 1, i, q, nn, h, hq => by
    show EndZ _ _ _ _ (shE p (q ++ (footL1 (n + 1) ++ footR (n + 1) k)) 0) _ _
    rw [← List.append_assoc]
    exact .at ctF_ok (step (by omega) (by omega) hn (by omega)) (loop hm hn k (i + 1) _ true (by omega) (by unfold footL1; simp [upR_len, downR_len]; omega))
theorem ends (n m : Int) : EndZ 12 ctF false (st0 12 [iv n, iv m]) (shE (footP n m) (footL n m) (footE n m)) [] 0 := by
  have h := in_t n m
  unfold footP footL
  by_cases h1 : n < 1
  · have e : footE n m = 7 := by unfold footE; rw [dt h1, bc_t]
    rw [e]; simp only [dt h1, bc_t] at h; exact (EndZ.done h).weak (shN_weak 7)
  by_cases h2 : 23 < n
  · have e : footE n m = 7 := by unfold footE; rw [df h1, bc_f, dt h2, bc_t]
    rw [e]; simp only [df h1, dt h2, bc_t, bc_f] at h; exact (EndZ.done h).weak (shN_weak 7)
  by_cases h3 : m < 1
  · have e : footE n m = 7 := by unfold footE; rw [df h1, bc_f, df h2, bc_f, dt h3, bc_t]
    rw [e]; simp only [df h1, df h2, dt h3, bc_t, bc_f] at h; exact (EndZ.done h).weak (shN_weak 7)
  have g1 : 0 ≤ Int.tdiv 400 (2 * n + 1) := Int.tdiv_nonneg (by omega) (by omega)
  have g2 : Int.tdiv 400 (2 * n + 1) ≤ 400 := Int.tdiv_le_self _ (by omega)
  have g3 : (2 * n + 1 == 0) = false := by simp; omega
  have g4 : bnot (2 * n + 1 == 0) = true := by rw [g3]; rfl
  rw [wrap_in (2 * n) (by omega) (by omega), wrap_in (2 * n + 1) (by omega) (by omega), wrap_in (Int.tdiv 400 (2 * n + 1)) (by omega) (by omega)] at h
  by_cases h4 : Int.tdiv 400 (2 * n + 1) < m
  · have e : footE n m = 3 := by unfold footE; rw [df h1, bc_f, df h2, bc_f, df h3, bc_f, dt h4, bc_t]
    rw [e]; simp only [df h1, df h2, df h3, dt h4, g4, bc_t, bc_f] at h; exact (EndZ.done h).weak (shN_weak 3)
  have e : footE n m = 0 := by unfold footE; rw [df h1, bc_f, df h2, bc_f, df h3, bc_f, df h4, bc_f]
  rw [e]
  simp (disch := omega) only [df h1, df h2, df h3, df h4, g4, bc_t, bc_f, dt, wrap_in] at h
  obtain ⟨n', rfl⟩ : ∃ k : Nat, n = ((k + 1 : Nat) : Int) := ⟨n.toNat - 1, by omega⟩
  obtain ⟨m', rfl⟩ : ∃ k : Nat, m = (k : Int) := ⟨m.toNat, by omega⟩
  have := loop (n := n') (m := m') (p := ((n' + 1 : Nat) : Int) + 1) (by omega) (by omega) m' 0 [] false (by omega) (by simp)
  rw [List.nil_append] at this
  exact .at ctF_ok h this
end MFoot
noncomputable def spPFoot : ZCT := fun ax => match ax with
  | [.v (.int .i64 n), .v (.int .i64 m)] => some ⟨decide (True), shE (footP n m) (footL n m) (footE n m), [], 0⟩
  | _ => none
theorem spPFoot_ok : ZCtOk Try.prog 12 spPFoot := fun γ w us ax r hs hc hax hN hfz => by
  unfold spPFoot at hs
  split at hs
  case h_2 => cases hs
  rename_i n m
  obtain ⟨rfl⟩ := Option.some.inj hs
  have hc_0 : decide (True) = true := hc
  have hc := of_decide_eq_true hc_0
  exact EndZ.calls (MFoot.ends n m) ctF_ok (by kernel_rfl) hax hN hfz
end Go.Proofs.Ytojbgacoolanlaa.Ev
namespace Go.Proofs.Ytojbgacoolanlaa.Ev
open Go.Proofs
theorem shown_run : endsB (exClosed Try.prog ft (drD Try.prog ft 16 4) 14 18) = true := by kernel_rfl
end Go.Proofs.Ytojbgacoolanlaa.Ev
namespace Go.Proofs.Ytojbgacoolanlaa.Ev
open Go.Proofs
theorem shownC (w : World) : Calls Try.prog 14 #[] w fun e w' => e = .returned (.bool true) ∧ Stays w w' := closedTrue ftOk (drD_ok mix ftOk 16 4) shown_run w
theorem closed_ct {P : Program} {f : FuncId} {γ : G} {w : World} {us : Array Value} (h : Calls P f #[] w fun e w' => e = .returned (.bool true) ∧ Stays w w') (hax : ECL γ [] us.toList) (hfz : FzAt γ w) : Calls P f us w fun e w' => ∃ γ' x, e = .returned x ∧ EC γ' (bv true) x ∧ HR γ' (Bs.ofG w γ) (mkT (zseqs [])) 0 w' := by
  have hu : us = #[] := by
    have := hax.1
    apply Array.toList_inj.1
    exact List.eq_nil_of_length_eq_zero this.symm
  subst hu
  refine h.mono ?_
  rintro e w' ⟨rfl, hs⟩
  refine ⟨⟨fun _ => none, γ.fz⟩, _, rfl, .v _, ⟨(fun i k hk => by cases hk), (fun i j ki kj hi => by cases hi), (fun _ _ => rfl), (fun i hi => hi.elim), (fun i p hp => by cases hp), ⟨hs.os, hs.tape, hs.output, hs.size, hs.block⟩, ⟨fun k a hk => ?_, fun k hk => hk⟩⟩⟩
  obtain ⟨ty, fz, h1⟩ := hfz k a hk
  have hk2 := (Array.getElem?_eq_some_iff.1 h1).1
  exact ⟨⟨ty, fz, (hs.block k hk2).trans h1⟩, .inl ⟨a, hk⟩, fun i ki b m hi => by cases hi⟩
theorem law_of {P : Program} {f : FuncId} {γ : G} {w : World} {us : Array Value} {K : List (Nat × EK)} {n : Nat} (h : Calls P f us w fun e w' => ∃ γ' x, e = .returned x ∧ EC γ' (bv true) x ∧ HR γ' (Bs.ofG w γ) (mkT K) n w') : Calls P f us w fun e w' => e = .returned (.bool true) ∧ Stays w w' := h.mono fun e w' ⟨γ', x, h1, h2, h3⟩ => ⟨by rw [h1, ec_v h2], staysOf h3.stays⟩
noncomputable def spShown : ZCT := fun ax => match ax with
  | [] => some ⟨true, bv true, [], 0⟩
  | _ => none
theorem spShown_ok : ZCtOk Try.prog 14 spShown := fun γ w us ax r hs hc hax hN hfz => by
  unfold spShown at hs
  split at hs
  case h_2 => cases hs
  obtain ⟨rfl⟩ := Option.some.inj hs
  exact closed_ct (shownC w) hax hfz
noncomputable def ctL : Tr ZCC := ((((((((((((Tr.nil.put 15 (some (dC spPlait))).put 19 (some (dC spPlait))).put 20 (some (dC spPic))).put 21 (some (dC spPic))).put 8 (some (dC spSpi))).put 22 (some (dC spSpi))).put 11 (some (dC spPFan))).put 23 (some (dC spFan))).put 12 (some (dC spPFoot))).put 24 (some (dC spFoot))).put 13 (some (dC spWin))).put 25 (some (dC spWin))).put 16 (some (dC spSame))
theorem ctL_ok : ZCtsOk Try.prog ctL := ((((((((((((((ZCtsOk.nil _).add rfl spPlait_ok).add rfl spRPlait_ok).add rfl spPPic_ok).add rfl spRPic_ok).add rfl spPSpi_ok).add rfl spRSpi_ok).add rfl spPFan_ok).add rfl spRFan_ok).add rfl spPFoot_ok).add rfl spRFoot_ok).add rfl spPWin_ok).add rfl spRWin_ok).add rfl spSame_ok)
noncomputable def ctLS : Tr ZCC := ctL.put 14 (some (dC spShown))
theorem ctLS_ok : ZCtsOk Try.prog ctLS := ctL_ok.add rfl spShown_ok
namespace MPlain
noncomputable def RUN (s : ES) : ZF := RZ 5 ctLS (fun _ => false) [] [] false s
theorem in_t (n m : Int) : RUN (st0 5 [iv n, iv m]) = (bc (bc (Nat.ble (List.length (plaitL n)) (100000 : Nat)) Bool.true Bool.false)
  (bc (!sameW (plaitP n) (plaitP n) (plaitL n) (plaitL n))
    (.done (EV.v (Value.bool false)) [] 0)
    (bc (plaitE n != plaitE n)
      (.done (EV.v (Value.bool false)) [] 0)
      (bc (bc (Nat.ble (List.length (picL n)) (100000 : Nat)) Bool.true Bool.false)
        (bc (!sameW (picP n) (picP n) (picL n) (picL n))
          (.done (EV.v (Value.bool false)) [] 0)
          (bc (picE n != picE n)
            (.done (EV.v (Value.bool false)) [] 0)
            (bc (bc (Nat.ble (List.length (bc (spiOk n m) (spiL n (tws n m)) [])) (100000 : Nat)) Bool.true Bool.false)
              (bc (!sameW (bc (spiOk n m) ((2 : Int) * n) (0 : Int)) (bc (spiOk n m) ((2 : Int) * n) (0 : Int)) (bc (spiOk n m) (spiL n (tws n m)) []) (bc (spiOk n m) (spiL n (tws n m)) []))
                (.done (EV.v (Value.bool false)) [] 0)
                (bc (bc (spiOk n m) (0 : Int) (7 : Int) != bc (spiOk n m) (0 : Int) (7 : Int))
                  (.done (EV.v (Value.bool false)) [] 0)
                  (bc (bc (Nat.ble (List.length (fanL n)) (100000 : Nat)) Bool.true Bool.false)
                    (bc (!sameW (fanP n) (fanP n) (fanL n) (fanL n))
                      (.done (EV.v (Value.bool false)) [] 0)
                      (bc (fanE n != fanE n)
                        (.done (EV.v (Value.bool false)) [] 0)
                        (bc (bc (Nat.ble (List.length (footL n m)) (100000 : Nat)) Bool.true Bool.false)
                          (bc (sameW (footP n m) (footP n m) (footL n m) (footL n m))
                            (bc (footE n m == footE n m)
                              (.done (EV.v (Value.bool true)) [] 0)
                              (.done (EV.v (Value.bool false)) [] 0))
                            (.done (EV.v (Value.bool false)) [] 0))
                          .bad)))
                    .bad)))
              .bad)))
        .bad)))
  .bad) := by kernel_rfl
theorem nb (e : Int) : (e != e) = false := by simp
theorem eb (e : Int) : (e == e) = true := by simp
theorem fanR_len (n : Nat) : ∀ (m r : Nat), n ≤ 12 → (fanR n r m).length ≤ 25 * m
  | 0, _, _ => by unfold fanR; simp
  | m + 1, r, h => by
    have := fanR_len n m (r + 1) h
    show (thereL bRP (kk n r) ++ fanR n (r + 1) m).length ≤ _
    rw [List.length_append, thereL_len]
    by_cases h1 : kk n r ≤ 12
    · omega
    · unfold kk at h1
      split at h1 <;> omega
end MPlain
theorem plaitL_len (n : Int) : (plaitL n).length ≤ 100000 := by
  unfold plaitL
  by_cases h1 : n < 1
  · rw [dt h1, bc_t]; simp
  by_cases h2 : 100 < n
  · rw [df h1, dt h2, bc_f, bc_t]; simp
  · rw [df h1, df h2, bc_f, bc_f, List.length_replicate]; omega
theorem picL_len (n : Int) : (picL n).length ≤ 100000 := by
  unfold picL
  by_cases h1 : n < 1
  · rw [dt h1, bc_t]; simp
  by_cases h2 : 7 < n
  · rw [df h1, dt h2, bc_f, bc_t]; simp
  · rw [df h1, df h2, bc_f, bc_f]; simp
theorem spiB_len (n m : Int) : (bc (spiOk n m) (spiL n (tws n m)) []).length ≤ 100000 := by
  cases h : spiOk n m
  · simp [bc]
  · rw [bc_t]
    have h1 := spiOk_pos h
    have h2 : n ≤ 6 := by
      unfold spiOk at h
      by_cases h2 : 6 < n
      · rw [df (show ¬ n < 1 by omega), bc_f, dt h2, bc_t] at h; cases h
      · omega
    have l1 := twsQ_len n m
    rw [← tws_eq] at l1
    have l2 := bodyL_len h2
    unfold spiL
    simp only [List.length_append, List.length_cons, List.length_nil]
    omega
theorem fanL_len (n : Int) : (fanL n).length ≤ 100000 := by
  unfold fanL
  by_cases h1 : n < 1
  · rw [dt h1, bc_t]; simp
  by_cases h2 : 12 < n
  · rw [df h1, dt h2, bc_f, bc_t]; simp
  · rw [df h1, df h2, bc_f, bc_f]
    have := MPlain.fanR_len n.toNat (2 * n.toNat - 1) 1 (by omega)
    omega
theorem footR_len (n : Nat) : ∀ m, (footR n m).length = (2 * n + 1) * m
  | 0 => rfl
  | m + 1 => by
    show (footL1 n ++ footR n m).length = _
    rw [List.length_append, footR_len n m, Nat.mul_succ]
    unfold footL1
    simp only [List.length_append, List.length_cons, List.length_nil, upR_len, downR_len]
    omega
theorem footL_len (n m : Int) : (footL n m).length ≤ 100000 := by
  unfold footL
  cases h : (footE n m == 0)
  · simp [bc]
  · rw [bc_t, footR_len]
    have h : footE n m = 0 := by simpa using h
    unfold footE at h
    by_cases h1 : n < 1
    · rw [dt h1, bc_t] at h; omega
    by_cases h2 : 23 < n
    · rw [df h1, bc_f, dt h2, bc_t] at h; omega
    by_cases h3 : m < 1
    · rw [df h1, bc_f, df h2, bc_f, dt h3, bc_t] at h; omega
    have g2 : Int.tdiv 400 (2 * n + 1) ≤ 400 := Int.tdiv_le_self _ (by omega)
    by_cases h4 : Int.tdiv 400 (2 * n + 1) < m
    · rw [df h1, bc_f, df h2, bc_f, df h3, bc_f, dt h4, bc_t] at h; omega
    exact Nat.le_trans (Nat.mul_le_mul (show 2 * n.toNat + 1 ≤ 47 by omega) (show m.toNat ≤ 400 by omega)) (by omega)
theorem MPlain.ends (n m : Int) : EndZ 5 ctLS false (st0 5 [iv n, iv m]) (bv true) [] 0 := by
  have h := MPlain.in_t n m
  have e1 := plaitL_len n
  have e2 := picL_len n
  have e3 := spiB_len n m
  have e4 := fanL_len n
  have e5 := footL_len n m
  simp (disch := omega) only [Nat.add_eq, eqSy_self, eqN_self, bc_same, List.length_cons, ofn, wrap_in, dt, df, bltD, bltN, ble_of, bleN, beqD, bc_t, bc_f, nn_ok, Nat.zero_add, to_nat, Int.zero_add, Int.sub_zero, Int.sub_self, Int.cast_ofNat_Int, Int.natCast_zero, Int.toNat_zero, List.take_zero, List.nil_append, List.length_append, List.length_nil, sameW_self, MPlain.nb, MPlain.eb, Bool.not_true] at h
  exact .done h
theorem motifsPlain_calls {γ : G} {w : World} {us : Array Value} (n m : Int) (hax : ECL γ [iv n, iv m] us.toList) (hN : ∀ i, γ i = none) (hfz : FzAt γ w) : Calls Try.prog 5 us w fun e w' => e = .returned (.bool true) ∧ Stays w w' :=
  law_of ((MPlain.ends n m).calls ctLS_ok (by kernel_rfl) hax hN hfz)
end Go.Proofs.Ytojbgacoolanlaa.Ev
namespace Go.Proofs.Ytojbgacoolanlaa.Ev
open Go.Proofs
noncomputable abbrev bPlait : ByteArray := ByteArray.mk #[112, 108, 97, 105, 116]
noncomputable abbrev bPicot : ByteArray := ByteArray.mk #[112, 105, 99, 111, 116]
noncomputable abbrev bSpider : ByteArray := ByteArray.mk #[115, 112, 105, 100, 101, 114]
noncomputable abbrev bFan : ByteArray := ByteArray.mk #[102, 97, 110]
noncomputable abbrev bFoot : ByteArray := ByteArray.mk #[102, 111, 111, 116, 115, 105, 100, 101]
noncomputable abbrev bWind : ByteArray := ByteArray.mk #[119, 105, 110, 100, 109, 105, 108, 108]
theorem strB (a b : ByteArray) : (a.toList == b.toList) = (a == b) := (beq_toListBytes a b).symm
noncomputable def mk6 {α : Type} (s : ByteArray) (a b c d e f z : α) : α := bc (s == bPlait) a (bc (s == bPicot) b (bc (s == bSpider) c (bc (s == bFan) d (bc (s == bFoot) e (bc (s == bWind) f z)))))
noncomputable def nl {α : Type} (l : List Int) (k : Int) (x y : α) : α := bc (Int.ofNat l.length != k) x y
noncomputable def mkP (s : ByteArray) (l : List Int) : Int := mk6 s (nl l 1 0 (plaitP (l.getD 0 0))) (nl l 1 0 (picP (l.getD 0 0))) (nl l 2 0 (bc (spiOk (l.getD 0 0) (l.getD 1 0)) (2 * l.getD 0 0) 0)) (nl l 1 0 (fanP (l.getD 0 0))) (nl l 2 0 (footP (l.getD 0 0) (l.getD 1 0))) (nl l 0 0 4) 0
noncomputable def mkL (s : ByteArray) (l : List Int) : List (List U) := mk6 s (nl l 1 [] (plaitL (l.getD 0 0))) (nl l 1 [] (picL (l.getD 0 0))) (nl l 2 [] (bc (spiOk (l.getD 0 0) (l.getD 1 0)) (spiL (l.getD 0 0) (tws (l.getD 0 0) (l.getD 1 0))) [])) (nl l 1 [] (fanL (l.getD 0 0))) (nl l 2 [] (footL (l.getD 0 0) (l.getD 1 0))) (nl l 0 [] winL) []
noncomputable def mkE (s : ByteArray) (l : List Int) : Int := mk6 s (nl l 1 2 (plaitE (l.getD 0 0))) (nl l 1 2 (picE (l.getD 0 0))) (nl l 2 2 (bc (spiOk (l.getD 0 0) (l.getD 1 0)) 0 7)) (nl l 1 2 (fanE (l.getD 0 0))) (nl l 2 2 (footE (l.getD 0 0) (l.getD 1 0))) (nl l 0 2 0) 4
namespace MMk
noncomputable def RP (s : ES) : ZF := RZ 26 ctL (fun _ => false) [] [] false s
noncomputable def RR (s : ES) : ZF := RZ 31 ctL (fun _ => false) [] [] false s
theorem p_t (s : ByteArray) (l : List Int) : RP (st0 26 [sv s, il l]) = (bc (s == { data := #[(112 : UInt8), (108 : UInt8), (97 : UInt8), (105 : UInt8), (116 : UInt8)] })
  (bc (Int.ofNat (List.length l) != (1 : Int))
    (.done (EV.tup [(EV.v (Value.agg (Array.mk [(Value.int IntKind.i64 (0)), (Value.slice Option.none 0 0)]))), (EV.v (Value.int IntKind.i64 (2)))]) [] 0)
    (bc (bc (bc (bc (Nat.blt (Int.toNat (0 : Int)) (List.length l)) Bool.true Bool.false) (bc (bc (Nat.blt (Int.toNat (0 : Int)) (List.length l)) Bool.true Bool.false) Bool.true Bool.false) Bool.false) Bool.true Bool.false)
      (.done (EV.tup [(EV.agg [(EV.v (Value.int IntKind.i64 (plaitP (List.getD l (Int.toNat (0 : Int)) (0 : Int))))), (EV.lst (SyC.recs [(Sh.int IntKind.i64), (Sh.int IntKind.i64), Sh.str] (plaitL (List.getD l (Int.toNat (0 : Int)) (0 : Int)))))]), (EV.v (Value.int IntKind.i64 (plaitE (List.getD l (Int.toNat (0 : Int)) (0 : Int)))))]) [] 0)
      .bad))
  (bc (s == { data := #[(112 : UInt8), (105 : UInt8), (99 : UInt8), (111 : UInt8), (116 : UInt8)] })
    (bc (Int.ofNat (List.length l) != (1 : Int))
      (.done (EV.tup [(EV.v (Value.agg (Array.mk [(Value.int IntKind.i64 (0)), (Value.slice Option.none 0 0)]))), (EV.v (Value.int IntKind.i64 (2)))]) [] 0)
      (bc (bc (bc (bc (Nat.blt (Int.toNat (0 : Int)) (List.length l)) Bool.true Bool.false) (bc (bc (Nat.blt (Int.toNat (0 : Int)) (List.length l)) Bool.true Bool.false) Bool.true Bool.false) Bool.false) Bool.true Bool.false)
        (.done (EV.tup [(EV.agg [(EV.v (Value.int IntKind.i64 (picP (List.getD l (Int.toNat (0 : Int)) (0 : Int))))), (EV.lst (SyC.recs [(Sh.int IntKind.i64), (Sh.int IntKind.i64), Sh.str] (picL (List.getD l (Int.toNat (0 : Int)) (0 : Int)))))]), (EV.v (Value.int IntKind.i64 (picE (List.getD l (Int.toNat (0 : Int)) (0 : Int)))))]) [] 0)
        .bad))
    (bc (s == { data := #[(115 : UInt8), (112 : UInt8), (105 : UInt8), (100 : UInt8), (101 : UInt8), (114 : UInt8)] })
      (bc (Int.ofNat (List.length l) != (2 : Int))
        (.done (EV.tup [(EV.v (Value.agg (Array.mk [(Value.int IntKind.i64 (0)), (Value.slice Option.none 0 0)]))), (EV.v (Value.int IntKind.i64 (2)))]) [] 0)
        (bc (bc (bc (bc (Nat.blt (Int.toNat (0 : Int)) (List.length l)) Bool.true Bool.false) (bc (bc (Nat.blt (Int.toNat (0 : Int)) (List.length l)) Bool.true Bool.false) (bc (bc (Nat.blt (Int.toNat (1 : Int)) (List.length l)) Bool.true Bool.false) (bc (bc (Nat.blt (Int.toNat (1 : Int)) (List.length l)) Bool.true Bool.false) Bool.true Bool.false) Bool.false) Bool.false) Bool.false) Bool.true Bool.false)
          (.done (EV.tup [(EV.agg [(EV.v (Value.int IntKind.i64 (bc (spiOk (List.getD l (Int.toNat (0 : Int)) (0 : Int)) (List.getD l (Int.toNat (1 : Int)) (0 : Int))) ((2 : Int) * List.getD l (Int.toNat (0 : Int)) (0 : Int)) (0 : Int)))), (EV.lst (SyC.recs [(Sh.int IntKind.i64), (Sh.int IntKind.i64), Sh.str] (bc (spiOk (List.getD l (Int.toNat (0 : Int)) (0 : Int)) (List.getD l (Int.toNat (1 : Int)) (0 : Int))) (spiL (List.getD l (Int.toNat (0 : Int)) (0 : Int)) (tws (List.getD l (Int.toNat (0 : Int)) (0 : Int)) (List.getD l (Int.toNat (1 : Int)) (0 : Int)))) [])))]), (EV.v (Value.int IntKind.i64 (bc (spiOk (List.getD l (Int.toNat (0 : Int)) (0 : Int)) (List.getD l (Int.toNat (1 : Int)) (0 : Int))) (0 : Int) (7 : Int))))]) [] 0)
          .bad))
      (bc (s == { data := #[(102 : UInt8), (97 : UInt8), (110 : UInt8)] })
        (bc (Int.ofNat (List.length l) != (1 : Int))
          (.done (EV.tup [(EV.v (Value.agg (Array.mk [(Value.int IntKind.i64 (0)), (Value.slice Option.none 0 0)]))), (EV.v (Value.int IntKind.i64 (2)))]) [] 0)
          (bc (bc (bc (bc (Nat.blt (Int.toNat (0 : Int)) (List.length l)) Bool.true Bool.false) (bc (bc (Nat.blt (Int.toNat (0 : Int)) (List.length l)) Bool.true Bool.false) Bool.true Bool.false) Bool.false) Bool.true Bool.false)
            (.done (EV.tup [(EV.agg [(EV.v (Value.int IntKind.i64 (fanP (List.getD l (Int.toNat (0 : Int)) (0 : Int))))), (EV.lst (SyC.recs [(Sh.int IntKind.i64), (Sh.int IntKind.i64), Sh.str] (fanL (List.getD l (Int.toNat (0 : Int)) (0 : Int)))))]), (EV.v (Value.int IntKind.i64 (fanE (List.getD l (Int.toNat (0 : Int)) (0 : Int)))))]) [] 0)
            .bad))
        (bc (s == { data := #[(102 : UInt8), (111 : UInt8), (111 : UInt8), (116 : UInt8), (115 : UInt8), (105 : UInt8), (100 : UInt8), (101 : UInt8)] })
          (bc (Int.ofNat (List.length l) != (2 : Int))
            (.done (EV.tup [(EV.v (Value.agg (Array.mk [(Value.int IntKind.i64 (0)), (Value.slice Option.none 0 0)]))), (EV.v (Value.int IntKind.i64 (2)))]) [] 0)
            (bc (bc (bc (bc (Nat.blt (Int.toNat (0 : Int)) (List.length l)) Bool.true Bool.false) (bc (bc (Nat.blt (Int.toNat (0 : Int)) (List.length l)) Bool.true Bool.false) (bc (bc (Nat.blt (Int.toNat (1 : Int)) (List.length l)) Bool.true Bool.false) (bc (bc (Nat.blt (Int.toNat (1 : Int)) (List.length l)) Bool.true Bool.false) Bool.true Bool.false) Bool.false) Bool.false) Bool.false) Bool.true Bool.false)
              (.done (EV.tup [(EV.agg [(EV.v (Value.int IntKind.i64 (footP (List.getD l (Int.toNat (0 : Int)) (0 : Int)) (List.getD l (Int.toNat (1 : Int)) (0 : Int))))), (EV.lst (SyC.recs [(Sh.int IntKind.i64), (Sh.int IntKind.i64), Sh.str] (footL (List.getD l (Int.toNat (0 : Int)) (0 : Int)) (List.getD l (Int.toNat (1 : Int)) (0 : Int)))))]), (EV.v (Value.int IntKind.i64 (footE (List.getD l (Int.toNat (0 : Int)) (0 : Int)) (List.getD l (Int.toNat (1 : Int)) (0 : Int)))))]) [] 0)
              .bad))
          (bc (s == { data := #[(119 : UInt8), (105 : UInt8), (110 : UInt8), (100 : UInt8), (109 : UInt8), (105 : UInt8), (108 : UInt8), (108 : UInt8)] })
            (bc (Int.ofNat (List.length l) != (0 : Int))
              (.done (EV.tup [(EV.v (Value.agg (Array.mk [(Value.int IntKind.i64 (0)), (Value.slice Option.none 0 0)]))), (EV.v (Value.int IntKind.i64 (2)))]) [] 0)
              (.done (EV.tup [(EV.agg [(EV.v (Value.int IntKind.i64 (4))), (EV.lst (SyC.recs [(Sh.int IntKind.i64), (Sh.int IntKind.i64), Sh.str] [[(U.i (1 : Int)), (U.i (1 : Int)), (U.s bCTC)], [(U.i (1 : Int)), (U.i (0 : Int)), (U.s bCTC)], [(U.i (1 : Int)), (U.i (2 : Int)), (U.s bCTC)], [(U.i (1 : Int)), (U.i (1 : Int)), (U.s bP)], [(U.i (1 : Int)), (U.i (1 : Int)), (U.s bCTC)]]))]), (EV.v (Value.int IntKind.i64 (0)))]) [] 0))
            (.done (EV.tup [(EV.v (Value.agg (Array.mk [(Value.int IntKind.i64 (0)), (Value.slice Option.none 0 0)]))), (EV.v (Value.int IntKind.i64 (4)))]) [] 0))))))) := by kernel_rfl
theorem r_t (s : ByteArray) (l : List Int) : RR (st0 31 [sv s, il l]) = (bc (ByteArray.toList s == ByteArray.toList { data := #[(112 : UInt8), (108 : UInt8), (97 : UInt8), (105 : UInt8), (116 : UInt8)] })
  (bc (Int.ofNat (List.length l) != (1 : Int))
    (.done (EV.tup [(EV.v (Value.agg (Array.mk [(Value.int IntKind.i64 (0)), (Value.slice Option.none 0 0)]))), (EV.v (Value.int IntKind.i64 (2)))]) [] 0)
    (bc (ByteArray.toList s == ByteArray.toList { data := #[(112 : UInt8), (108 : UInt8), (97 : UInt8), (105 : UInt8), (116 : UInt8)] })
      (bc (bc (Nat.blt (Int.toNat (0 : Int)) (List.length l)) Bool.true Bool.false)
        (bc (bc (Nat.blt (Int.toNat (0 : Int)) (List.length l)) Bool.true Bool.false)
          (.done (EV.tup [(EV.agg [(EV.v (Value.int IntKind.i64 (plaitP (List.getD l (Int.toNat (0 : Int)) (0 : Int))))), (EV.lst (SyC.recs [(Sh.int IntKind.i64), (Sh.int IntKind.i64), Sh.str] (plaitL (List.getD l (Int.toNat (0 : Int)) (0 : Int)))))]), (EV.v (Value.int IntKind.i64 (plaitE (List.getD l (Int.toNat (0 : Int)) (0 : Int)))))]) [] 0)
          .bad)
        .bad)
      (bc (ByteArray.toList s == ByteArray.toList { data := #[(112 : UInt8), (105 : UInt8), (99 : UInt8), (111 : UInt8), (116 : UInt8)] })
        (bc (bc (Nat.blt (Int.toNat (0 : Int)) (List.length l)) Bool.true Bool.false)
          (bc (bc (Nat.blt (Int.toNat (0 : Int)) (List.length l)) Bool.true Bool.false)
            (.done (EV.tup [(EV.agg [(EV.v (Value.int IntKind.i64 (picP (List.getD l (Int.toNat (0 : Int)) (0 : Int))))), (EV.lst (SyC.recs [(Sh.int IntKind.i64), (Sh.int IntKind.i64), Sh.str] (picL (List.getD l (Int.toNat (0 : Int)) (0 : Int)))))]), (EV.v (Value.int IntKind.i64 (picE (List.getD l (Int.toNat (0 : Int)) (0 : Int)))))]) [] 0)
            .bad)
          .bad)
        (bc (ByteArray.toList s == ByteArray.toList { data := #[(115 : UInt8), (112 : UInt8), (105 : UInt8), (100 : UInt8), (101 : UInt8), (114 : UInt8)] })
          (bc (bc (bc (bc (Nat.blt (Int.toNat (0 : Int)) (List.length l)) Bool.true Bool.false) (bc (bc (Nat.blt (Int.toNat (0 : Int)) (List.length l)) Bool.true Bool.false) (bc (bc (Nat.blt (Int.toNat (1 : Int)) (List.length l)) Bool.true Bool.false) (bc (bc (Nat.blt (Int.toNat (1 : Int)) (List.length l)) Bool.true Bool.false) Bool.true Bool.false) Bool.false) Bool.false) Bool.false) Bool.true Bool.false)
            (.done (EV.tup [(EV.agg [(EV.v (Value.int IntKind.i64 (bc (spiOk (List.getD l (Int.toNat (0 : Int)) (0 : Int)) (List.getD l (Int.toNat (1 : Int)) (0 : Int))) ((2 : Int) * List.getD l (Int.toNat (0 : Int)) (0 : Int)) (0 : Int)))), (EV.lst (SyC.recs [(Sh.int IntKind.i64), (Sh.int IntKind.i64), Sh.str] (bc (spiOk (List.getD l (Int.toNat (0 : Int)) (0 : Int)) (List.getD l (Int.toNat (1 : Int)) (0 : Int))) (spiL (List.getD l (Int.toNat (0 : Int)) (0 : Int)) (tws (List.getD l (Int.toNat (0 : Int)) (0 : Int)) (List.getD l (Int.toNat (1 : Int)) (0 : Int)))) [])))]), (EV.v (Value.int IntKind.i64 (bc (spiOk (List.getD l (Int.toNat (0 : Int)) (0 : Int)) (List.getD l (Int.toNat (1 : Int)) (0 : Int))) (0 : Int) (7 : Int))))]) [] 0)
            .bad)
          (bc (ByteArray.toList s == ByteArray.toList { data := #[(102 : UInt8), (97 : UInt8), (110 : UInt8)] })
            (bc (bc (Nat.blt (Int.toNat (0 : Int)) (List.length l)) Bool.true Bool.false)
              (bc (bc (Nat.blt (Int.toNat (0 : Int)) (List.length l)) Bool.true Bool.false)
                (.done (EV.tup [(EV.agg [(EV.v (Value.int IntKind.i64 (fanP (List.getD l (Int.toNat (0 : Int)) (0 : Int))))), (EV.lst (SyC.recs [(Sh.int IntKind.i64), (Sh.int IntKind.i64), Sh.str] (fanL (List.getD l (Int.toNat (0 : Int)) (0 : Int)))))]), (EV.v (Value.int IntKind.i64 (fanE (List.getD l (Int.toNat (0 : Int)) (0 : Int)))))]) [] 0)
                .bad)
              .bad)
            (bc (ByteArray.toList s == ByteArray.toList { data := #[(102 : UInt8), (111 : UInt8), (111 : UInt8), (116 : UInt8), (115 : UInt8), (105 : UInt8), (100 : UInt8), (101 : UInt8)] })
              (bc (bc (bc (bc (Nat.blt (Int.toNat (0 : Int)) (List.length l)) Bool.true Bool.false) (bc (bc (Nat.blt (Int.toNat (0 : Int)) (List.length l)) Bool.true Bool.false) (bc (bc (Nat.blt (Int.toNat (1 : Int)) (List.length l)) Bool.true Bool.false) (bc (bc (Nat.blt (Int.toNat (1 : Int)) (List.length l)) Bool.true Bool.false) Bool.true Bool.false) Bool.false) Bool.false) Bool.false) Bool.true Bool.false)
                (.done (EV.tup [(EV.agg [(EV.v (Value.int IntKind.i64 (footP (List.getD l (Int.toNat (0 : Int)) (0 : Int)) (List.getD l (Int.toNat (1 : Int)) (0 : Int))))), (EV.lst (SyC.recs [(Sh.int IntKind.i64), (Sh.int IntKind.i64), Sh.str] (footL (List.getD l (Int.toNat (0 : Int)) (0 : Int)) (List.getD l (Int.toNat (1 : Int)) (0 : Int)))))]), (EV.v (Value.int IntKind.i64 (footE (List.getD l (Int.toNat (0 : Int)) (0 : Int)) (List.getD l (Int.toNat (1 : Int)) (0 : Int)))))]) [] 0)
                .bad)
              (.done (EV.tup [(EV.agg [(EV.v (Value.int IntKind.i64 (4))), (EV.lst (SyC.recs [(Sh.int IntKind.i64), (Sh.int IntKind.i64), Sh.str] [[(U.i (1 : Int)), (U.i (1 : Int)), (U.s bCTC)], [(U.i (1 : Int)), (U.i (0 : Int)), (U.s bCTC)], [(U.i (1 : Int)), (U.i (2 : Int)), (U.s bCTC)], [(U.i (1 : Int)), (U.i (1 : Int)), (U.s bP)], [(U.i (1 : Int)), (U.i (1 : Int)), (U.s bCTC)]]))]), (EV.v (Value.int IntKind.i64 (0)))]) [] 0)))))))
  (bc (ByteArray.toList s == ByteArray.toList { data := #[(112 : UInt8), (105 : UInt8), (99 : UInt8), (111 : UInt8), (116 : UInt8)] })
    (bc (Int.ofNat (List.length l) != (1 : Int))
      (.done (EV.tup [(EV.v (Value.agg (Array.mk [(Value.int IntKind.i64 (0)), (Value.slice Option.none 0 0)]))), (EV.v (Value.int IntKind.i64 (2)))]) [] 0)
      (bc (ByteArray.toList s == ByteArray.toList { data := #[(112 : UInt8), (108 : UInt8), (97 : UInt8), (105 : UInt8), (116 : UInt8)] })
        (bc (bc (Nat.blt (Int.toNat (0 : Int)) (List.length l)) Bool.true Bool.false)
          (bc (bc (Nat.blt (Int.toNat (0 : Int)) (List.length l)) Bool.true Bool.false)
            (.done (EV.tup [(EV.agg [(EV.v (Value.int IntKind.i64 (plaitP (List.getD l (Int.toNat (0 : Int)) (0 : Int))))), (EV.lst (SyC.recs [(Sh.int IntKind.i64), (Sh.int IntKind.i64), Sh.str] (plaitL (List.getD l (Int.toNat (0 : Int)) (0 : Int)))))]), (EV.v (Value.int IntKind.i64 (plaitE (List.getD l (Int.toNat (0 : Int)) (0 : Int)))))]) [] 0)
            .bad)
          .bad)
        (bc (ByteArray.toList s == ByteArray.toList { data := #[(112 : UInt8), (105 : UInt8), (99 : UInt8), (111 : UInt8), (116 : UInt8)] })
          (bc (bc (Nat.blt (Int.toNat (0 : Int)) (List.length l)) Bool.true Bool.false)
            (bc (bc (Nat.blt (Int.toNat (0 : Int)) (List.length l)) Bool.true Bool.false)
              (.done (EV.tup [(EV.agg [(EV.v (Value.int IntKind.i64 (picP (List.getD l (Int.toNat (0 : Int)) (0 : Int))))), (EV.lst (SyC.recs [(Sh.int IntKind.i64), (Sh.int IntKind.i64), Sh.str] (picL (List.getD l (Int.toNat (0 : Int)) (0 : Int)))))]), (EV.v (Value.int IntKind.i64 (picE (List.getD l (Int.toNat (0 : Int)) (0 : Int)))))]) [] 0)
              .bad)
            .bad)
          (bc (ByteArray.toList s == ByteArray.toList { data := #[(115 : UInt8), (112 : UInt8), (105 : UInt8), (100 : UInt8), (101 : UInt8), (114 : UInt8)] })
            (bc (bc (bc (bc (Nat.blt (Int.toNat (0 : Int)) (List.length l)) Bool.true Bool.false) (bc (bc (Nat.blt (Int.toNat (0 : Int)) (List.length l)) Bool.true Bool.false) (bc (bc (Nat.blt (Int.toNat (1 : Int)) (List.length l)) Bool.true Bool.false) (bc (bc (Nat.blt (Int.toNat (1 : Int)) (List.length l)) Bool.true Bool.false) Bool.true Bool.false) Bool.false) Bool.false) Bool.false) Bool.true Bool.false)
              (.done (EV.tup [(EV.agg [(EV.v (Value.int IntKind.i64 (bc (spiOk (List.getD l (Int.toNat (0 : Int)) (0 : Int)) (List.getD l (Int.toNat (1 : Int)) (0 : Int))) ((2 : Int) * List.getD l (Int.toNat (0 : Int)) (0 : Int)) (0 : Int)))), (EV.lst (SyC.recs [(Sh.int IntKind.i64), (Sh.int IntKind.i64), Sh.str] (bc (spiOk (List.getD l (Int.toNat (0 : Int)) (0 : Int)) (List.getD l (Int.toNat (1 : Int)) (0 : Int))) (spiL (List.getD l (Int.toNat (0 : Int)) (0 : Int)) (tws (List.getD l (Int.toNat (0 : Int)) (0 : Int)) (List.getD l (Int.toNat (1 : Int)) (0 : Int)))) [])))]), (EV.v (Value.int IntKind.i64 (bc (spiOk (List.getD l (Int.toNat (0 : Int)) (0 : Int)) (List.getD l (Int.toNat (1 : Int)) (0 : Int))) (0 : Int) (7 : Int))))]) [] 0)
              .bad)
            (bc (ByteArray.toList s == ByteArray.toList { data := #[(102 : UInt8), (97 : UInt8), (110 : UInt8)] })
              (bc (bc (Nat.blt (Int.toNat (0 : Int)) (List.length l)) Bool.true Bool.false)
                (bc (bc (Nat.blt (Int.toNat (0 : Int)) (List.length l)) Bool.true Bool.false)
                  (.done (EV.tup [(EV.agg [(EV.v (Value.int IntKind.i64 (fanP (List.getD l (Int.toNat (0 : Int)) (0 : Int))))), (EV.lst (SyC.recs [(Sh.int IntKind.i64), (Sh.int IntKind.i64), Sh.str] (fanL (List.getD l (Int.toNat (0 : Int)) (0 : Int)))))]), (EV.v (Value.int IntKind.i64 (fanE (List.getD l (Int.toNat (0 : Int)) (0 : Int)))))]) [] 0)
                  .bad)
                .bad)
              (bc (ByteArray.toList s == ByteArray.toList { data := #[(102 : UInt8), (111 : UInt8), (111 : UInt8), (116 : UInt8), (115 : UInt8), (105 : UInt8), (100 : UInt8), (101 : UInt8)] })
                (bc (bc (bc (bc (Nat.blt (Int.toNat (0 : Int)) (List.length l)) Bool.true Bool.false) (bc (bc (Nat.blt (Int.toNat (0 : Int)) (List.length l)) Bool.true Bool.false) (bc (bc (Nat.blt (Int.toNat (1 : Int)) (List.length l)) Bool.true Bool.false) (bc (bc (Nat.blt (Int.toNat (1 : Int)) (List.length l)) Bool.true Bool.false) Bool.true Bool.false) Bool.false) Bool.false) Bool.false) Bool.true Bool.false)
                  (.done (EV.tup [(EV.agg [(EV.v (Value.int IntKind.i64 (footP (List.getD l (Int.toNat (0 : Int)) (0 : Int)) (List.getD l (Int.toNat (1 : Int)) (0 : Int))))), (EV.lst (SyC.recs [(Sh.int IntKind.i64), (Sh.int IntKind.i64), Sh.str] (footL (List.getD l (Int.toNat (0 : Int)) (0 : Int)) (List.getD l (Int.toNat (1 : Int)) (0 : Int)))))]), (EV.v (Value.int IntKind.i64 (footE (List.getD l (Int.toNat (0 : Int)) (0 : Int)) (List.getD l (Int.toNat (1 : Int)) (0 : Int)))))]) [] 0)
                  .bad)
                (.done (EV.tup [(EV.agg [(EV.v (Value.int IntKind.i64 (4))), (EV.lst (SyC.recs [(Sh.int IntKind.i64), (Sh.int IntKind.i64), Sh.str] [[(U.i (1 : Int)), (U.i (1 : Int)), (U.s bCTC)], [(U.i (1 : Int)), (U.i (0 : Int)), (U.s bCTC)], [(U.i (1 : Int)), (U.i (2 : Int)), (U.s bCTC)], [(U.i (1 : Int)), (U.i (1 : Int)), (U.s bP)], [(U.i (1 : Int)), (U.i (1 : Int)), (U.s bCTC)]]))]), (EV.v (Value.int IntKind.i64 (0)))]) [] 0)))))))
    (bc (ByteArray.toList s == ByteArray.toList { data := #[(102 : UInt8), (97 : UInt8), (110 : UInt8)] })
      (bc (Int.ofNat (List.length l) != (1 : Int))
        (.done (EV.tup [(EV.v (Value.agg (Array.mk [(Value.int IntKind.i64 (0)), (Value.slice Option.none 0 0)]))), (EV.v (Value.int IntKind.i64 (2)))]) [] 0)
        (bc (ByteArray.toList s == ByteArray.toList { data := #[(112 : UInt8), (108 : UInt8), (97 : UInt8), (105 : UInt8), (116 : UInt8)] })
          (bc (bc (Nat.blt (Int.toNat (0 : Int)) (List.length l)) Bool.true Bool.false)
            (bc (bc (Nat.blt (Int.toNat (0 : Int)) (List.length l)) Bool.true Bool.false)
              (.done (EV.tup [(EV.agg [(EV.v (Value.int IntKind.i64 (plaitP (List.getD l (Int.toNat (0 : Int)) (0 : Int))))), (EV.lst (SyC.recs [(Sh.int IntKind.i64), (Sh.int IntKind.i64), Sh.str] (plaitL (List.getD l (Int.toNat (0 : Int)) (0 : Int)))))]), (EV.v (Value.int IntKind.i64 (plaitE (List.getD l (Int.toNat (0 : Int)) (0 : Int)))))]) [] 0)
              .bad)
            .bad)
          (bc (ByteArray.toList s == ByteArray.toList { data := #[(112 : UInt8), (105 : UInt8), (99 : UInt8), (111 : UInt8), (116 : UInt8)] })
            (bc (bc (Nat.blt (Int.toNat (0 : Int)) (List.length l)) Bool.true Bool.false)
              (bc (bc (Nat.blt (Int.toNat (0 : Int)) (List.length l)) Bool.true Bool.false)
                (.done (EV.tup [(EV.agg [(EV.v (Value.int IntKind.i64 (picP (List.getD l (Int.toNat (0 : Int)) (0 : Int))))), (EV.lst (SyC.recs [(Sh.int IntKind.i64), (Sh.int IntKind.i64), Sh.str] (picL (List.getD l (Int.toNat (0 : Int)) (0 : Int)))))]), (EV.v (Value.int IntKind.i64 (picE (List.getD l (Int.toNat (0 : Int)) (0 : Int)))))]) [] 0)
                .bad)
              .bad)
            (bc (ByteArray.toList s == ByteArray.toList { data := #[(115 : UInt8), (112 : UInt8), (105 : UInt8), (100 : UInt8), (101 : UInt8), (114 : UInt8)] })
              (bc (bc (bc (bc (Nat.blt (Int.toNat (0 : Int)) (List.length l)) Bool.true Bool.false) (bc (bc (Nat.blt (Int.toNat (0 : Int)) (List.length l)) Bool.true Bool.false) (bc (bc (Nat.blt (Int.toNat (1 : Int)) (List.length l)) Bool.true Bool.false) (bc (bc (Nat.blt (Int.toNat (1 : Int)) (List.length l)) Bool.true Bool.false) Bool.true Bool.false) Bool.false) Bool.false) Bool.false) Bool.true Bool.false)
                (.done (EV.tup [(EV.agg [(EV.v (Value.int IntKind.i64 (bc (spiOk (List.getD l (Int.toNat (0 : Int)) (0 : Int)) (List.getD l (Int.toNat (1 : Int)) (0 : Int))) ((2 : Int) * List.getD l (Int.toNat (0 : Int)) (0 : Int)) (0 : Int)))), (EV.lst (SyC.recs [(Sh.int IntKind.i64), (Sh.int IntKind.i64), Sh.str] (bc (spiOk (List.getD l (Int.toNat (0 : Int)) (0 : Int)) (List.getD l (Int.toNat (1 : Int)) (0 : Int))) (spiL (List.getD l (Int.toNat (0 : Int)) (0 : Int)) (tws (List.getD l (Int.toNat (0 : Int)) (0 : Int)) (List.getD l (Int.toNat (1 : Int)) (0 : Int)))) [])))]), (EV.v (Value.int IntKind.i64 (bc (spiOk (List.getD l (Int.toNat (0 : Int)) (0 : Int)) (List.getD l (Int.toNat (1 : Int)) (0 : Int))) (0 : Int) (7 : Int))))]) [] 0)
                .bad)
              (bc (ByteArray.toList s == ByteArray.toList { data := #[(102 : UInt8), (97 : UInt8), (110 : UInt8)] })
                (bc (bc (Nat.blt (Int.toNat (0 : Int)) (List.length l)) Bool.true Bool.false)
                  (bc (bc (Nat.blt (Int.toNat (0 : Int)) (List.length l)) Bool.true Bool.false)
                    (.done (EV.tup [(EV.agg [(EV.v (Value.int IntKind.i64 (fanP (List.getD l (Int.toNat (0 : Int)) (0 : Int))))), (EV.lst (SyC.recs [(Sh.int IntKind.i64), (Sh.int IntKind.i64), Sh.str] (fanL (List.getD l (Int.toNat (0 : Int)) (0 : Int)))))]), (EV.v (Value.int IntKind.i64 (fanE (List.getD l (Int.toNat (0 : Int)) (0 : Int)))))]) [] 0)
                    .bad)
                  .bad)
                (bc (ByteArray.toList s == ByteArray.toList { data := #[(102 : UInt8), (111 : UInt8), (111 : UInt8), (116 : UInt8), (115 : UInt8), (105 : UInt8), (100 : UInt8), (101 : UInt8)] })
                  (bc (bc (bc (bc (Nat.blt (Int.toNat (0 : Int)) (List.length l)) Bool.true Bool.false) (bc (bc (Nat.blt (Int.toNat (0 : Int)) (List.length l)) Bool.true Bool.false) (bc (bc (Nat.blt (Int.toNat (1 : Int)) (List.length l)) Bool.true Bool.false) (bc (bc (Nat.blt (Int.toNat (1 : Int)) (List.length l)) Bool.true Bool.false) Bool.true Bool.false) Bool.false) Bool.false) Bool.false) Bool.true Bool.false)
                    (.done (EV.tup [(EV.agg [(EV.v (Value.int IntKind.i64 (footP (List.getD l (Int.toNat (0 : Int)) (0 : Int)) (List.getD l (Int.toNat (1 : Int)) (0 : Int))))), (EV.lst (SyC.recs [(Sh.int IntKind.i64), (Sh.int IntKind.i64), Sh.str] (footL (List.getD l (Int.toNat (0 : Int)) (0 : Int)) (List.getD l (Int.toNat (1 : Int)) (0 : Int)))))]), (EV.v (Value.int IntKind.i64 (footE (List.getD l (Int.toNat (0 : Int)) (0 : Int)) (List.getD l (Int.toNat (1 : Int)) (0 : Int)))))]) [] 0)
                    .bad)
                  (.done (EV.tup [(EV.agg [(EV.v (Value.int IntKind.i64 (4))), (EV.lst (SyC.recs [(Sh.int IntKind.i64), (Sh.int IntKind.i64), Sh.str] [[(U.i (1 : Int)), (U.i (1 : Int)), (U.s bCTC)], [(U.i (1 : Int)), (U.i (0 : Int)), (U.s bCTC)], [(U.i (1 : Int)), (U.i (2 : Int)), (U.s bCTC)], [(U.i (1 : Int)), (U.i (1 : Int)), (U.s bP)], [(U.i (1 : Int)), (U.i (1 : Int)), (U.s bCTC)]]))]), (EV.v (Value.int IntKind.i64 (0)))]) [] 0)))))))
      (bc (ByteArray.toList s == ByteArray.toList { data := #[(115 : UInt8), (112 : UInt8), (105 : UInt8), (100 : UInt8), (101 : UInt8), (114 : UInt8)] })
        (bc (Int.ofNat (List.length l) != (2 : Int))
          (.done (EV.tup [(EV.v (Value.agg (Array.mk [(Value.int IntKind.i64 (0)), (Value.slice Option.none 0 0)]))), (EV.v (Value.int IntKind.i64 (2)))]) [] 0)
          (bc (ByteArray.toList s == ByteArray.toList { data := #[(112 : UInt8), (108 : UInt8), (97 : UInt8), (105 : UInt8), (116 : UInt8)] })
            (bc (bc (Nat.blt (Int.toNat (0 : Int)) (List.length l)) Bool.true Bool.false)
              (bc (bc (Nat.blt (Int.toNat (0 : Int)) (List.length l)) Bool.true Bool.false)
                (.done (EV.tup [(EV.agg [(EV.v (Value.int IntKind.i64 (plaitP (List.getD l (Int.toNat (0 : Int)) (0 : Int))))), (EV.lst (SyC.recs [(Sh.int IntKind.i64), (Sh.int IntKind.i64), Sh.str] (plaitL (List.getD l (Int.toNat (0 : Int)) (0 : Int)))))]), (EV.v (Value.int IntKind.i64 (plaitE (List.getD l (Int.toNat (0 : Int)) (0 : Int)))))]) [] 0)
                .bad)
              .bad)
            (bc (ByteArray.toList s == ByteArray.toList { data := #[(112 : UInt8), (105 : UInt8), (99 : UInt8), (111 : UInt8), (116 : UInt8)] })
              (bc (bc (Nat.blt (Int.toNat (0 : Int)) (List.length l)) Bool.true Bool.false)
                (bc (bc (Nat.blt (Int.toNat (0 : Int)) (List.length l)) Bool.true Bool.false)
                  (.done (EV.tup [(EV.agg [(EV.v (Value.int IntKind.i64 (picP (List.getD l (Int.toNat (0 : Int)) (0 : Int))))), (EV.lst (SyC.recs [(Sh.int IntKind.i64), (Sh.int IntKind.i64), Sh.str] (picL (List.getD l (Int.toNat (0 : Int)) (0 : Int)))))]), (EV.v (Value.int IntKind.i64 (picE (List.getD l (Int.toNat (0 : Int)) (0 : Int)))))]) [] 0)
                  .bad)
                .bad)
              (bc (ByteArray.toList s == ByteArray.toList { data := #[(115 : UInt8), (112 : UInt8), (105 : UInt8), (100 : UInt8), (101 : UInt8), (114 : UInt8)] })
                (bc (bc (bc (bc (Nat.blt (Int.toNat (0 : Int)) (List.length l)) Bool.true Bool.false) (bc (bc (Nat.blt (Int.toNat (0 : Int)) (List.length l)) Bool.true Bool.false) (bc (bc (Nat.blt (Int.toNat (1 : Int)) (List.length l)) Bool.true Bool.false) (bc (bc (Nat.blt (Int.toNat (1 : Int)) (List.length l)) Bool.true Bool.false) Bool.true Bool.false) Bool.false) Bool.false) Bool.false) Bool.true Bool.false)
                  (.done (EV.tup [(EV.agg [(EV.v (Value.int IntKind.i64 (bc (spiOk (List.getD l (Int.toNat (0 : Int)) (0 : Int)) (List.getD l (Int.toNat (1 : Int)) (0 : Int))) ((2 : Int) * List.getD l (Int.toNat (0 : Int)) (0 : Int)) (0 : Int)))), (EV.lst (SyC.recs [(Sh.int IntKind.i64), (Sh.int IntKind.i64), Sh.str] (bc (spiOk (List.getD l (Int.toNat (0 : Int)) (0 : Int)) (List.getD l (Int.toNat (1 : Int)) (0 : Int))) (spiL (List.getD l (Int.toNat (0 : Int)) (0 : Int)) (tws (List.getD l (Int.toNat (0 : Int)) (0 : Int)) (List.getD l (Int.toNat (1 : Int)) (0 : Int)))) [])))]), (EV.v (Value.int IntKind.i64 (bc (spiOk (List.getD l (Int.toNat (0 : Int)) (0 : Int)) (List.getD l (Int.toNat (1 : Int)) (0 : Int))) (0 : Int) (7 : Int))))]) [] 0)
                  .bad)
                (bc (ByteArray.toList s == ByteArray.toList { data := #[(102 : UInt8), (97 : UInt8), (110 : UInt8)] })
                  (bc (bc (Nat.blt (Int.toNat (0 : Int)) (List.length l)) Bool.true Bool.false)
                    (bc (bc (Nat.blt (Int.toNat (0 : Int)) (List.length l)) Bool.true Bool.false)
                      (.done (EV.tup [(EV.agg [(EV.v (Value.int IntKind.i64 (fanP (List.getD l (Int.toNat (0 : Int)) (0 : Int))))), (EV.lst (SyC.recs [(Sh.int IntKind.i64), (Sh.int IntKind.i64), Sh.str] (fanL (List.getD l (Int.toNat (0 : Int)) (0 : Int)))))]), (EV.v (Value.int IntKind.i64 (fanE (List.getD l (Int.toNat (0 : Int)) (0 : Int)))))]) [] 0)
                      .bad)
                    .bad)
                  (bc (ByteArray.toList s == ByteArray.toList { data := #[(102 : UInt8), (111 : UInt8), (111 : UInt8), (116 : UInt8), (115 : UInt8), (105 : UInt8), (100 : UInt8), (101 : UInt8)] })
                    (bc (bc (bc (bc (Nat.blt (Int.toNat (0 : Int)) (List.length l)) Bool.true Bool.false) (bc (bc (Nat.blt (Int.toNat (0 : Int)) (List.length l)) Bool.true Bool.false) (bc (bc (Nat.blt (Int.toNat (1 : Int)) (List.length l)) Bool.true Bool.false) (bc (bc (Nat.blt (Int.toNat (1 : Int)) (List.length l)) Bool.true Bool.false) Bool.true Bool.false) Bool.false) Bool.false) Bool.false) Bool.true Bool.false)
                      (.done (EV.tup [(EV.agg [(EV.v (Value.int IntKind.i64 (footP (List.getD l (Int.toNat (0 : Int)) (0 : Int)) (List.getD l (Int.toNat (1 : Int)) (0 : Int))))), (EV.lst (SyC.recs [(Sh.int IntKind.i64), (Sh.int IntKind.i64), Sh.str] (footL (List.getD l (Int.toNat (0 : Int)) (0 : Int)) (List.getD l (Int.toNat (1 : Int)) (0 : Int)))))]), (EV.v (Value.int IntKind.i64 (footE (List.getD l (Int.toNat (0 : Int)) (0 : Int)) (List.getD l (Int.toNat (1 : Int)) (0 : Int)))))]) [] 0)
                      .bad)
                    (.done (EV.tup [(EV.agg [(EV.v (Value.int IntKind.i64 (4))), (EV.lst (SyC.recs [(Sh.int IntKind.i64), (Sh.int IntKind.i64), Sh.str] [[(U.i (1 : Int)), (U.i (1 : Int)), (U.s bCTC)], [(U.i (1 : Int)), (U.i (0 : Int)), (U.s bCTC)], [(U.i (1 : Int)), (U.i (2 : Int)), (U.s bCTC)], [(U.i (1 : Int)), (U.i (1 : Int)), (U.s bP)], [(U.i (1 : Int)), (U.i (1 : Int)), (U.s bCTC)]]))]), (EV.v (Value.int IntKind.i64 (0)))]) [] 0)))))))
        (bc (ByteArray.toList s == ByteArray.toList { data := #[(102 : UInt8), (111 : UInt8), (111 : UInt8), (116 : UInt8), (115 : UInt8), (105 : UInt8), (100 : UInt8), (101 : UInt8)] })
          (bc (Int.ofNat (List.length l) != (2 : Int))
            (.done (EV.tup [(EV.v (Value.agg (Array.mk [(Value.int IntKind.i64 (0)), (Value.slice Option.none 0 0)]))), (EV.v (Value.int IntKind.i64 (2)))]) [] 0)
            (bc (ByteArray.toList s == ByteArray.toList { data := #[(112 : UInt8), (108 : UInt8), (97 : UInt8), (105 : UInt8), (116 : UInt8)] })
              (bc (bc (Nat.blt (Int.toNat (0 : Int)) (List.length l)) Bool.true Bool.false)
                (bc (bc (Nat.blt (Int.toNat (0 : Int)) (List.length l)) Bool.true Bool.false)
                  (.done (EV.tup [(EV.agg [(EV.v (Value.int IntKind.i64 (plaitP (List.getD l (Int.toNat (0 : Int)) (0 : Int))))), (EV.lst (SyC.recs [(Sh.int IntKind.i64), (Sh.int IntKind.i64), Sh.str] (plaitL (List.getD l (Int.toNat (0 : Int)) (0 : Int)))))]), (EV.v (Value.int IntKind.i64 (plaitE (List.getD l (Int.toNat (0 : Int)) (0 : Int)))))]) [] 0)
                  .bad)
                .bad)
              (bc (ByteArray.toList s == ByteArray.toList { data := #[(112 : UInt8), (105 : UInt8), (99 : UInt8), (111 : UInt8), (116 : UInt8)] })
                (bc (bc (Nat.blt (Int.toNat (0 : Int)) (List.length l)) Bool.true Bool.false)
                  (bc (bc (Nat.blt (Int.toNat (0 : Int)) (List.length l)) Bool.true Bool.false)
                    (.done (EV.tup [(EV.agg [(EV.v (Value.int IntKind.i64 (picP (List.getD l (Int.toNat (0 : Int)) (0 : Int))))), (EV.lst (SyC.recs [(Sh.int IntKind.i64), (Sh.int IntKind.i64), Sh.str] (picL (List.getD l (Int.toNat (0 : Int)) (0 : Int)))))]), (EV.v (Value.int IntKind.i64 (picE (List.getD l (Int.toNat (0 : Int)) (0 : Int)))))]) [] 0)
                    .bad)
                  .bad)
                (bc (ByteArray.toList s == ByteArray.toList { data := #[(115 : UInt8), (112 : UInt8), (105 : UInt8), (100 : UInt8), (101 : UInt8), (114 : UInt8)] })
                  (bc (bc (bc (bc (Nat.blt (Int.toNat (0 : Int)) (List.length l)) Bool.true Bool.false) (bc (bc (Nat.blt (Int.toNat (0 : Int)) (List.length l)) Bool.true Bool.false) (bc (bc (Nat.blt (Int.toNat (1 : Int)) (List.length l)) Bool.true Bool.false) (bc (bc (Nat.blt (Int.toNat (1 : Int)) (List.length l)) Bool.true Bool.false) Bool.true Bool.false) Bool.false) Bool.false) Bool.false) Bool.true Bool.false)
                    (.done (EV.tup [(EV.agg [(EV.v (Value.int IntKind.i64 (bc (spiOk (List.getD l (Int.toNat (0 : Int)) (0 : Int)) (List.getD l (Int.toNat (1 : Int)) (0 : Int))) ((2 : Int) * List.getD l (Int.toNat (0 : Int)) (0 : Int)) (0 : Int)))), (EV.lst (SyC.recs [(Sh.int IntKind.i64), (Sh.int IntKind.i64), Sh.str] (bc (spiOk (List.getD l (Int.toNat (0 : Int)) (0 : Int)) (List.getD l (Int.toNat (1 : Int)) (0 : Int))) (spiL (List.getD l (Int.toNat (0 : Int)) (0 : Int)) (tws (List.getD l (Int.toNat (0 : Int)) (0 : Int)) (List.getD l (Int.toNat (1 : Int)) (0 : Int)))) [])))]), (EV.v (Value.int IntKind.i64 (bc (spiOk (List.getD l (Int.toNat (0 : Int)) (0 : Int)) (List.getD l (Int.toNat (1 : Int)) (0 : Int))) (0 : Int) (7 : Int))))]) [] 0)
                    .bad)
                  (bc (ByteArray.toList s == ByteArray.toList { data := #[(102 : UInt8), (97 : UInt8), (110 : UInt8)] })
                    (bc (bc (Nat.blt (Int.toNat (0 : Int)) (List.length l)) Bool.true Bool.false)
                      (bc (bc (Nat.blt (Int.toNat (0 : Int)) (List.length l)) Bool.true Bool.false)
                        (.done (EV.tup [(EV.agg [(EV.v (Value.int IntKind.i64 (fanP (List.getD l (Int.toNat (0 : Int)) (0 : Int))))), (EV.lst (SyC.recs [(Sh.int IntKind.i64), (Sh.int IntKind.i64), Sh.str] (fanL (List.getD l (Int.toNat (0 : Int)) (0 : Int)))))]), (EV.v (Value.int IntKind.i64 (fanE (List.getD l (Int.toNat (0 : Int)) (0 : Int)))))]) [] 0)
                        .bad)
                      .bad)
                    (bc (ByteArray.toList s == ByteArray.toList { data := #[(102 : UInt8), (111 : UInt8), (111 : UInt8), (116 : UInt8), (115 : UInt8), (105 : UInt8), (100 : UInt8), (101 : UInt8)] })
                      (bc (bc (bc (bc (Nat.blt (Int.toNat (0 : Int)) (List.length l)) Bool.true Bool.false) (bc (bc (Nat.blt (Int.toNat (0 : Int)) (List.length l)) Bool.true Bool.false) (bc (bc (Nat.blt (Int.toNat (1 : Int)) (List.length l)) Bool.true Bool.false) (bc (bc (Nat.blt (Int.toNat (1 : Int)) (List.length l)) Bool.true Bool.false) Bool.true Bool.false) Bool.false) Bool.false) Bool.false) Bool.true Bool.false)
                        (.done (EV.tup [(EV.agg [(EV.v (Value.int IntKind.i64 (footP (List.getD l (Int.toNat (0 : Int)) (0 : Int)) (List.getD l (Int.toNat (1 : Int)) (0 : Int))))), (EV.lst (SyC.recs [(Sh.int IntKind.i64), (Sh.int IntKind.i64), Sh.str] (footL (List.getD l (Int.toNat (0 : Int)) (0 : Int)) (List.getD l (Int.toNat (1 : Int)) (0 : Int)))))]), (EV.v (Value.int IntKind.i64 (footE (List.getD l (Int.toNat (0 : Int)) (0 : Int)) (List.getD l (Int.toNat (1 : Int)) (0 : Int)))))]) [] 0)
                        .bad)
                      (.done (EV.tup [(EV.agg [(EV.v (Value.int IntKind.i64 (4))), (EV.lst (SyC.recs [(Sh.int IntKind.i64), (Sh.int IntKind.i64), Sh.str] [[(U.i (1 : Int)), (U.i (1 : Int)), (U.s bCTC)], [(U.i (1 : Int)), (U.i (0 : Int)), (U.s bCTC)], [(U.i (1 : Int)), (U.i (2 : Int)), (U.s bCTC)], [(U.i (1 : Int)), (U.i (1 : Int)), (U.s bP)], [(U.i (1 : Int)), (U.i (1 : Int)), (U.s bCTC)]]))]), (EV.v (Value.int IntKind.i64 (0)))]) [] 0)))))))
          (bc (ByteArray.toList s == ByteArray.toList { data := #[(119 : UInt8), (105 : UInt8), (110 : UInt8), (100 : UInt8), (109 : UInt8), (105 : UInt8), (108 : UInt8), (108 : UInt8)] })
            (bc (Int.ofNat (List.length l) != (0 : Int))
              (.done (EV.tup [(EV.v (Value.agg (Array.mk [(Value.int IntKind.i64 (0)), (Value.slice Option.none 0 0)]))), (EV.v (Value.int IntKind.i64 (2)))]) [] 0)
              (bc (ByteArray.toList s == ByteArray.toList { data := #[(112 : UInt8), (108 : UInt8), (97 : UInt8), (105 : UInt8), (116 : UInt8)] })
                (bc (bc (Nat.blt (Int.toNat (0 : Int)) (List.length l)) Bool.true Bool.false)
                  (bc (bc (Nat.blt (Int.toNat (0 : Int)) (List.length l)) Bool.true Bool.false)
                    (.done (EV.tup [(EV.agg [(EV.v (Value.int IntKind.i64 (plaitP (List.getD l (Int.toNat (0 : Int)) (0 : Int))))), (EV.lst (SyC.recs [(Sh.int IntKind.i64), (Sh.int IntKind.i64), Sh.str] (plaitL (List.getD l (Int.toNat (0 : Int)) (0 : Int)))))]), (EV.v (Value.int IntKind.i64 (plaitE (List.getD l (Int.toNat (0 : Int)) (0 : Int)))))]) [] 0)
                    .bad)
                  .bad)
                (bc (ByteArray.toList s == ByteArray.toList { data := #[(112 : UInt8), (105 : UInt8), (99 : UInt8), (111 : UInt8), (116 : UInt8)] })
                  (bc (bc (Nat.blt (Int.toNat (0 : Int)) (List.length l)) Bool.true Bool.false)
                    (bc (bc (Nat.blt (Int.toNat (0 : Int)) (List.length l)) Bool.true Bool.false)
                      (.done (EV.tup [(EV.agg [(EV.v (Value.int IntKind.i64 (picP (List.getD l (Int.toNat (0 : Int)) (0 : Int))))), (EV.lst (SyC.recs [(Sh.int IntKind.i64), (Sh.int IntKind.i64), Sh.str] (picL (List.getD l (Int.toNat (0 : Int)) (0 : Int)))))]), (EV.v (Value.int IntKind.i64 (picE (List.getD l (Int.toNat (0 : Int)) (0 : Int)))))]) [] 0)
                      .bad)
                    .bad)
                  (bc (ByteArray.toList s == ByteArray.toList { data := #[(115 : UInt8), (112 : UInt8), (105 : UInt8), (100 : UInt8), (101 : UInt8), (114 : UInt8)] })
                    (bc (bc (bc (bc (Nat.blt (Int.toNat (0 : Int)) (List.length l)) Bool.true Bool.false) (bc (bc (Nat.blt (Int.toNat (0 : Int)) (List.length l)) Bool.true Bool.false) (bc (bc (Nat.blt (Int.toNat (1 : Int)) (List.length l)) Bool.true Bool.false) (bc (bc (Nat.blt (Int.toNat (1 : Int)) (List.length l)) Bool.true Bool.false) Bool.true Bool.false) Bool.false) Bool.false) Bool.false) Bool.true Bool.false)
                      (.done (EV.tup [(EV.agg [(EV.v (Value.int IntKind.i64 (bc (spiOk (List.getD l (Int.toNat (0 : Int)) (0 : Int)) (List.getD l (Int.toNat (1 : Int)) (0 : Int))) ((2 : Int) * List.getD l (Int.toNat (0 : Int)) (0 : Int)) (0 : Int)))), (EV.lst (SyC.recs [(Sh.int IntKind.i64), (Sh.int IntKind.i64), Sh.str] (bc (spiOk (List.getD l (Int.toNat (0 : Int)) (0 : Int)) (List.getD l (Int.toNat (1 : Int)) (0 : Int))) (spiL (List.getD l (Int.toNat (0 : Int)) (0 : Int)) (tws (List.getD l (Int.toNat (0 : Int)) (0 : Int)) (List.getD l (Int.toNat (1 : Int)) (0 : Int)))) [])))]), (EV.v (Value.int IntKind.i64 (bc (spiOk (List.getD l (Int.toNat (0 : Int)) (0 : Int)) (List.getD l (Int.toNat (1 : Int)) (0 : Int))) (0 : Int) (7 : Int))))]) [] 0)
                      .bad)
                    (bc (ByteArray.toList s == ByteArray.toList { data := #[(102 : UInt8), (97 : UInt8), (110 : UInt8)] })
                      (bc (bc (Nat.blt (Int.toNat (0 : Int)) (List.length l)) Bool.true Bool.false)
                        (bc (bc (Nat.blt (Int.toNat (0 : Int)) (List.length l)) Bool.true Bool.false)
                          (.done (EV.tup [(EV.agg [(EV.v (Value.int IntKind.i64 (fanP (List.getD l (Int.toNat (0 : Int)) (0 : Int))))), (EV.lst (SyC.recs [(Sh.int IntKind.i64), (Sh.int IntKind.i64), Sh.str] (fanL (List.getD l (Int.toNat (0 : Int)) (0 : Int)))))]), (EV.v (Value.int IntKind.i64 (fanE (List.getD l (Int.toNat (0 : Int)) (0 : Int)))))]) [] 0)
                          .bad)
                        .bad)
                      (bc (ByteArray.toList s == ByteArray.toList { data := #[(102 : UInt8), (111 : UInt8), (111 : UInt8), (116 : UInt8), (115 : UInt8), (105 : UInt8), (100 : UInt8), (101 : UInt8)] })
                        (bc (bc (bc (bc (Nat.blt (Int.toNat (0 : Int)) (List.length l)) Bool.true Bool.false) (bc (bc (Nat.blt (Int.toNat (0 : Int)) (List.length l)) Bool.true Bool.false) (bc (bc (Nat.blt (Int.toNat (1 : Int)) (List.length l)) Bool.true Bool.false) (bc (bc (Nat.blt (Int.toNat (1 : Int)) (List.length l)) Bool.true Bool.false) Bool.true Bool.false) Bool.false) Bool.false) Bool.false) Bool.true Bool.false)
                          (.done (EV.tup [(EV.agg [(EV.v (Value.int IntKind.i64 (footP (List.getD l (Int.toNat (0 : Int)) (0 : Int)) (List.getD l (Int.toNat (1 : Int)) (0 : Int))))), (EV.lst (SyC.recs [(Sh.int IntKind.i64), (Sh.int IntKind.i64), Sh.str] (footL (List.getD l (Int.toNat (0 : Int)) (0 : Int)) (List.getD l (Int.toNat (1 : Int)) (0 : Int)))))]), (EV.v (Value.int IntKind.i64 (footE (List.getD l (Int.toNat (0 : Int)) (0 : Int)) (List.getD l (Int.toNat (1 : Int)) (0 : Int)))))]) [] 0)
                          .bad)
                        (.done (EV.tup [(EV.agg [(EV.v (Value.int IntKind.i64 (4))), (EV.lst (SyC.recs [(Sh.int IntKind.i64), (Sh.int IntKind.i64), Sh.str] [[(U.i (1 : Int)), (U.i (1 : Int)), (U.s bCTC)], [(U.i (1 : Int)), (U.i (0 : Int)), (U.s bCTC)], [(U.i (1 : Int)), (U.i (2 : Int)), (U.s bCTC)], [(U.i (1 : Int)), (U.i (1 : Int)), (U.s bP)], [(U.i (1 : Int)), (U.i (1 : Int)), (U.s bCTC)]]))]), (EV.v (Value.int IntKind.i64 (0)))]) [] 0)))))))
            (.done (EV.tup [(EV.v (Value.agg (Array.mk [(Value.int IntKind.i64 (0)), (Value.slice Option.none 0 0)]))), (EV.v (Value.int IntKind.i64 (4)))]) [] 0))))))) := by kernel_rfl
theorem lne {l : List Int} {k : Nat} (h : l.length ≠ k) : (Int.ofNat l.length != (k : Int)) = true := by simp; omega
theorem leq {l : List Int} {k : Nat} (h : l.length = k) : (Int.ofNat l.length != (k : Int)) = false := by simp [h]
theorem done {f : FuncId} {s : ES} {p p' : Int} {q q' : List (List U)} {e e' : Int} {ps : PLs} {lk : List Nat} (h : RZs f ctL ps lk false s = .done (shE p q e) [] 0) (hp : p = p') (hq : q = q') (he : e = e') : EndZ f ctL false s (shE p' q' e') [] 0 := by
  subst hp; subst hq; subst he; exact .done h
theorem doneN {f : FuncId} {s : ES} {p' : Int} {q' : List (List U)} {e e' : Int} {ps : PLs} {lk : List Nat} (h : RZs f ctL ps lk false s = .done (shN e) [] 0) (hp : 0 = p') (hq : [] = q') (he : e = e') : EndZ f ctL false s (shE p' q' e') [] 0 := by
  subst hp; subst hq; subst he; exact (EndZ.done h).weak (shN_weak e)
theorem endsP (s : ByteArray) (l : List Int) : EndZ 26 ctL false (st0 26 [sv s, il l]) (shE (mkP s l) (mkL s l) (mkE s l)) [] 0 := by
  have h := p_t s l
  have n1 := fun g => @lne l 1 g
  have n2 := fun g => @lne l 2 g
  have n0 := fun g => @lne l 0 g
  have m1 := fun g => @leq l 1 g
  have m2 := fun g => @leq l 2 g
  have m0 := fun g => @leq l 0 g
  unfold mkP mkL mkE mk6 nl
  cases h1 : (s == bPlait)
  case true =>
    rw [h1] at h
    by_cases g : l.length = 1
    · have m := m1 g
      rw [show ((1 : Nat) : Int) = 1 from rfl] at m
      rw [m] at h ⊢
      simp (disch := omega) only [Nat.add_eq, eqSy_self, eqN_self, bc_same, List.length_cons, ofn, wrap_in, dt, df, bltD, bltN, ble_of, bleN, beqD, bc_t, bc_f, nn_ok, Nat.zero_add, to_nat, Int.zero_add, Int.sub_zero, Int.sub_self, Int.cast_ofNat_Int, Int.natCast_zero, Int.toNat_zero, List.take_zero, List.nil_append, List.length_append, List.length_nil, Int.toNat_zero, Int.toNat_one] at h
      exact done h rfl rfl rfl
    · have m := n1 g
      rw [show ((1 : Nat) : Int) = 1 from rfl] at m
      rw [m] at h ⊢
      exact doneN h rfl rfl rfl
  cases h2 : (s == bPicot)
  case true =>
    rw [h1, h2] at h
    by_cases g : l.length = 1
    · have m := m1 g
      rw [show ((1 : Nat) : Int) = 1 from rfl] at m
      rw [m] at h ⊢
      simp (disch := omega) only [Nat.add_eq, eqSy_self, eqN_self, bc_same, List.length_cons, ofn, wrap_in, dt, df, bltD, bltN, ble_of, bleN, beqD, bc_t, bc_f, nn_ok, Nat.zero_add, to_nat, Int.zero_add, Int.sub_zero, Int.sub_self, Int.cast_ofNat_Int, Int.natCast_zero, Int.toNat_zero, List.take_zero, List.nil_append, List.length_append, List.length_nil, Int.toNat_zero, Int.toNat_one] at h
      exact done h rfl rfl rfl
    · have m := n1 g
      rw [show ((1 : Nat) : Int) = 1 from rfl] at m
      rw [m] at h ⊢
      exact doneN h rfl rfl rfl
  cases h3 : (s == bSpider)
  case true =>
    have h4 : (s == bFan) = false := by
      have e := (Go.MapKept.bytes_beq _ _).1 h3
      subst e
      decide
    simp only [h1, h2, h3, h4] at h
    by_cases g : l.length = 2
    · have m := m2 g
      rw [show ((2 : Nat) : Int) = 2 from rfl] at m
      rw [m] at h ⊢
      simp (disch := omega) only [Nat.add_eq, eqSy_self, eqN_self, bc_same, List.length_cons, ofn, wrap_in, dt, df, bltD, bltN, ble_of, bleN, beqD, bc_t, bc_f, nn_ok, Nat.zero_add, to_nat, Int.zero_add, Int.sub_zero, Int.sub_self, Int.cast_ofNat_Int, Int.natCast_zero, Int.toNat_zero, List.take_zero, List.nil_append, List.length_append, List.length_nil, Int.toNat_zero, Int.toNat_one] at h
      exact done h rfl rfl rfl
    · have m := n2 g
      rw [show ((2 : Nat) : Int) = 2 from rfl] at m
      rw [m] at h ⊢
      exact doneN h rfl rfl rfl
  cases h4 : (s == bFan)
  case true =>
    simp only [h1, h2, h3, h4] at h
    by_cases g : l.length = 1
    · have m := m1 g
      rw [show ((1 : Nat) : Int) = 1 from rfl] at m
      rw [m] at h ⊢
      simp (disch := omega) only [Nat.add_eq, eqSy_self, eqN_self, bc_same, List.length_cons, ofn, wrap_in, dt, df, bltD, bltN, ble_of, bleN, beqD, bc_t, bc_f, nn_ok, Nat.zero_add, to_nat, Int.zero_add, Int.sub_zero, Int.sub_self, Int.cast_ofNat_Int, Int.natCast_zero, Int.toNat_zero, List.take_zero, List.nil_append, List.length_append, List.length_nil, Int.toNat_zero, Int.toNat_one] at h
      exact done h rfl rfl rfl
    · have m := n1 g
      rw [show ((1 : Nat) : Int) = 1 from rfl] at m
      rw [m] at h ⊢
      exact doneN h rfl rfl rfl
  cases h5 : (s == bFoot)
  case true =>
    simp only [h1, h2, h3, h4, h5] at h
    by_cases g : l.length = 2
    · have m := m2 g
      rw [show ((2 : Nat) : Int) = 2 from rfl] at m
      rw [m] at h ⊢
      simp (disch := omega) only [Nat.add_eq, eqSy_self, eqN_self, bc_same, List.length_cons, ofn, wrap_in, dt, df, bltD, bltN, ble_of, bleN, beqD, bc_t, bc_f, nn_ok, Nat.zero_add, to_nat, Int.zero_add, Int.sub_zero, Int.sub_self, Int.cast_ofNat_Int, Int.natCast_zero, Int.toNat_zero, List.take_zero, List.nil_append, List.length_append, List.length_nil, Int.toNat_zero, Int.toNat_one] at h
      exact done h rfl rfl rfl
    · have m := n2 g
      rw [show ((2 : Nat) : Int) = 2 from rfl] at m
      rw [m] at h ⊢
      exact doneN h rfl rfl rfl
  cases h6 : (s == bWind)
  case true =>
    simp only [h1, h2, h3, h4, h5, h6] at h
    by_cases g : l.length = 0
    · have m := m0 g
      rw [show ((0 : Nat) : Int) = 0 from rfl] at m
      rw [m] at h ⊢
      simp (disch := omega) only [Nat.add_eq, eqSy_self, eqN_self, bc_same, List.length_cons, ofn, wrap_in, dt, df, bltD, bltN, ble_of, bleN, beqD, bc_t, bc_f, nn_ok, Nat.zero_add, to_nat, Int.zero_add, Int.sub_zero, Int.sub_self, Int.cast_ofNat_Int, Int.natCast_zero, Int.toNat_zero, List.take_zero, List.nil_append, List.length_append, List.length_nil, Int.toNat_zero, Int.toNat_one] at h
      exact done h rfl rfl rfl
    · have m := n0 g
      rw [show ((0 : Nat) : Int) = 0 from rfl] at m
      rw [m] at h ⊢
      exact doneN h rfl rfl rfl
  simp only [h1, h2, h3, h4, h5, h6] at h
  exact doneN h rfl rfl rfl
theorem endsR (s : ByteArray) (l : List Int) : EndZ 31 ctL false (st0 31 [sv s, il l]) (shE (mkP s l) (mkL s l) (mkE s l)) [] 0 := by
  have h := r_t s l
  simp only [strB] at h
  have n1 := fun g => @lne l 1 g
  have n2 := fun g => @lne l 2 g
  have n0 := fun g => @lne l 0 g
  have m1 := fun g => @leq l 1 g
  have m2 := fun g => @leq l 2 g
  have m0 := fun g => @leq l 0 g
  unfold mkP mkL mkE mk6 nl
  cases h1 : (s == bPlait)
  case true =>
    rw [h1] at h
    by_cases g : l.length = 1
    · have m := m1 g
      rw [show ((1 : Nat) : Int) = 1 from rfl] at m
      rw [m] at h ⊢
      simp (disch := omega) only [Nat.add_eq, eqSy_self, eqN_self, bc_same, List.length_cons, ofn, wrap_in, dt, df, bltD, bltN, ble_of, bleN, beqD, bc_t, bc_f, nn_ok, Nat.zero_add, to_nat, Int.zero_add, Int.sub_zero, Int.sub_self, Int.cast_ofNat_Int, Int.natCast_zero, Int.toNat_zero, List.take_zero, List.nil_append, List.length_append, List.length_nil, Int.toNat_zero, Int.toNat_one] at h
      exact done h rfl rfl rfl
    · have m := n1 g
      rw [show ((1 : Nat) : Int) = 1 from rfl] at m
      rw [m] at h ⊢
      exact doneN h rfl rfl rfl
  cases h2 : (s == bPicot)
  case true =>
    rw [h1, h2] at h
    by_cases g : l.length = 1
    · have m := m1 g
      rw [show ((1 : Nat) : Int) = 1 from rfl] at m
      rw [m] at h ⊢
      simp (disch := omega) only [Nat.add_eq, eqSy_self, eqN_self, bc_same, List.length_cons, ofn, wrap_in, dt, df, bltD, bltN, ble_of, bleN, beqD, bc_t, bc_f, nn_ok, Nat.zero_add, to_nat, Int.zero_add, Int.sub_zero, Int.sub_self, Int.cast_ofNat_Int, Int.natCast_zero, Int.toNat_zero, List.take_zero, List.nil_append, List.length_append, List.length_nil, Int.toNat_zero, Int.toNat_one] at h
      exact done h rfl rfl rfl
    · have m := n1 g
      rw [show ((1 : Nat) : Int) = 1 from rfl] at m
      rw [m] at h ⊢
      exact doneN h rfl rfl rfl
  cases h3 : (s == bSpider)
  case true =>
    have h4 : (s == bFan) = false := by
      have e := (Go.MapKept.bytes_beq _ _).1 h3
      subst e
      decide
    simp only [h1, h2, h3, h4] at h
    by_cases g : l.length = 2
    · have m := m2 g
      rw [show ((2 : Nat) : Int) = 2 from rfl] at m
      rw [m] at h ⊢
      simp (disch := omega) only [Nat.add_eq, eqSy_self, eqN_self, bc_same, List.length_cons, ofn, wrap_in, dt, df, bltD, bltN, ble_of, bleN, beqD, bc_t, bc_f, nn_ok, Nat.zero_add, to_nat, Int.zero_add, Int.sub_zero, Int.sub_self, Int.cast_ofNat_Int, Int.natCast_zero, Int.toNat_zero, List.take_zero, List.nil_append, List.length_append, List.length_nil, Int.toNat_zero, Int.toNat_one] at h
      exact done h rfl rfl rfl
    · have m := n2 g
      rw [show ((2 : Nat) : Int) = 2 from rfl] at m
      rw [m] at h ⊢
      exact doneN h rfl rfl rfl
  cases h4 : (s == bFan)
  case true =>
    simp only [h1, h2, h3, h4] at h
    by_cases g : l.length = 1
    · have m := m1 g
      rw [show ((1 : Nat) : Int) = 1 from rfl] at m
      rw [m] at h ⊢
      simp (disch := omega) only [Nat.add_eq, eqSy_self, eqN_self, bc_same, List.length_cons, ofn, wrap_in, dt, df, bltD, bltN, ble_of, bleN, beqD, bc_t, bc_f, nn_ok, Nat.zero_add, to_nat, Int.zero_add, Int.sub_zero, Int.sub_self, Int.cast_ofNat_Int, Int.natCast_zero, Int.toNat_zero, List.take_zero, List.nil_append, List.length_append, List.length_nil, Int.toNat_zero, Int.toNat_one] at h
      exact done h rfl rfl rfl
    · have m := n1 g
      rw [show ((1 : Nat) : Int) = 1 from rfl] at m
      rw [m] at h ⊢
      exact doneN h rfl rfl rfl
  cases h5 : (s == bFoot)
  case true =>
    simp only [h1, h2, h3, h4, h5] at h
    by_cases g : l.length = 2
    · have m := m2 g
      rw [show ((2 : Nat) : Int) = 2 from rfl] at m
      rw [m] at h ⊢
      simp (disch := omega) only [Nat.add_eq, eqSy_self, eqN_self, bc_same, List.length_cons, ofn, wrap_in, dt, df, bltD, bltN, ble_of, bleN, beqD, bc_t, bc_f, nn_ok, Nat.zero_add, to_nat, Int.zero_add, Int.sub_zero, Int.sub_self, Int.cast_ofNat_Int, Int.natCast_zero, Int.toNat_zero, List.take_zero, List.nil_append, List.length_append, List.length_nil, Int.toNat_zero, Int.toNat_one] at h
      exact done h rfl rfl rfl
    · have m := n2 g
      rw [show ((2 : Nat) : Int) = 2 from rfl] at m
      rw [m] at h ⊢
      exact doneN h rfl rfl rfl
  cases h6 : (s == bWind)
  case true =>
    simp only [h1, h2, h3, h4, h5, h6] at h
    by_cases g : l.length = 0
    · have m := m0 g
      rw [show ((0 : Nat) : Int) = 0 from rfl] at m
      rw [m] at h ⊢
      simp (disch := omega) only [Nat.add_eq, eqSy_self, eqN_self, bc_same, List.length_cons, ofn, wrap_in, dt, df, bltD, bltN, ble_of, bleN, beqD, bc_t, bc_f, nn_ok, Nat.zero_add, to_nat, Int.zero_add, Int.sub_zero, Int.sub_self, Int.cast_ofNat_Int, Int.natCast_zero, Int.toNat_zero, List.take_zero, List.nil_append, List.length_append, List.length_nil, Int.toNat_zero, Int.toNat_one] at h
      exact done h rfl rfl rfl
    · have m := n0 g
      rw [show ((0 : Nat) : Int) = 0 from rfl] at m
      rw [m] at h ⊢
      exact doneN h rfl rfl rfl
  simp only [h1, h2, h3, h4, h5, h6] at h
  exact doneN h rfl rfl rfl
end MMk
noncomputable def spMkP : ZCT := fun ax => match ax with
  | [.v (.string s), .lst (.ints .i64 l)] => some ⟨decide (True), shE (mkP s l) (mkL s l) (mkE s l), [], 0⟩
  | _ => none
theorem spMkP_ok : ZCtOk Try.prog 26 spMkP := fun γ w us ax r hs hc hax hN hfz => by
  unfold spMkP at hs
  split at hs
  case h_2 => cases hs
  rename_i s l
  obtain ⟨rfl⟩ := Option.some.inj hs
  have hc_0 : decide (True) = true := hc
  have hc := of_decide_eq_true hc_0
  exact EndZ.calls (MMk.endsP s l) ctL_ok (by kernel_rfl) hax hN hfz
noncomputable def spMkR : ZCT := fun ax => match ax with
  | [.v (.string s), .lst (.ints .i64 l)] => some ⟨decide (True), shE (mkP s l) (mkL s l) (mkE s l), [], 0⟩
  | _ => none
theorem spMkR_ok : ZCtOk Try.prog 31 spMkR := fun γ w us ax r hs hc hax hN hfz => by
  unfold spMkR at hs
  split at hs
  case h_2 => cases hs
  rename_i s l
  obtain ⟨rfl⟩ := Option.some.inj hs
  have hc_0 : decide (True) = true := hc
  have hc := of_decide_eq_true hc_0
  exact EndZ.calls (MMk.endsR s l) ctL_ok (by kernel_rfl) hax hN hfz
end Go.Proofs.Ytojbgacoolanlaa.Ev
namespace Go.Proofs.Ytojbgacoolanlaa
open Go.ChangeShapes Go.WideShapes Go.ChangeAt Go.RowKit

theorem kept_of_stays {W W' : World} (h : Ev.Stays W W') (may : MemPlace → Prop) : W.keptBut W' may := by
  refine ⟨h.os, h.output, fun i hi => ?_⟩
  have e := h.block i hi
  rw [e]
  cases hb : W.heap[i]? with
  | none => simp
  | some o =>
    cases o <;> first | exact ⟨rfl, rfl, rfl, fun _ _ => rfl⟩ | exact .inr ⟨rfl, rfl⟩ | rfl
theorem frozen_of_stays {W W' : World} (h : Ev.Stays W W') (a : Addr) (ha : a.block < W.heap.size) : W'.frozen? a = W.frozen? a := by
  unfold World.frozen?
  rw [h.block _ ha]
section
variable {H : Type} {enc : TypeId × Value → H} {P : Program}
/-- 'post_of_same', where only the blocks that were there are as they were -/
theorem post_of_stays {f : Func} {s : ChangeSpec} {apart fresh handsOn again : Bool} {W W' : World} {args : Array Value} {v : Value} {ds gs : List (DataW H)} {before pa pv : List MemPlace}
    (hW : DataW.Whole enc P f.params.toList s.vars apart W args.toList ds gs before)
    (hres : ∀ (b : Nat) (sp : Nat → Bool) (hd : Bool), DataW.TrodAll enc P W' b sp hd f.resultTypes.toList (v.resultList f.resultTypes.size) (s.fn H (ds ++ gs)).results [])
    (hargs : ∀ sp : Nat → Bool, (∀ p ∈ before, sp p.block = true) → DataW.TrodAll enc P W' 0 sp true f.params.toList args.toList (s.fn H (ds ++ gs)).args pa)
    (hvars : ∀ sp : Nat → Bool, (∀ p ∈ before, sp p.block = true) → DataW.TrodVars enc P W' sp s.vars (s.fn H (ds ++ gs)).vars pv)
    (hps : before = pa ++ pv) (hst : Ev.Stays W W')
    (hok : ∀ (j : Nat) (t : TypeId) (r : Value), f.resultTypes[j]? = some t → (v.resultList f.resultTypes.size)[j]? = some r → Value.okWide P W' .any 0 t r) :
    s.post enc P f apart fresh handsOn again W args v W' := by
  have hk : W.keptBut W' (· ∈ before) := kept_of_stays hst _
  have hold : ∀ p ∈ before, (fun b => decide (b < W.heap.size)) p.block = true := fun p hp => by simpa using hW.lt p hp
  have hlt := fun p hp => hW.lt p hp
  refine ⟨ds, gs, before, [], pa, pv, hW, hres _ _ _, hargs _ hold, hvars _ hold, World.keptBut_mono (fun p hp => ⟨hp, ?_⟩) hk, fun _ => ?_⟩
  · rw [hps, List.mem_append] at hp
    exact Or.inr hp
  · obtain ⟨_, _, _, _, _, hz, hn⟩ := hW
    refine ⟨hok, _, _, ([] ++ pa) ++ pv, ⟨[] ++ pa, pv, trodAll_append (hargs _ (fun _ _ => rfl)) (hres _ _ _), hvars _ (fun _ _ => rfl), rfl, ?_, ?_⟩, ?_⟩
    · intro b off hp
      have hp2 : MemPlace.cell b off ∈ before := by rw [hps]; simpa using hp
      rw [frozen_of_stays hst _ (hlt _ hp2)]
      exact hz b off hp2
    · intro ha
      have := hn ha
      rw [hps] at this
      simpa using this
    · intro p hp _
      rw [hps]
      simpa using hp
end
end Go.Proofs.Ytojbgacoolanlaa
namespace Go.Proofs.Ytojbgacoolanlaa
open Go.ChangeShapes Go.WideShapes Go.ChangeAt Go.RowKit
section
variable {H : Type} {enc : TypeId × Value → H} {P : Program}
theorem same_of_stays {W W' : World} (h : Ev.Stays W W') {p : MemPlace} (hp : p.block < W.heap.size) : W.sameAt W' p := by
  cases p with
  | cell b off =>
    show W'.cell? _ = W.cell? _
    unfold World.cell?
    rw [h.block b hp]
  | map b => exact h.block b hp
theorem args_carry {W W' : World} {base : Nat} {sp : Nat → Bool} {hd : Bool} : ∀ {ts : List TypeId} {vs : List Value} {ds : List (DataW H)} {ps : List MemPlace}, DataW.TrodAll enc P W base sp hd ts vs ds ps → (∀ p ∈ ps, W.sameAt W' p) → DataW.TrodAll enc P W' base sp hd ts vs ds ps
  | [], [], [], _, h, _ => h
  | _ :: _, _ :: _, _ :: _, _, ⟨p, q, ⟨n, h⟩, hs, e⟩, k => ⟨p, q, ⟨n, DataW.trod_carry n _ _ _ h fun x hx => k x (by rw [e]; exact List.mem_append_left _ hx)⟩, args_carry hs fun x hx => k x (by rw [e]; exact List.mem_append_right _ hx), e⟩
  | [], [], _ :: _, _, h, _ => h.elim
  | [], _ :: _, _, _, h, _ => h.elim
  | _ :: _, [], _, _, h, _ => h.elim
  | _ :: _, _ :: _, [], _, h, _ => h.elim
/-- a law's closing condition: true, and its arguments read as they did -/
theorem post_law {f : Func} {s : ChangeSpec} {apart fresh handsOn again : Bool} {W W' : World} {args : Array Value} {ds : List (DataW H)} {p : List MemPlace} {bt : TypeId} {T : TypeId → Prop} (K : Kids P T) (hz : ∀ t e, T t → P.underlying t = some (.slice e) → 0 < P.cellsOf e)
    (hbt : P.underlying bt = some .bool) (hrt : f.resultTypes.toList = [bt]) (hsz : f.resultTypes.size = 1) (hvs : s.vars = []) (hfn : s.fn H (ds ++ []) = { results := [.lit (.bool true)], args := ds })
    (hpt : ∀ t ∈ f.params.toList, T t)
    (hW : DataW.Whole enc P f.params.toList s.vars apart W args.toList ds [] (p ++ [])) (hA : DataW.TrodAll enc P W 0 (fun _ => true) true f.params.toList args.toList ds p) (hst : Ev.Stays W W')
    (hok : ∀ (j : Nat) (t : TypeId) (r : Value), f.resultTypes[j]? = some t → ((Value.bool true).resultList f.resultTypes.size)[j]? = some r → Value.okWide P W' .any 0 t r) :
    s.post enc P f apart fresh handsOn again W args (.bool true) W' := by
  have hlt := fun q hq => hW.lt q hq
  refine post_of_stays (pa := p) (pv := []) hW (fun b sp hd => ?_) (fun sp hsp => ?_) (fun sp _ => ?_) rfl hst hok
  · rw [hrt, hfn, hsz]
    exact trodAll_mk1 (shut_bool hbt _)
  · rw [hfn]
    exact DataW.TrodAll.respare K hz hpt (args_carry hA fun q hq => same_of_stays hst (hlt q (by simpa using hq))) fun q hq => hsp q (by simpa using hq)
  · rw [hfn, hvs]
    rfl
end
namespace Ev
/-! ### data that came in -/
/-- numbers fit their kinds, rows are whole -/
inductive UFit : Sh → U → Prop where
  | int (k : IntKind) (n : Int) (h : (Lit.int k n).wf = true) : UFit (.int k) (.i n)
  | bool (b : Bool) : UFit .bool (.b b)
  | str (s : ByteArray) (h : s.size ≤ maxLen) : UFit .str (.s s)
  | list (sh : List Sh) (l : List (List U)) (hl : l.length ≤ maxLen) (hr : ∀ j, j < l.length → (l.getD j []).length = sh.length) (h : ∀ (j f : Nat) (s : Sh), j < l.length → sh[f]? = some s → UFit s ((l.getD j []).getD f (.i 0))) : UFit (.list sh) (.l l)
structure RowFit (sh : List Sh) (r : List U) : Prop where
  len : r.length = sh.length
  fit : ∀ (f : Nat) (s : Sh), sh[f]? = some s → UFit s (r.getD f (.i 0))
theorem RowFit.nil : RowFit [] [] := ⟨rfl, fun f s h => by simp at h⟩
theorem RowFit.append {sh1 sh2 : List Sh} {r1 r2 : List U} (h1 : RowFit sh1 r1) (h2 : RowFit sh2 r2) : RowFit (sh1 ++ sh2) (r1 ++ r2) := by
  refine ⟨by simp [h1.len, h2.len], fun f s h => ?_⟩
  rw [List.getD_eq_getElem?_getD]
  by_cases hf : f < sh1.length
  · rw [List.getElem?_append_left hf] at h
    rw [List.getElem?_append_left (by rw [h1.len]; exact hf), ← List.getD_eq_getElem?_getD]
    exact h1.fit f s h
  · rw [List.getElem?_append_right (by omega)] at h
    rw [List.getElem?_append_right (by rw [h1.len]; omega), h1.len, ← List.getD_eq_getElem?_getD]
    exact h2.fit _ s h
theorem recE_app : ∀ {sh1 sh2 : List Sh} {r1 r2 : List U}, r1.length = sh1.length → recE (sh1 ++ sh2) (r1 ++ r2) = recE sh1 r1 ++ recE sh2 r2
  | [], sh2, r1, r2, h => by
    have : r1 = [] := List.eq_nil_of_length_eq_zero h
    subst this; rfl
  | s :: sh1, sh2, [], r2, h => by cases h
  | s :: sh1, sh2, u :: r1, r2, h => by
    show s.ev u :: recE (sh1 ++ sh2) (r1 ++ r2) = s.ev u :: (recE sh1 r1 ++ recE sh2 r2)
    rw [recE_app (by simpa using h)]
/-- shapes of types, where cells lie one behind the other -/
def shFs (P : Program) (f : TypeId → Option (List Sh)) : List Field → Nat → Option (List Sh)
  | [], _ => some []
  | fd :: r, off => match f fd.type with
    | some sh => if fd.offset = off ∧ P.cellsOf fd.type = sh.length then match shFs P f r (off + sh.length) with
      | some l => some (sh ++ l)
      | none => none else none
    | none => none
def shB (P : Program) : Nat → TypeId → Option (List Sh)
  | 0, _ => none
  | k + 1, t => match P.underlying t with
    | some (.int κ) => some [.int κ]
    | some .bool => some [.bool]
    | some .string => some [.str]
    | some (.slice e) => match shB P k e with
      | some sh => if P.cellsOf e = sh.length ∧ 0 < sh.length then some [.list sh] else none
      | none => none
    | some (.struct fs) => match shFs P (shB P k) fs.toList 0 with
      | some sh => if P.cellsOf t = sh.length then some sh else none
      | none => none
    | some (.array m e) => match shB P k e with
      | some sh => if P.cellsOf e = sh.length ∧ P.cellsOf t = m * sh.length then some (List.replicate m sh).flatten else none
      | none => none
    | _ => none
noncomputable def fzAll (W : World) : Nat → Option (Array Value) := fun k => match W.heap[k]? with
  | some (.cells a _ _) => some a
  | _ => none
noncomputable def gAll (W : World) : G := ⟨fun _ => none, fzAll W⟩
theorem fzAll_at (W : World) : FzAt (gAll W) W := fun k a hk => by
  have hk : fzAll W k = some a := hk
  unfold fzAll at hk
  split at hk
  · rename_i a' ty fz h
    injection hk with hk; subst hk
    exact ⟨ty, fz, h⟩
  · cases hk
theorem list_of {Q : Nat → List U → Prop} : ∀ (n : Nat), (∀ i, i < n → ∃ r, Q i r) → ∃ l : List (List U), l.length = n ∧ ∀ i, i < n → Q i (l.getD i [])
  | 0, _ => ⟨[], rfl, fun i hi => absurd hi (by omega)⟩
  | n + 1, h => by
    obtain ⟨l, h1, h2⟩ := list_of n fun i hi => h i (by omega)
    obtain ⟨r, hr⟩ := h n (by omega)
    refine ⟨l ++ [r], by simp [h1], fun i hi => ?_⟩
    rw [List.getD_eq_getElem?_getD]
    by_cases e : i < n
    · rw [List.getElem?_append_left (by omega), ← List.getD_eq_getElem?_getD]; exact h2 i e
    · have : i = n := by omega
      subst this
      rw [List.getElem?_append_right (by omega), h1, Nat.sub_self]; exact hr
variable {H : Type} {enc : TypeId × Value → H} {P : Program} {W : World} {base : Nat} {sp : Nat → Bool} {hd : Bool}
def OpenAt (enc : TypeId × Value → H) (P : Program) (W : World) (base : Nat) (sp : Nat → Bool) (hd : Bool) (k : Nat) : Prop := ∀ (t : TypeId) (sh : List Sh) (fuel : Nat) (cs : List Value) (x : DataW H × List MemPlace), shB P k t = some sh → DataW.trod enc P W base sp hd fuel t cs = some x → ∃ r, RowFit sh r ∧ ∀ γ : G, γ.fz = fzAll W → ECL γ (recE sh r) cs
theorem fields_open {k : Nat} (ih : OpenAt enc P W base sp hd k) {cs : List Value} {n : Nat} : ∀ (fs : List Field) (off : Nat) (sh : List Sh), shFs P (shB P k) fs off = some sh → (∀ f, f ∈ fs → ∃ y, DataW.trod enc P W base sp hd n f.type ((cs.drop f.offset).take (P.cellsOf f.type)) = some y) → ∃ r, RowFit sh r ∧ ∀ γ : G, γ.fz = fzAll W → ECL γ (recE sh r) ((cs.drop off).take sh.length)
  | [], off, sh, h, _ => by
    injection (show some [] = some sh from h) with h; subst h
    exact ⟨[], .nil, fun γ _ => by
      rw [show ([] : List Sh).length = 0 from rfl, List.take_zero]; exact ECL.nil γ⟩
  | fd :: fs, off, sh, h, hall => by
    unfold shFs at h
    split at h
    case h_2 => cases h
    rename_i s1 hs1
    split at h
    case isFalse => cases h
    rename_i hc
    split at h
    case h_2 => cases h
    rename_i s2 hs2
    injection h with h; subst h
    obtain ⟨y, hy⟩ := hall fd (by simp)
    rw [hc.1, hc.2] at hy
    obtain ⟨r1, h1, h2⟩ := ih fd.type s1 n _ y hs1 hy
    obtain ⟨r2, h3, h4⟩ := fields_open ih fs (off + s1.length) s2 hs2 fun f hf => hall f (by simp [hf])
    refine ⟨r1 ++ r2, h1.append h3, fun γ hγ => ?_⟩
    rw [recE_app h1.len, List.length_append]
    have e : (cs.drop off).take (s1.length + s2.length) = (cs.drop off).take s1.length ++ (cs.drop (off + s1.length)).take s2.length := by
      rw [List.take_add, List.drop_drop]
    rw [e]
    exact (h2 γ hγ).append (h4 γ hγ)
theorem elems_open {k : Nat} (ih : OpenAt enc P W base sp hd k) {cs : List Value} {n : Nat} {e : TypeId} {sh : List Sh} (hsh : shB P k e = some sh) (hc : P.cellsOf e = sh.length) : ∀ (m i0 : Nat), (∀ i, i < m → ∃ y, DataW.trod enc P W base sp hd n e ((cs.drop ((i0 + i) * P.cellsOf e)).take (P.cellsOf e)) = some y) → ∃ r, RowFit (List.replicate m sh).flatten r ∧ ∀ γ : G, γ.fz = fzAll W → ECL γ (recE (List.replicate m sh).flatten r) ((cs.drop (i0 * sh.length)).take (m * sh.length))
  | 0, i0, _ => ⟨[], .nil, fun γ _ => by
      rw [Nat.zero_mul, List.take_zero]; exact ECL.nil γ⟩
  | m + 1, i0, h => by
    obtain ⟨y, hy⟩ := h 0 (by omega)
    rw [hc, Nat.add_zero] at hy
    obtain ⟨r1, h1, h2⟩ := ih e sh n _ y hsh hy
    obtain ⟨r2, h3, h4⟩ := elems_open ih hsh hc m (i0 + 1) fun i hi => by
      have := h (i + 1) (by omega)
      rwa [show i0 + (i + 1) = i0 + 1 + i by omega] at this
    refine ⟨r1 ++ r2, by rw [List.replicate_succ, List.flatten_cons]; exact h1.append h3, fun γ hγ => ?_⟩
    rw [List.replicate_succ, List.flatten_cons, recE_app h1.len, Nat.succ_mul, Nat.add_comm, List.take_add, List.drop_drop]
    have := h4 γ hγ
    rw [Nat.succ_mul] at this
    exact (h2 γ hγ).append this
theorem open_cells : ∀ k, OpenAt enc P W base sp hd k
  | 0 => fun t sh fuel cs x h => by cases h
  | k + 1 => fun t sh fuel cs x h ht => by
    have ih : OpenAt enc P W base sp hd k := open_cells k
    unfold shB at h
    split at h
    · rename_i κ hu
      injection h with h; subst h
      obtain ⟨n, rfl, _, hw⟩ := DataW.trod_int hu ht
      refine ⟨[.i n], ⟨rfl, fun f s hf => ?_⟩, fun γ _ => .cons (.v _) (.nil _)⟩
      obtain ⟨rfl, rfl⟩ := one_f hf
      exact .int κ n hw
    · rename_i hu
      injection h with h; subst h
      obtain ⟨b, rfl, _⟩ := DataW.trod_bool hu ht
      refine ⟨[.b b], ⟨rfl, fun f s hf => ?_⟩, fun γ _ => .cons (.v _) (.nil _)⟩
      obtain ⟨rfl, rfl⟩ := one_f hf
      exact .bool b
    · rename_i hu
      injection h with h; subst h
      obtain ⟨s, rfl, _, hs⟩ := DataW.trod_string hu ht
      refine ⟨[.s s], ⟨rfl, fun f s hf => ?_⟩, fun γ _ => .cons (.v _) (.nil _)⟩
      obtain ⟨rfl, rfl⟩ := one_f hf
      exact .str _ hs
    · rename_i e hu
      split at h
      case h_2 => cases h
      rename_i sh' hsh
      split at h
      case isFalse => cases h
      rename_i hc
      injection h with h; subst h
      rcases DataW.trod_slice hu ht with ⟨rfl, _⟩ | ⟨a, len, cap, elems, rest, n, _, rfl, _, hb, hlc, hcm, hel, hall, _⟩
      · refine ⟨[.l []], ⟨rfl, fun f s hf => ?_⟩, fun γ _ => .cons ?_ (.nil _)⟩
        · obtain ⟨rfl, rfl⟩ := one_f hf
          exact .list sh' [] (Nat.zero_le _) (fun j hj => by simp at hj) (fun j f s hj => by simp at hj)
        · exact UOk.ec (s := .list sh') (.empty sh' (.l []) none 0 rfl (Nat.zero_le _) fun _ => rfl)
      · have each : ∀ i, i < len → ∃ r, RowFit sh' r ∧ ∃ ys, W.cells? base (a.add (i * sh'.length)) sh'.length = some ys ∧ ∀ γ : G, γ.fz = fzAll W → ECL γ (recE sh' r) ys := fun i hi => by
          have h1 := hall i hi
          rw [hc.1] at h1
          have h2 : i < elems.length := by omega
          rw [List.getElem?_eq_getElem h2] at h1
          obtain ⟨ys, h3, h4⟩ := Option.bind_eq_some_iff.1 h1
          obtain ⟨r, h5, h6⟩ := ih e sh' n ys _ hsh h4
          exact ⟨r, h5, ys, h3, h6⟩
        obtain ⟨l, hl, hQ⟩ := list_of len each
        refine ⟨[.l l], ⟨rfl, fun f s hf => ?_⟩, fun γ hγ => .cons ?_ (.nil _)⟩
        · obtain ⟨rfl, rfl⟩ := one_f hf
          exact .list sh' l (by omega) (fun j hj => (hQ j (by omega)).1.len) fun j f s hj hf => (hQ j (by omega)).1.fit f s hf
        · refine UOk.ec (s := .list sh') ?_
          by_cases h0 : len = 0
          · have : l = [] := List.eq_nil_of_length_eq_zero (by omega)
            subst this; subst h0
            exact .empty sh' (.l []) (some a) cap rfl hcm fun e => by cases e
          · obtain ⟨b, off, spot⟩ := a
            have hblk : spot = none ∧ ∃ arr ty fz, W.heap[b]? = some (.cells arr ty fz) := by
              obtain ⟨h1, ys, h2, h3⟩ := hQ 0 (by omega)
              obtain ⟨_, h4, h5⟩ := World.cells?_some h2
              have h6 := h5 0 hc.2
              rw [List.getElem?_eq_getElem (show 0 < ys.length by omega)] at h6
              have h6 : W.cell? ⟨b, off, spot⟩ = some ys[0] := by
                have e : ((⟨b, off, spot⟩ : Addr).add (0 * sh'.length)).add 0 = ⟨b, off, spot⟩ := by simp [Addr.add]
                rw [e] at h6; exact h6
              unfold World.cell? at h6
              split at h6
              · rename_i arr ty fz hb'
                split at h6
                · cases h6
                · rename_i hs
                  exact ⟨by cases spot <;> simp_all, arr, ty, fz, hb'⟩
              · cases h6
            obtain ⟨rfl, arr, ty, fz, hblk⟩ := hblk
            have cellAt : ∀ i f, i < len → f < sh'.length → ∃ y, W.cell? ⟨b, off + (i * sh'.length + f), none⟩ = some y ∧ ∀ s, sh'[f]? = some s → UOk γ.fz s ((l.getD i []).getD f (.i 0)) y := fun i f hi hf => by
              obtain ⟨h1, ys, h2, h3⟩ := hQ i hi
              obtain ⟨_, h4, h5⟩ := World.cells?_some h2
              have h6 := h5 f hf
              have h7 : f < ys.length := by omega
              rw [List.getElem?_eq_getElem h7] at h6
              refine ⟨ys[f], ?_, fun s hs => ?_⟩
              · have e : ((⟨b, off, none⟩ : Addr).add (i * sh'.length)).add f = ⟨b, off + (i * sh'.length + f), none⟩ := by
                  unfold Addr.add
                  split <;> split <;> simp_all [Nat.add_assoc]
                rw [← h6, e]
              · have h8 := recE_get (s := s) (f := f) (sh := sh') (l.getD i []) hs
                have h9 := (h3 γ hγ).2 f _ ys[f] h8 (List.getElem?_eq_getElem h7)
                exact UOk.of_ec h9
            have getA : ∀ i f, i < len → f < sh'.length → ∃ y, arr[off + (i * sh'.length + f)]? = some y ∧ ∀ s, sh'[f]? = some s → UOk γ.fz s ((l.getD i []).getD f (.i 0)) y := fun i f hi hf => by
              obtain ⟨y, h1, h2⟩ := cellAt i f hi hf
              refine ⟨y, ?_, h2⟩
              unfold World.cell? at h1
              simpa [hblk] using h1
            have hk : γ.fz b = some arr := by
              rw [hγ]; unfold fzAll; rw [hblk]
            subst hl
            refine .list sh' (.l l) b off cap arr hk hlc hcm ?_ fun j f s x hj hf hx => ?_
            · show off + l.length * sh'.length ≤ arr.size
              obtain ⟨y, h1, _⟩ := getA (l.length - 1) (sh'.length - 1) (by omega) (by omega)
              have := (Array.getElem?_eq_some_iff.1 h1).1
              have e : l.length * sh'.length = (l.length - 1) * sh'.length + sh'.length := by rw [← Nat.succ_mul]; congr 1; omega
              omega
            · obtain ⟨y, h1, h2⟩ := getA j f hj (List.getElem?_eq_some_iff.1 hf).1
              rw [h1] at hx; injection hx with hx; subst hx
              exact h2 s hf
    · rename_i fs hu
      split at h
      case h_2 => cases h
      rename_i sh' hsh
      split at h
      case isFalse => cases h
      rename_i hc
      injection h with h; subst h
      obtain ⟨xs, n, _, _, hl, hlen, hf⟩ := DataW.trod_struct hu ht
      obtain ⟨r, h1, h2⟩ := fields_open (cs := cs) (n := n) ih fs.toList 0 sh' hsh fun f hm => by
        obtain ⟨i, hi, rfl⟩ := List.getElem_of_mem hm
        have hi2 : i < fs.size := by simpa using hi
        have := hf i fs.toList[i] (by simp [hi2])
        rw [List.getElem?_eq_getElem (by omega)] at this
        exact ⟨_, this⟩
      refine ⟨r, h1, fun γ hγ => ?_⟩
      have := h2 γ hγ
      rwa [List.drop_zero, List.take_of_length_le (by omega)] at this
    · rename_i m e hu
      split at h
      case h_2 => cases h
      rename_i sh' hsh
      split at h
      case isFalse => cases h
      rename_i hc
      injection h with h; subst h
      obtain ⟨xs, n, _, _, hl, hlen, hf⟩ := DataW.trod_array hu ht
      obtain ⟨r, h1, h2⟩ := elems_open (cs := cs) (n := n) ih hsh hc.1 m 0 fun i hi => by
        have := hf i hi
        rw [List.getElem?_eq_getElem (by omega)] at this
        rw [Nat.zero_add]
        exact ⟨_, this⟩
      refine ⟨r, h1, fun γ hγ => ?_⟩
      have := h2 γ hγ
      rwa [Nat.zero_mul, List.drop_zero, List.take_of_length_le (by omega)] at this
    · cases h
/-- an argument of a struct's type -/
theorem open_agg {t : TypeId} {fs : Array Field} {v : Value} {d : DataW H} {ps : List MemPlace} {k b0 : Nat} {rc : Reach} {sh : List Sh} (hu : P.underlying t = some (.struct fs)) (hs : shB P k t = some sh) (hv : Value.okWide P W rc b0 t v) (h : DataW.Trod enc P W base sp hd t v d ps) : ∃ r, RowFit sh r ∧ EC (gAll W) (.agg (recE sh r)) v := by
  obtain ⟨cs, rfl, _⟩ := okWide_struct hu hv
  obtain ⟨fuel, hf⟩ := h
  obtain ⟨r, h1, h2⟩ := open_cells k t sh fuel _ _ hs hf
  have h3 := h2 (gAll W) rfl
  refine ⟨r, h1, ?_⟩
  have := EC.agg (γ := gAll W) (recE sh r) cs.toList h3.1 h3.2
  simpa using this
/-- an argument of a slice's type -/
theorem open_lst {t e : TypeId} {v : Value} {d : DataW H} {ps : List MemPlace} {k b0 : Nat} {rc : Reach} {sh : List Sh} (hu : P.underlying t = some (.slice e)) (hs : shB P k t = some [.list sh]) (hv : Value.okWide P W rc b0 t v) (h : DataW.Trod enc P W base sp hd t v d ps) : ∃ l, UFit (.list sh) (.l l) ∧ EC (gAll W) (.lst (mkC sh l)) v := by
  obtain ⟨a, len, cap, rfl⟩ := okWide_slice hu hv
  obtain ⟨fuel, hf⟩ := h
  obtain ⟨r, h1, h2⟩ := open_cells k t _ fuel _ _ hs hf
  have h3 := h2 (gAll W) rfl
  obtain ⟨h4, h5⟩ := h1
  match r, h4 with
  | [u], _ =>
    have h6 := h5 0 _ rfl
    have h6 : UFit (.list sh) u := h6
    cases h6 with
    | list _ l hl hr hh =>
      refine ⟨l, .list sh l hl hr hh, ?_⟩
      exact h3.2 0 _ _ rfl rfl
end Ev
end Go.Proofs.Ytojbgacoolanlaa
namespace Go.Proofs.Ytojbgacoolanlaa.Ev
open Go.Proofs
noncomputable def ctN : Tr ZCC := (((Tr.nil.put 26 (some (dC spMkP))).put 31 (some (dC spMkR))).put 16 (some (dC spSame))).put 14 (some (dC spShown))
theorem ctN_ok : ZCtsOk Try.prog ctN := ((((ZCtsOk.nil _).add rfl spMkP_ok).add rfl spMkR_ok).add rfl spSame_ok).add rfl spShown_ok
namespace MNam
noncomputable def RUN (s : ES) : ZF := RZ 7 ctN (fun _ => false) [] [] false s
theorem in_t (s : ByteArray) (l : List Int) : RUN (st0 7 [sv s, il l]) = (bc (Decidable.decide ((1000 : Int) < Int.ofNat (ByteArray.size s)))
  (.done (EV.v (Value.bool true)) [] 0)
  (bc (Decidable.decide ((100 : Int) < Int.ofNat (List.length l)))
    (.done (EV.v (Value.bool true)) [] 0)
    (bc (bc (Nat.ble (List.length (mkL s l)) (100000 : Nat)) Bool.true Bool.false)
      (bc (sameW (mkP s l) (mkP s l) (mkL s l) (mkL s l))
        (bc (mkE s l == mkE s l)
          (bc (mkP s l == mkP s l)
            (bc (mkE s l == mkE s l)
              (.done (EV.v (Value.bool true)) [] 0)
              (.done (EV.v (Value.bool false)) [] 0))
            (.done (EV.v (Value.bool false)) [] 0))
          (.done (EV.v (Value.bool false)) [] 0))
        (.done (EV.v (Value.bool false)) [] 0))
      .bad))) := by kernel_rfl
end MNam
theorem mk6_all {α : Type} {p : α → Prop} {s : ByteArray} {a b c d e f z : α} (ha : p a) (hb : p b) (hc : p c) (hd : p d) (he : p e) (hf : p f) (hz : p z) : p (mk6 s a b c d e f z) := by
  unfold mk6
  cases s == bPlait
  · cases s == bPicot
    · cases s == bSpider
      · cases s == bFan
        · cases s == bFoot
          · cases s == bWind
            · exact hz
            · exact hf
          · exact he
        · exact hd
      · exact hc
    · exact hb
  · exact ha
theorem nl_all {α : Type} {p : α → Prop} {l : List Int} {k : Int} {x y : α} (hx : p x) (hy : p y) : p (nl l k x y) := by
  unfold nl
  cases Int.ofNat l.length != k
  · exact hy
  · exact hx
def short (q : List (List U)) : Prop := q.length ≤ 100000
theorem mkL_len (s : ByteArray) (l : List Int) : (mkL s l).length ≤ 100000 := by
  have h0 : short [] := Nat.zero_le _
  exact mk6_all (p := short) (nl_all (p := short) h0 (plaitL_len _)) (nl_all (p := short) h0 (picL_len _)) (nl_all (p := short) h0 (spiB_len _ _)) (nl_all (p := short) h0 (fanL_len _)) (nl_all (p := short) h0 (footL_len _ _)) (nl_all (p := short) h0 (by unfold short winL; simp)) h0
theorem MNam.ends (s : ByteArray) (l : List Int) : EndZ 7 ctN false (st0 7 [sv s, il l]) (bv true) [] 0 := by
  have h := MNam.in_t s l
  have e1 := mkL_len s l
  simp (disch := omega) only [Nat.add_eq, eqSy_self, eqN_self, bc_same, List.length_cons, ofn, wrap_in, dt, df, bltD, bltN, ble_of, bleN, beqD, bc_t, bc_f, nn_ok, Nat.zero_add, to_nat, Int.zero_add, Int.sub_zero, Int.sub_self, Int.cast_ofNat_Int, Int.natCast_zero, Int.toNat_zero, List.take_zero, List.nil_append, List.length_append, List.length_nil, sameW_self, MPlain.eb, Bool.not_true] at h
  exact .done h
theorem motifsNames_calls {γ : G} {w : World} {us : Array Value} (s : ByteArray) (ws : s.size ≤ maxLen) (l : List (List U)) (wl : UFit (.list [.int .i64]) (.l l)) (hax : ECL γ [sv s, .lst (mkC [.int .i64] l)] us.toList) (hN : ∀ i, γ i = none) (hfz : FzAt γ w) : Calls Try.prog 7 us w fun e w' => e = .returned (.bool true) ∧ Stays w w' :=
  law_of ((MNam.ends s _).calls ctN_ok (by kernel_rfl) hax hN hfz)
end Go.Proofs.Ytojbgacoolanlaa.Ev
namespace Go.Proofs.Ytojbgacoolanlaa
open Go.ChangeShapes Go.WideShapes Go.ChangeAt Go.RowKit Go.ChangeMaps
theorem knobMotifsNames : ownKnob Try.prog.godebug = none := by kernel_rfl
theorem kidsMotifsNames : Kids Try.prog (· < Try.prog.types.size) := kids_rows (by kernel_rfl) (by kernel_rfl)
theorem fullMotifsNames : ∀ t e, t < Try.prog.types.size → Try.prog.underlying t = some (.slice e) → 0 < Try.prog.cellsOf e := slices_full_of Try.prog (by kernel_rfl)
set_option maxRecDepth 100000 in
theorem liftedMotifsNames (os : Os) (started : os.Started) (H : Type) (enc : TypeId × Value → H) :
    ReturnsInHanded {} Try.checked os 7 .any (Rows.motifsNamesSpec.pre6 enc Try.prog Try.f7 Rows.motifsNamesRow.domain false) (Rows.motifsNamesSpec.post enc Try.prog Try.f7 false true false false) := by
  refine returnsInHanded_of_change (C := Try.checked) knobMotifsNames started (by kernel_rfl) Try.func7
    (ChangeSpec.witness6 (enc := enc) (C := Try.checked) false ⟨#[], #[.string ⟨#[]⟩, .slice none 0 0], []⟩ 8 (by kernel_rfl) (by kernel_rfl) (by kernel_rfl) (by kernel_rfl)) ?_
  intro W base args ds gs before hval0 hW hcnd _
  have hval : ∀ (j : Nat) t v, Try.f7.params[j]? = some t → args[j]? = some v → Value.okWide Try.prog W .any base t v := hval0
  have hW' := hW
  obtain ⟨p, q, hA0, hV, rfl, hfz, hnd⟩ := hW
  have hA : DataW.TrodAll enc Try.prog W 0 (fun _ => true) true Try.f7.params.toList args.toList ds p := hA0
  have hAk := hA
  rw [Try.params7] at hA hval
  obtain ⟨rfl, rfl⟩ := trodVars_none hV
  obtain ⟨v0, v1, d0, d1, p0, p1, rfl, rfl, rfl, h0, h1⟩ := trodAll_two hA
  obtain ⟨s, rfl, rfl, rfl, ws⟩ := open_string Try.underlying9 (hval 0 9 v0 rfl rfl) h0
  obtain ⟨l, wl, el⟩ := Ev.open_lst (k := 8) Try.underlying28 (by kernel_rfl : Ev.shB Try.prog 8 28 = some [.list [.int .i64]]) (hval 1 28 v1 rfl rfl) h1
  clear hA0 hval0
  refine (Ev.motifsNames_calls s ws l wl (γ := Ev.gAll W) (.cons (.v _) (.cons el (.nil _))) (fun i => rfl) (Ev.fzAll_at W)).mono fun e W' ⟨he, hg⟩ => ?_
  subst he
  exact ⟨_, rfl, post_law kidsMotifsNames fullMotifsNames Try.underlying4 (by kernel_rfl) (by kernel_rfl) rfl rfl (by rw [Try.params7]; decide) hW' hAk hg (ok_one (by kernel_rfl) rfl (okWide_bool_mk Try.underlying4 _))⟩
theorem motifsNames_holds : Rows.MotifsNamesSaid :=
  OpenClaim.holds_of_wide 7 Try.f7 rfl rfl rfl rfl rfl rfl rfl ⟨rfl, rfl, rfl, rfl, rfl⟩ rfl rfl rfl rfl rfl (by kernel_rfl) Try.func7 (by kernel_rfl)
    (of_decide_eq_true (by kernel_rfl)) (by unfold Func.isWrapper; first | (rw [if_pos (by decide +kernel)]; kernel_rfl) | (rw [if_neg (by decide +kernel)]; exact ⟨rfl, rfl⟩))
    (fun os started H enc _ => liftedMotifsNames os started H enc)
end Go.Proofs.Ytojbgacoolanlaa
