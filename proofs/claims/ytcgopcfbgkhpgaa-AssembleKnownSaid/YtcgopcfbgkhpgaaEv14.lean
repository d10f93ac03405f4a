/- The reckoner: runs, and what a run that ends says of a closed call. No program is named. -/
import Derived.Test.YtcgopcfbgkhpgaaEv13
namespace Go.Proofs.Ytcgopcfbgkhpgaa.Ev
open Go.RowKit
variable {P : Program} {γ γ' : G} {w0 : Bs} {w : World} {H H' : Tr EK} {n n' : Nat} {T : Tr EV} {cs : List Frame} {fid : FuncId} {FT : Tr FI}

/-- what a handler of regions that draw their order promises -/
def DrOk (P : Program) (dr : ES → Nat → Array Oper → List IM → EO) : Prop :=
  ∀ (γ : G) (w0 : Bs) (w : World) (cs : List Frame) (fid : FuncId) (s : ES) (id : Nat) (ops : Array Oper) (k : List IM) (tmps : Array Value) (todo : List Item) (ds : List Deferred) (ro : Option Nat) (frs : List Frame), s.top.ret = false → tmps.size = s.top.N → TOk γ s.top.T tmps → All2 (IR γ) k todo →
    All2 (DR γ) s.top.dfs ds → RR γ s.top.round ro → All2 (FR γ) s.rest frs → HR γ w0 s.H s.n w → SOk P γ w0 cs fid (lone (fram s.top.fn tmps (.code (.region id ops true) :: todo) ds ro) (frs ++ cs) w) (dr s id ops k)
/-- a loop over a function begins -/
noncomputable def exRF (FT : Tr FI) (s : ES) (f : Operand) (ps : Array Tmp) (as bd : Code) (k : List IM) : EO := bc (Nat.ble s.n 65534) (match s.top.round with
  | none => match exCallee s.top.T f [.yl (Nat.succ s.n)] with
    | some (.fn g args) => match exEnter FT g args with
      | some e => .go ⟨e, { s.top with todo := .inRF (Nat.succ s.n) :: k, dfs := .mk s.n :: s.top.dfs } :: s.rest, (s.H.put s.n (some (.dfr true))).put (Nat.succ s.n) (some (.loop .ready none s.top.fn s.top.N s.top.T ps as bd s.n)), Nat.succ (Nat.succ s.n)⟩
      | none => .fail
    | _ => .fail
  | some l => match s.H.get l with
    | some (.loop _ _ _ _ _ _ _ _ dd) => match exCallee s.top.T f [.yl s.n] with
      | some (.fn g args) => match exEnter FT g args with
        | some e => .go ⟨e, { s.top with todo := .inRF s.n :: k } :: s.rest, s.H.put s.n (some (.loop .ready none s.top.fn s.top.N s.top.T ps as bd dd)), Nat.succ s.n⟩
        | none => .fail
      | _ => .fail
    | _ => .fail) .fail
theorem RR.mono (hle : GLe γ γ') {r : Option Nat} {ro : Option Nat} (h : RR γ r ro) : RR γ' r ro := by
  cases r with
  | none => exact h
  | some i => obtain ⟨b, m, e1, e2⟩ := h; exact ⟨b, m, hle _ _ e1, e2⟩
theorem All2.app {α β : Type} {R : α → β → Prop} {l l' : List α} {m m' : List β} (h : All2 R l m) (h' : All2 R l' m') : All2 R (l ++ l') (m ++ m') := by
  induction h with
  | nil => exact h'
  | cons h _ ih => exact .cons h ih
theorem rf_fin (hF : FTok P FT) {s : ES} {f : Operand} {ps : Array Tmp} {as bd : Code} {k : List IM} {tmps : Array Value} {todo : List Item} {ds : List Deferred} {ro : Option Nat} {frs : List Frame}
    (hret : s.top.ret = false) (h1 : tmps.size = s.top.N) (h2 : TOk γ s.top.T tmps) (h3 : All2 (IR γ) k todo) (h4 : All2 (DR γ) s.top.dfs ds) (h5 : RR γ s.top.round ro) (hfs : All2 (FR γ) s.rest frs)
    {γ2 : G} {w2 : World} {l li : Nat} {mark : List Deferred} {nd : List DE} {H2 : Tr EK} {n2 : Nat} {g : FuncId} {args : List EV} {e : EF}
    (hle : GLe γ γ2) (hel : (Instr.enterLoop s.top.fn tmps ps as bd ro).run P w = .ok (l, mark) w2) (hl : γ2 li = some (⟨l, 0⟩, 0)) (hm : All2 (DR γ2) nd mark) (hH2 : HR γ2 w0 H2 n2 w2)
    (hcal : exCallee s.top.T f [.yl li] = some (.fn g args)) (he : exEnter FT g args = some e) :
    SOk P γ w0 cs fid (lone (fram s.top.fn tmps (.code (.rangeFunc f ps as bd) :: todo) ds ro) (frs ++ cs) w) (.go ⟨e, { s.top with todo := .inRF li :: k, dfs := nd ++ s.top.dfs } :: s.rest, H2, n2⟩) := by
  have hyl : ECL γ2 [.yl li] (#[.func (.yield l) #[] #[]] : Array Value).toList := ECL.cons (.yl _ _ 0 hl) (ECL.nil _)
  have hmap : (#[.const (.func (.yield l) #[] #[])] : Array Operand).map (opEval tmps) = #[.func (.yield l) #[] #[]] := by simp [opEval]
  rcases run_callee (P := P) (h2.mono hle) (opEval tmps) rfl (xs := #[.const (.func (.yield l) #[] #[])]) (ats := #[]) (t := 0) hmap hyl hcal with ⟨g', as', us, e1, e2, e3⟩ | ⟨l', b, m, e1, _⟩
  · injection e1 with e4 e5; subst e4; subst e5
    obtain ⟨q1, q2⟩ := exEnter_ok hF e2 he
    have hst := st_rangeFunc (P := P) (k := todo) (ds := ds) (cs := frs ++ cs) hel ((e3 w2).trans (q2 w2))
    have hfr : FR γ2 { s.top with todo := .inRF li :: k, dfs := nd ++ s.top.dfs } (fram s.top.fn tmps (.inRangeFunc l :: todo) (mark ++ ds) ro) :=
      ⟨tmps, _, _, ro, by simp [fram, hret, modeOf], h1, h2.mono hle, .cons (.inRF _ _ 0 hl) (h3.mono fun _ _ h => h.mono hle), hm.app (h4.mono fun _ _ h => h.mono hle), h5.mono hle⟩
    exact ⟨γ2, _, hle, .one hst, _, _ :: frs, _, rfl, q1, .cons hfr (hfs.mono fun _ _ h => h.mono hle), hH2⟩
  · cases e1
theorem exRF_ok (hF : FTok P FT) {s : ES} {f : Operand} {ps : Array Tmp} {as bd : Code} {k : List IM} {tmps : Array Value} {todo : List Item} {ds : List Deferred} {ro : Option Nat} {frs : List Frame}
    (hret : s.top.ret = false) (h1 : tmps.size = s.top.N) (h2 : TOk γ s.top.T tmps) (h3 : All2 (IR γ) k todo) (h4 : All2 (DR γ) s.top.dfs ds) (h5 : RR γ s.top.round ro) (hfs : All2 (FR γ) s.rest frs) (hH : HR γ w0 s.H s.n w) :
    SOk P γ w0 cs fid (lone (fram s.top.fn tmps (.code (.rangeFunc f ps as bd) :: todo) ds ro) (frs ++ cs) w) (exRF FT s f ps as bd k) := by
  unfold exRF
  rw [bc_eq]
  split
  case isFalse => trivial
  rename_i hn
  have hn := Nat.le_of_ble_eq_true hn
  split
  · rename_i hround
    have h5' := h5
    rw [hround] at h5
    have h5 : ro = none := h5
    subst h5
    split
    case h_2 => trivial
    rename_i g args hcal
    split
    case h_2 => trivial
    rename_i e he
    have hH1 : HR (γ.upd s.n (⟨w.heap.size, 0⟩, 0)) w0 (s.H.put s.n (some (.dfr true))) (s.n + 1) (w.alloc (.deferred (some []))) :=
      hH.new (Nat.ble_eq_true_of_le (by omega)) (.deferred (some [])) 0 (.dfr true) rfl rfl rfl rfl (World.alloc_heap_new w _)
    have hle1 : GLe γ (γ.upd s.n (⟨w.heap.size, 0⟩, 0)) := G.upd_le (hH.fresh s.n (Nat.le_refl _))
    have hsn : (γ.upd s.n (⟨w.heap.size, 0⟩, 0)) s.n = some (⟨w.heap.size, 0⟩, 0) := G.upd_same
    have hel := run_enterLoop_outer (P := P) (w := w) s.top.fn tmps ps as bd
    have hsz : (w.alloc (.deferred (some []))).heap.size = w.heap.size + 1 := World.size_alloc ..
    generalize γ.upd s.n (⟨w.heap.size, 0⟩, 0) = γ1 at *
    generalize w.alloc (.deferred (some [])) = w1 at *
    have hle2 : GLe γ1 (γ1.upd (s.n + 1) (⟨w1.heap.size, 0⟩, 0)) := G.upd_le (hH1.fresh (s.n + 1) (Nat.le_refl _))
    have hH2 := hH1.new (w' := w1.alloc (.loop { state := .ready, pending := none, fn := s.top.fn, tmps := tmps, params := ps, assign := as, body := bd, defers := w.heap.size })) (Nat.ble_eq_true_of_le (by omega)) (.loop { state := .ready, pending := none, fn := s.top.fn, tmps := tmps, params := ps, assign := as, body := bd, defers := w.heap.size }) 0 (.loop .ready none s.top.fn s.top.N s.top.T ps as bd s.n) rfl rfl rfl rfl
      ⟨tmps, ⟨w.heap.size, 0⟩, 0, World.alloc_heap_new _ _, h1, h2.mono (hle1.trans hle2), hle2 _ _ hsn⟩
    have hl2 : (γ1.upd (s.n + 1) (⟨w1.heap.size, 0⟩, 0)) (s.n + 1) = some (⟨w.heap.size + 1, 0⟩, 0) := by rw [← hsz]; exact G.upd_same
    exact rf_fin (nd := [.mk s.n]) hF hret h1 h2 h3 h4 h5' hfs (hle1.trans hle2) hel hl2 (.cons (.mk _ ⟨w.heap.size, 0⟩ 0 (hle2 _ _ hsn)) .nil) hH2 hcal he
  · rename_i l hround
    have h5' := h5
    rw [hround] at h5
    obtain ⟨bl, ml, hγl, rfl⟩ := h5
    split
    case h_2 => trivial
    rename_i st pend fn N T0 ps0 as0 bd0 dd hg
    split
    case h_2 => trivial
    rename_i g args hcal
    split
    case h_2 => trivial
    rename_i e he
    obtain ⟨ts, d, q, g1, g2, g3, g4⟩ := getLoop_of hH hg hγl
    have hle : GLe γ (γ.upd s.n (⟨w.heap.size, 0⟩, 0)) := G.upd_le (hH.fresh s.n (Nat.le_refl _))
    have hH1 := hH.new (w' := w.alloc (.loop { state := .ready, pending := none, fn := s.top.fn, tmps := tmps, params := ps, assign := as, body := bd, defers := d.k })) (Nat.ble_eq_true_of_le (by omega)) (.loop { state := .ready, pending := none, fn := s.top.fn, tmps := tmps, params := ps, assign := as, body := bd, defers := d.k }) 0 (.loop .ready none s.top.fn s.top.N s.top.T ps as bd dd) rfl rfl rfl rfl
      ⟨tmps, d, q, World.alloc_heap_new _ _, h1, h2.mono hle, hle _ _ g4⟩
    have hel : (Instr.enterLoop s.top.fn tmps ps as bd (some bl.k)).run P w = .ok (w.heap.size, []) (w.alloc (.loop { state := .ready, pending := none, fn := s.top.fn, tmps := tmps, params := ps, assign := as, body := bd, defers := d.k })) := by
      unfold Instr.enterLoop
      simp only [Sem.run_bind, run_getLoop g1, run_newObj_alloc, Result.andThen, Sem.run_pure]
    exact rf_fin (nd := []) hF hret h1 h2 h3 h4 h5' hfs hle hel G.upd_same .nil hH1 hcal he
noncomputable def exCode0 (P : Program) (FT : Tr FI) (dr : ES → Nat → Array Oper → List IM → EO) (s : ES) (c : Code) (k : List IM) : EO := match c with
  | .skip => popTo s k
  | .label _ => popTo s k
  | .ret => exLeave s (some .ret) true
  | .seq a b => popTo s (.it (.code a) :: .it (.code b) :: k)
  | .cond c a b => match exVal s.top.T c with
    | some (.v (.bool t)) => popTo s (.it (.code (bc t a b)) :: k)
    | _ => .fail
  | .block id body => popTo s (.it (.code body) :: .it (.inBlock id) :: k)
  | .loop body => popTo s (.it (.code body) :: .it (.inLoop body) :: k)
  | .scope body => popTo s (.it (.code body) :: .it (.inScope body) :: k)
  | .exit id => match eExit id k with
    | some k' => popTo s k'
    | none => exLeave s (some (.exit id)) false
  | .region id ops draw => match draw with
    | false => popTo s (.ops ops ops.toList :: k)
    | true => dr s id ops k
  | .rangeFunc f ps as bd => exRF FT s f ps as bd k
  | _ => .fail
noncomputable def exItem0 (P : Program) (FT : Tr FI) (dr : ES → Nat → Array Oper → List IM → EO) (s : ES) : EO := match s.top.todo with
  | [] => exLeave s none true
  | .it (.code c) :: k => exCode0 P FT dr s c k
  | .it (.inBlock _) :: k => popTo s k
  | .it (.inScope _) :: k => popTo s k
  | .it (.inLoop body) :: k => popTo s (.it (.code body) :: .it (.inLoop body) :: k)
  | .it .beginRound :: k => match s.top.round with
    | some l => match s.H.get l with
      | some (.loop .ready pend fn N T ps as bd dd) => bc (Nat.ble l 65535) (.go { s with top := { s.top with todo := k }, H := s.H.put l (some (.loop .busy pend fn N T ps as bd dd)) }) .fail
      | _ => .fail
    | none => .fail
  | .ops ops [] :: k => popTo s k
  | .ops ops (o :: l) :: k => exOps P FT s ops o l k
  | .endRF l :: k => match s.H.get l with
    | some (.loop st pend fn N T ps as bd dd) => match st with
      | .busy => .fail
      | _ => bc (Nat.ble l 65535) (.go { s with top := { s.top with todo := pendTo pend k }, H := s.H.put l (some (.loop .exhausted pend fn N T ps as bd dd)) }) .fail
    | _ => .fail
  | _ => .fail
noncomputable def condGo (s : ES) (c : Operand) (a b : Code) (k : List IM) : EO := match exVal s.top.T c with
  | some (.v (.bool t)) => popTo s (.it (.code (bc t a b)) :: k)
  | _ => .fail
noncomputable def exitGo (s : ES) (id : Nat) (k : List IM) : EO := match eExit id k with
  | some k' => popTo s k'
  | none => exLeave s (some (.exit id)) false
noncomputable def beginGo (s : ES) (k : List IM) : EO := match s.top.round with
  | some l => match s.H.get l with
    | some (.loop .ready pend fn N T ps as bd dd) => bc (Nat.ble l 65535) (.go { s with top := { s.top with todo := k }, H := s.H.put l (some (.loop .busy pend fn N T ps as bd dd)) }) .fail
    | _ => .fail
  | none => .fail
noncomputable def endGo (s : ES) (l : Nat) (k : List IM) : EO := match s.H.get l with
  | some (.loop st pend fn N T ps as bd dd) => match st with
    | .busy => .fail
    | _ => bc (Nat.ble l 65535) (.go { s with top := { s.top with todo := pendTo pend k }, H := s.H.put l (some (.loop .exhausted pend fn N T ps as bd dd)) }) .fail
  | _ => .fail
abbrev CA := Program → Tr FI → (ES → Nat → Array Oper → List IM → EO) → ES → List IM → EO
/-- the same, with arms that mention nothing -/
noncomputable def codeArms (c : Code) : CA := Code.rec (motive := fun _ => CA)
  (fun _ _ _ s k => popTo s k)
  (fun id ops draw _ _ dr s k => Bool.rec (popTo s (.ops ops ops.toList :: k)) (dr s id ops k) draw)
  (fun a b _ _ _ _ _ s k => popTo s (.it (.code a) :: .it (.code b) :: k))
  (fun c a b _ _ _ _ _ s k => condGo s c a b k)
  (fun id body _ _ _ _ s k => popTo s (.it (.code body) :: .it (.inBlock id) :: k))
  (fun body _ _ _ _ s k => popTo s (.it (.code body) :: .it (.inLoop body) :: k))
  (fun f ps as bd _ _ _ FT _ s k => exRF FT s f ps as bd k)
  (fun id _ _ _ s k => exitGo s id k)
  (fun body _ _ _ _ s k => popTo s (.it (.code body) :: .it (.inScope body) :: k))
  (fun _ _ _ _ s k => popTo s k)
  (fun _ _ _ _ _ _ => .fail)
  (fun _ _ _ s _ => exLeave s (some .ret) true)
  (fun _ _ _ _ _ _ => .fail)
  c
noncomputable def itemArms (x : Item) : CA := Item.rec (motive := fun _ => CA)
  (fun c => codeArms c)
  (fun _ _ _ _ s k => popTo s k)
  (fun body _ _ _ s k => popTo s (.it (.code body) :: .it (.inLoop body) :: k))
  (fun _ _ _ _ s k => popTo s k)
  (fun _ _ _ _ _ _ _ => .fail)
  (fun _ _ _ _ _ _ => .fail)
  (fun _ _ _ _ _ _ => .fail)
  (fun _ _ _ s k => beginGo s k)
  (fun _ _ _ _ _ _ _ _ _ => .fail)
  (fun _ _ _ _ _ _ _ => .fail)
  x
noncomputable def imArms (x : IM) : CA := IM.rec (motive := fun _ => CA)
  (fun x => itemArms x)
  (fun ops l P FT _ s k => List.rec (popTo s k) (fun o l _ => exOps P FT s ops o l k) l)
  (fun _ _ _ _ _ _ => .fail)
  (fun l _ _ _ s k => endGo s l k)
  x
noncomputable def exItem (P : Program) (FT : Tr FI) (dr : ES → Nat → Array Oper → List IM → EO) (s : ES) : EO := List.rec (exLeave s none true) (fun x k _ => imArms x P FT dr s k) s.top.todo
theorem exCode_eq {dr : ES → Nat → Array Oper → List IM → EO} {s : ES} {c : Code} {k : List IM} : codeArms c P FT dr s k = exCode0 P FT dr s c k := by
  cases c with
  | region id ops draw => cases draw <;> rfl
  | _ => rfl
theorem exItem_eq {dr : ES → Nat → Array Oper → List IM → EO} {s : ES} : exItem P FT dr s = exItem0 P FT dr s := by
  unfold exItem exItem0
  cases s.top.todo with
  | nil => rfl
  | cons x k =>
    cases x with
    | it x =>
      cases x with
      | code c => exact exCode_eq
      | _ => rfl
    | ops ops l => cases l <;> rfl
    | _ => rfl
noncomputable def exStep (P : Program) (FT : Tr FI) (fid : FuncId) (dr : ES → Nat → Array Oper → List IM → EO) (s : ES) : EO := match s.top.ret with
  | true => exRet P FT fid s
  | false => exItem P FT dr s
theorem range_map (ops : Array Oper) : (List.range ops.size).map (ops[·]?) = ops.toList.map some := by
  apply List.ext_getElem?
  intro j
  rw [List.getElem?_map, List.getElem?_map]
  by_cases h : j < ops.size
  · simp [h]
  · simp [h]
theorem exStep_ok (hF : FTok P FT) {dr : ES → Nat → Array Oper → List IM → EO} (hdr : DrOk P dr) {s : ES} {m : Machine} (h : MR γ w0 cs s m) : SOk P γ w0 cs fid m (exStep P FT fid dr s) := by
  obtain ⟨fr, frs, w, rfl, ⟨tmps, todo, ds, ro, rfl, h1, h2, h3, h4, h5⟩, hfs, hH⟩ := h
  unfold exStep
  split
  · rename_i hret
    have := exRet_ok (fid := fid) (cs := cs) hF hret h1 h2 h3 h4 h5 hfs hH
    simpa [fram, hret, modeOf] using this
  rename_i hret
  rw [show modeOf s.top.ret = .run from by rw [hret]; rfl]
  show SOk P γ w0 cs fid (lone (fram s.top.fn tmps todo ds ro) (frs ++ cs) w) _
  have pop : ∀ {k : List IM} {todo' : List Item}, All2 (IR γ) k todo' → Steps P (lone (fram s.top.fn tmps todo ds ro) (frs ++ cs) w) (lone (fram s.top.fn tmps todo' ds ro) (frs ++ cs) w) → SOk P γ w0 cs fid (lone (fram s.top.fn tmps todo ds ro) (frs ++ cs) w) (popTo s k) :=
    fun hk hs => pop_ok hret h1 h2 hk h4 h5 hfs hH hs
  rw [exItem_eq]; unfold exItem0
  split
  · rename_i htodo
    rw [htodo] at h3
    cases h3
    exact leave_ok hret h1 h2 (by rw [htodo]; exact .nil) h4 h5 hfs hH (.inl ⟨rfl, rfl⟩) (fun _ => .inl rfl)
  · rename_i c k htodo
    have h3' := h3
    rw [htodo] at h3'
    cases h3' with
    | @cons _ _ _ todo' hi hk =>
      cases hi
      unfold exCode0
      split
      · exact pop hk (.one st_skip)
      · exact pop hk (.one st_label)
      · exact leave_ok hret h1 h2 h3 h4 h5 hfs hH (.inr (.inl ⟨_, rfl, rfl⟩)) (fun _ => .inr ⟨_, rfl⟩)
      · exact pop (.cons (.it _) (.cons (.it _) hk)) (.one st_seq)
      · split
        · rename_i c a b t hc
          rw [bc_eq]
          exact pop (.cons (.it _) hk) (.one (st_cond (ec_v (exVal_ok h2 hc))))
        · trivial
      · exact pop (.cons (.it _) (.cons (.it _) hk)) (.one st_block)
      · exact pop (.cons (.it _) (.cons (.it _) hk)) (.one st_loop)
      · exact pop (.cons (.it _) (.cons (.it _) hk)) (.one st_scope)
      · rename_i id
        obtain ⟨q1, q2⟩ := eExit_ok (id := id) hk
        split
        · rename_i k' hk'
          obtain ⟨todo2, e1, e2⟩ := q1 k' hk'
          exact pop e2 (.one (st_exit e1))
        · rename_i hk'
          exact leave_ok hret h1 h2 h3 h4 h5 hfs hH (.inr (.inr ⟨_, _, rfl, q2 hk', rfl⟩)) (fun e => by cases e)
      · split
        · exact pop (.cons (.ops _ _ _ (range_map _)) hk) (.one st_region)
        · exact hdr γ w0 w cs fid s _ _ k tmps _ ds ro frs hret h1 h2 hk h4 h5 hfs hH
      · exact exRF_ok hF hret h1 h2 hk h4 h5 hfs hH
      · trivial
  · rename_i id k htodo
    rw [htodo] at h3
    cases h3 with
    | cons hi hk => cases hi; exact pop hk (.one st_inBlock)
  · rename_i id k htodo
    rw [htodo] at h3
    cases h3 with
    | cons hi hk => cases hi; exact pop hk (.one st_inScope)
  · rename_i id k htodo
    rw [htodo] at h3
    cases h3 with
    | cons hi hk => cases hi; exact pop (.cons (.it _) (.cons (.it _) hk)) (.one st_inLoop)
  · rename_i k htodo
    rw [htodo] at h3
    cases h3 with
    | @cons _ _ _ todo' hi hk =>
      cases hi
      split
      case h_2 => trivial
      rename_i l hround
      have h5' := h5
      rw [hround] at h5
      obtain ⟨b, m, hγ, rfl⟩ := h5
      split
      case h_2 => trivial
      rename_i pend fn N T ps as bd dd hg
      rw [bc_eq]
      split
      case isFalse => trivial
      rename_i hl
      obtain ⟨ts, d, q, g1, g2, g3, g4⟩ := getLoop_of hH hg hγ
      have hb := (Array.getElem?_eq_some_iff.1 g1).1
      have hH2 := hH.putObj hl hg hγ (.loop { state := .busy, pending := pend, fn := fn, tmps := ts, params := ps, assign := as, body := bd, defers := d.k }) (.loop .busy pend fn N T ps as bd dd) hb ⟨ts, d, q, World.putObj_heap_same hb, g2, g3, g4⟩
      exact ⟨γ, _, GLe.refl γ, .one (st_beginRound g1 rfl), _, frs, _, rfl, ⟨tmps, _, ds, some b.k, by simp [fram, hret, modeOf], h1, h2, hk, h4, h5'⟩, hfs, hH2⟩
  · rename_i ops k htodo
    rw [htodo] at h3
    cases h3 with
    | cons hi hk =>
      cases hi with
      | ops _ _ idx hidx =>
        have : idx = [] := by cases idx with
          | nil => rfl
          | cons i r => simp at hidx
        subst this
        exact pop hk (.one st_regionEnd)
  · rename_i ops o l k htodo
    exact exOps_ok hF hret htodo h1 h2 h3 h4 h5 hfs hH
  · rename_i l k htodo
    rw [htodo] at h3
    cases h3 with
    | @cons _ _ _ todo' hi hk =>
      cases hi with
      | endRF _ b m hγ =>
        split
        case h_2 => trivial
        rename_i st pend fn N T ps as bd dd hg
        split
        · trivial
        rename_i hst
        rw [bc_eq]
        split
        case isFalse => trivial
        rename_i hl
        obtain ⟨ts, d, q, g1, g2, g3, g4⟩ := getLoop_of hH hg hγ
        have hb := (Array.getElem?_eq_some_iff.1 g1).1
        have hH2 := hH.putObj hl hg hγ (.loop { state := .exhausted, pending := pend, fn := fn, tmps := ts, params := ps, assign := as, body := bd, defers := d.k }) (.loop .exhausted pend fn N T ps as bd dd) hb ⟨ts, d, q, World.putObj_heap_same hb, g2, g3, g4⟩
        refine ⟨γ, _, GLe.refl γ, .one (st_endLoop g1 hst), _, frs, _, rfl, ⟨tmps, (pend.map Item.code).toList ++ todo', ds, ro, by simp [fram, hret, modeOf], h1, h2, ?_, h4, h5⟩, hfs, hH2⟩
        cases pend with
        | none => exact hk
        | some c => exact .cons (.it _) hk
  · trivial
/-! ### runs -/
noncomputable def exRun (st : ES → EO) (k : Nat) : ES → EO := Nat.rec (fun s => st s) (fun _ ih s => EO.rec (fun s' => ih s') (fun a H n => .done a H n) (fun b H n => .doneR b H n) .fail (ih s)) k
theorem SOk.trans {γ γ' : G} {m m' : Machine} (hle : GLe γ γ') (hs : Steps P m m') {e : EO} (h : SOk P γ' w0 cs fid m' e) : SOk P γ w0 cs fid m e := by
  cases e with
  | go s => obtain ⟨γ2, m2, h1, h2, h3⟩ := h; exact ⟨γ2, m2, hle.trans h1, hs.trans h2, h3⟩
  | done a H n => obtain ⟨γ2, fr', w', v, h1, h2, h3⟩ := h; exact ⟨γ2, fr', w', v, hle.trans h1, hs.trans h2, h3⟩
  | doneR b H n => intro c r hcr; obtain ⟨γ2, w', h1, h2, h3⟩ := h c r hcr; exact ⟨γ2, w', hle.trans h1, hs.trans h2, h3⟩
  | fail => trivial
theorem exRun_ok {st : ES → EO} (hst : ∀ (γ : G) (s : ES) (m : Machine), MR γ w0 cs s m → SOk P γ w0 cs fid m (st s)) : ∀ (k : Nat) (γ : G) (s : ES) (m : Machine), MR γ w0 cs s m → SOk P γ w0 cs fid m (exRun st k s)
  | 0, γ, s, m, h => hst γ s m h
  | k + 1, γ, s, m, h => by
    have h1 := exRun_ok hst k γ s m h
    show SOk P γ w0 cs fid m (EO.rec (fun s' => exRun st k s') (fun a H n => .done a H n) (fun b H n => .doneR b H n) .fail (exRun st k s))
    cases hr : exRun st k s with
    | go s' =>
      rw [hr] at h1
      obtain ⟨γ', m', hle, hs, hm⟩ := h1
      exact SOk.trans hle hs (exRun_ok hst k γ' s' m' hm)
    | done a H n => rw [hr] at h1; exact h1
    | doneR b H n => rw [hr] at h1; exact h1
    | fail => trivial
/-- no region that draws its order is reckoned -/
noncomputable def noDraw : ES → Nat → Array Oper → List IM → EO := fun _ _ _ _ => .fail
theorem noDraw_ok : DrOk P noDraw := fun _ _ _ _ _ _ _ _ _ _ _ _ _ _ _ _ _ _ _ _ _ _ => trivial
/-- a call without arguments is reckoned -/
noncomputable def exClosed (P : Program) (FT : Tr FI) (dr : ES → Nat → Array Oper → List IM → EO) (f : FuncId) (k : Nat) : EO := match exEnter FT f [] with
  | some e => exRun (exStep P FT f dr) k ⟨e, [], .nil, 0⟩
  | none => .fail
theorem closed (hF : FTok P FT) {dr : ES → Nat → Array Oper → List IM → EO} (hdr : DrOk P dr) {f : FuncId} {k : Nat} {a : EV} {H : Tr EK} {n : Nat} (h : exClosed P FT dr f k = .done a H n) (w : World) :
    Calls P f #[] w fun e w' => ∃ v γ, e = .returned v ∧ EC γ a v ∧ Stays w w' := by
  intro cs
  unfold exClosed at h
  split at h
  case h_2 => cases h
  rename_i e he
  have hE := exEnter_ok (γ := fun _ => none) hF (args := []) (vs := #[]) (ECL.nil _) he
  have hM : MR (fun _ => none) (Bs.of w) cs ⟨e, [], .nil, 0⟩ (lone (Frame.enter P f #[] .normal) cs w) :=
    ⟨_, [], w, rfl, hE.1, .nil, ⟨(fun i k hk => by cases hk), (fun i j ki kj hi => by cases hi), (fun _ _ => rfl), (fun i hi => hi.elim), (fun i p hp => by cases hp), ⟨rfl, rfl, rfl, Nat.le_refl _, fun _ _ => rfl⟩⟩⟩
  have := exRun_ok (fid := f) (fun γ s m hm => exStep_ok hF hdr hm) k _ _ _ hM
  rw [h] at this
  obtain ⟨γ', fr', w', v, _, h2, h3, h4, h5, h6⟩ := this
  exact ⟨.returned v, w', fr', ⟨v, γ', rfl, h5, staysOf h6.stays⟩, h2, h3, h4⟩
end Go.Proofs.Ytcgopcfbgkhpgaa.Ev
