/-
  Regions that draw, walked by hand: each operation's blocks are of its classes; unordered ones, one of which writes, share no class.
-/
import Derived.Test.YtkdhgablioljnaaAhXp
import Derived.Test.YtkdhgablioljnaaAhOwn
set_option linter.unusedSimpArgs false
set_option linter.unusedVariables false
set_option linter.unusedSectionVars false
namespace Go.AH
open Go

def isAppM : Op → Bool | .call { callee := .builtin .append, .. } => true | _ => false
def plainOp : Op → Bool
  | .call { callee := .value _, .. } => false
  | .call { callee := .invoke _ _, .. } => false
  | _ => true
def roAt (ops : Array Oper) (i : Nat) : Bool := match ops[i]? with | some o => (wrOf o.op).isEmpty | none => true
def clsOk (ops : Array Oper) (ms : List Nat) (cl : List (List Nat)) : Bool :=
  (List.range ops.size).all fun i => (List.range i).all fun j => tb (ms.getD i 0) j || (roAt ops i && roAt ops j) || (cl.getD i []).all fun c => !(cl.getD j []).contains c
def drawM (P : Program) (ops : Array Oper) (fl : List Nat) (cl : List (List Nat)) : Bool :=
  ordM P (ancMs [] ops.toList) ops fl (List.range ops.size) && clsOk ops (ancMs [] ops.toList) cl && ops.toList.all fun o => (plainOp o.op || flag fl o) && o.guard.isNone
/-- Calls told ahead: what they hand back hangs on the arguments alone, and they turn nothing. -/
noncomputable def gamTold (Γ : Gam) : Told := ⟨none, fun c _ => match c with | f :: xs => (gamGet Γ f xs).map .ret | [] => none, fun _ _ => False⟩
noncomputable def gamAnn (Γ : Gam) (fl : List Nat) : Ann := fun d => if fl.contains d = true then some (gamTold Γ) else none
noncomputable def valM (Γ : Gam) (t : AF) : Op → Option AV
  | .call { callee := .value f, args, .. } => gamGet Γ (evalA t f) (args.toList.map (evalA t))
  | _ => none
theorem gamTell {P : Program} {Γ : Gam} (hΓ : Γ.ok P) (fl : List Nat) : TellOk P (gamAnn Γ fl) := by
  intro d q e
  unfold gamAnn at e
  split at e
  · cases e
    refine ⟨fun c => ⟨fun h p e => ?_, fun _ _ _ => rfl, fun _ _ _ _ q => q.elim, ⟨0, fun _ _ q => q⟩⟩, ?_⟩
    · simp only [gamTold] at e
      split at e
      · obtain ⟨r, _, rfl⟩ := Option.map_eq_some_iff.1 e
        exact .inl rfl
      · cases e
    · intro o t c h p K hd hk hX hr
      simp only [gamTold] at hX hk
      split at hX
      · next f xs =>
        obtain ⟨r, hg, rfl⟩ := Option.map_eq_some_iff.1 hX
        have hp := gamGet_ok hΓ hg
        refine .inl ?_
        unfold keyOf at hk
        split at hk
        · next f' args heq =>
          simp only [Option.some.injEq, Prod.mk.injEq, List.cons.injEq, true_and] at hk
          obtain ⟨h1, h2⟩ := hk
          unfold opRes
          rw [heq]
          simp only
          rw [h1, h2]
          exact hp.use hr
        · simp at hk
        · cases hk
      · cases hX
  · cases e

section
variable {P : Program} {t : AF} {h : AHeap}

theorem offApp_no' {t : AF} {op : Op} (hna : isAppM op = false) : offApp t op = false := by
  unfold offApp
  split
  · cases hna
  · rfl

noncomputable def stepN (P : Program) (o : Oper) (K : AF → AHeap → Prop) (t : AF) (h : AHeap) : Prop :=
  match isAppM o.op with
  | true => onSome (planA P t h o.op) fun p => p.runK h fun r h' => K (t.putO o.dst r) h'
  | false => opStep P o K t h
noncomputable def stepM (P : Program) (Γ : Gam) (fl : List Nat) (o : Oper) (K : AF → AHeap → Prop) (t : AF) (h : AHeap) : Prop :=
  if flag fl o = true then onSome (valM Γ t o.op) fun v => K (t.putO o.dst v) h else stepN P o K t h
noncomputable def runM (P : Program) (Γ : Gam) (fl : List Nat) (cls : Nat → Nat) (K : AF → AHeap → Prop) : List Oper → List (List Nat) → AF → AHeap → Prop
  | [], _, t, h => K t h
  | o :: L, cl, t, h => (∀ b ∈ accA P t o.op, cls b ∈ cl.headD []) ∧ stepM P Γ fl o (runM P Γ fl cls K L cl.tail) t h

theorem stepM_plan {Γ : Gam} {fl : List Nat} {ops : Array Oper} {o : Oper} (hp : (plainOp o.op || flag fl o) = true) (hg : o.guard = none) {K : AF → AHeap → Prop} (e : stepM P Γ fl o K t h) :
    ∃ p, planD P (gamAnn Γ fl) fl ops o t h = some p ∧ (p.runK h fun r h' => K (t.putO o.dst r) h') ∧ (∀ b ∈ wrB p, b ∈ accA P t o.op) ∧ (∀ b, accD P (gamAnn Γ fl) fl ops o t b → b ∈ accA P t o.op) ∧ ((wrOf o.op).isEmpty = true → wrB p = []) ∧ hvy fl o = false := by
  have hw : wantedA ops t o = some true := by unfold wantedA; rw [hg]
  unfold stepM at e
  split at e
  · next hf =>
    cases hq : valM Γ t o.op with
    | none => rw [hq] at e; exact e.elim
    | some v =>
      rw [hq] at e
      unfold valM at hq
      split at hq
      · next f args _ heq =>
        have hd : ∃ d, o.dst = some d ∧ fl.contains d = true := by
          unfold flag at hf
          split at hf
          · next d hd => exact ⟨d, hd, hf⟩
          · cases hf
        obtain ⟨d, hd, hd2⟩ := hd
        have hk : keyOf o t = some (none, evalA t f :: args.toList.map (evalA t)) := by unfold keyOf; rw [heq]
        have hA : o.dst.bind (gamAnn Γ fl) = some (gamTold Γ) := by rw [hd]; show gamAnn Γ fl d = _; unfold gamAnn; rw [if_pos hd2]
        have htq : toldQ (gamAnn Γ fl) o t = some (gamTold Γ, evalA t f :: args.toList.map (evalA t)) := by
          unfold toldQ
          rw [hk, hA]
          show (if (none : Option (List TypeId)) = none then _ else none) = _
          rw [if_pos rfl]
        refine ⟨.ret v, ?_, e, (fun b hb => nomatch hb), fun b hb => ?_, fun _ => rfl, ?_⟩
        · unfold planD
          rw [hw]
          simp only [hf, if_true]
          unfold toldV
          rw [htq]
          show (gamGet Γ (evalA t f) (args.toList.map (evalA t))).map Plan.ret = _
          rw [hq]; rfl
        · have := hb.2
          rw [if_pos hf] at this
          unfold toldX at this
          rw [htq] at this
          exact this.elim
        · unfold hvy; rw [hf]; simp
      · cases hq
  · next hf =>
    have hf : flag fl o = false := by simpa using hf
    have hpl : plainOp o.op = true := by rw [hf] at hp; simpa using hp
    unfold stepN at e
    have hv : hvy fl o = false := by
      unfold hvy
      have : isCallV o.op = false := by
        unfold plainOp at hpl
        unfold isCallV
        split
        · next heq => rw [heq] at hpl; cases hpl
        · rfl
      rw [this]; rfl
    have key : ∃ p, planA P t h o.op = some p ∧ p.runK h fun r h' => K (t.putO o.dst r) h' := by
      split at e
      · cases hq : planA P t h o.op with
        | none => rw [hq] at e; exact e.elim
        | some p => rw [hq] at e; exact ⟨p, rfl, e⟩
      · next hna =>
        have e' : effStep P t h o.op fun r h' => K (t.putO o.dst r) h' := by
          unfold opStep opRes at e
          split at e
          · next heq => rw [heq] at hpl; cases hpl
          · next heq => rw [heq] at hpl; cases hpl
          · exact e
        rw [← plan_iff (offApp_no' hna)] at e'
        cases hq : planA P t h o.op with
        | none => rw [hq] at e'; exact e'.elim
        | some p =>
          rw [hq] at e'
          refine ⟨p, rfl, ?_⟩
          unfold Plan.runK
          split
          · next b c h1 h2 =>
            obtain ⟨args, ats, s, x, ts, tx, el, es, by_, z, k, xs, n, cs, ho, _⟩ := plan_move hq h1
            rw [ho] at hna
            cases hna
          · exact e'
    obtain ⟨p, hq, hk⟩ := key
    refine ⟨p, ?_, hk, fun b hb => ?_, fun b hb => ?_, fun q => ?_, hv⟩
    · unfold planD; rw [hw]; simp [hf, hq]
    · rcases plan_shape hq with q | ⟨b', c, q, _, q3⟩ | ⟨b', c, q, _, q3⟩
      · simp [wrB, q] at hb
      · simp [wrB, q] at hb; subst hb; exact q3
      · simp [wrB, q] at hb; subst hb; exact q3
    · have := hb.2; simpa [hf] using this
    · have hw' := (plan_wr (f := t) hq).1
      have hn : wrOf o.op = [] := by simpa using q
      rw [hn] at hw'
      cases hh : wrB p with
      | nil => rfl
      | cons b bs =>
        obtain ⟨x, hx, _⟩ := hw' b (by rw [hh]; simp)
        cases hx

theorem runM_runL {Γ : Gam} {fl : List Nat} {ops : Array Oper} {cls : Nat → Nat} {K : AF → AHeap → Prop} {cl : List (List Nat)} {ms : List Nat} (hms : MasksOk ops ms) (hc : clsOk ops ms cl = true) (hpl : ops.toList.all (fun o => (plainOp o.op || flag fl o) && o.guard.isNone) = true) :
    ∀ (L : List Oper) (i : Nat) (log : List Ent) (t : AF) (h : AHeap), ops.toList.drop i = L → i + L.length = ops.size →
      (∀ e ∈ log, e.i < i ∧ (∀ b, e.acc b → cls b ∈ cl.getD e.i []) ∧ (∀ b ∈ e.wr, cls b ∈ cl.getD e.i []) ∧ (roAt ops e.i = true → e.wr = [])) →
      runM P Γ fl cls K L (cl.drop i) t h → runL P (gamAnn Γ fl) fl ops K (List.range' i L.length) log t h
  | [], i, log, t, h, hL, hs, hlog, e => e
  | o :: L, i, log, t, h, hL, hs, hlog, e => by
    have hi : i < ops.size := by simp at hs; omega
    have hoi : ops[i]? = some o := by
      have : ops.toList[i]? = some o := by rw [← List.head?_drop, hL]; rfl
      simpa using this
    have hpo : (plainOp o.op || flag fl o) = true ∧ o.guard.isNone = true := by
      have := List.all_eq_true.1 hpl o (by
        have : o ∈ ops.toList.drop i := by rw [hL]; simp
        exact List.mem_of_mem_drop this)
      simpa only [Bool.and_eq_true] using this
    have hg : o.guard = none := by simpa using hpo.2
    obtain ⟨e1, e2⟩ := e
    obtain ⟨p, hpd, hk, hwr, hacc, hro', hv⟩ := stepM_plan (ops := ops) hpo.1 hg e2
    have hcl : (cl.drop i).headD [] = cl.getD i [] := by rw [List.headD_eq_head?_getD, List.head?_drop, List.getD_eq_getElem?_getD]
    rw [hcl] at e1
    have hro : roAt ops i = true → wrB p = [] := fun q => by
      unfold roAt at q
      rw [hoi] at q
      exact hro' q
    show runL P (gamAnn Γ fl) fl ops K (List.range' i (L.length + 1)) log t h
    rw [List.range'_succ]
    refine ⟨o, hoi, ?_⟩
    rw [if_neg (by rw [hv]; simp)]
    refine ⟨p, hpd, fun e he => ?_, ?_⟩
    · obtain ⟨l1, l2, l3, l4⟩ := hlog e he
      have hci := List.all_eq_true.1 (List.all_eq_true.1 hc i (by simpa using hi)) e.i (by simpa using l1)
      simp only [Bool.or_eq_true, Bool.and_eq_true] at hci
      rcases hci with (q | ⟨q1, q2⟩) | q
      · exact .inl (hms.anc q)
      · refine .inr ⟨fun b hb => ?_, fun b hb => ?_⟩
        · rw [hro q1] at hb; cases hb
        · rw [l4 q2] at hb; cases hb
      · refine .inr ⟨fun b hb ha => ?_, fun b hb ha => ?_⟩
        · have h1 := e1 b (hwr b hb)
          have h2 := l2 b ha
          have := List.all_eq_true.1 q _ h1
          simp at this
          exact this h2
        · have h1 := e1 b (hacc b ha)
          have h2 := l3 b hb
          have := List.all_eq_true.1 q _ h1
          simp at this
          exact this h2
    · refine runK_mono hk fun v h' k => ?_
      refine runM_runL hms hc hpl L (i + 1) _ _ _ (by rw [← List.tail_drop, hL]; rfl) (by simp at hs; omega) (fun e he => ?_) (by rw [← List.tail_drop]; exact k)
      rcases List.mem_cons.1 he with rfl | he
      · exact ⟨by simp, fun b hb => e1 b (hacc b hb), fun b hb => e1 b (hwr b hb), hro⟩
      · obtain ⟨l1, l2, l3, l4⟩ := hlog e he
        exact ⟨by omega, l2, l3, l4⟩

/-- **A region that draws its order**, with stores and appends, and calls that are told ahead: the text's order serves if unordered operations, one of which writes, touch other classes of blocks. -/
theorem awp_drawMG {N : Nat} {ro : Option Nat} {id : Nat} {Q : Exit → AF → AHeap → Prop} {l : List Oper} (hm : P.follows .mixedOrders = true) (fl : List Nat) (Γ : Gam) (cls : Nat → Nat) (cl : List (List Nat)) (hk : opsOk N l.toArray = true) (hd : drawM P l.toArray fl cl = true) (hΓ : Γ.ok P)
    (e : runM P Γ fl cls (Q .normal) l cl t h) : AWP P ro N (.region id l.toArray true) Q t h := by
  simp only [drawM, Bool.and_eq_true] at hd
  have hms := masks_ok l.toArray
  refine awp_drawL (A := gamAnn Γ fl) hm fl (List.range l.toArray.size) hk (ordM_spec hms hd.1.1) (gamTell hΓ fl) ?_
  have := runM_runL (P := P) (Γ := Γ) (fl := fl) (K := Q .normal) (cls := cls) hms hd.1.2 hd.2 l 0 [] t h (by simp) (by simp) (by simp) (by simpa using e)
  rw [List.range_eq_range']
  simpa using this
theorem awp_drawM {N : Nat} {ro : Option Nat} {id : Nat} {Q : Exit → AF → AHeap → Prop} {l : List Oper} (hm : P.follows .mixedOrders = true) (cls : Nat → Nat) (cl : List (List Nat)) (hk : opsOk N l.toArray = true) (hd : drawM P l.toArray [] cl = true)
    (e : runM P [] [] cls (Q .normal) l cl t h) : AWP P ro N (.region id l.toArray true) Q t h := awp_drawMG hm [] [] cls cl hk hd trivial e

/-! ### As rewrite rules -/
variable {Γ : Gam} {fl : List Nat} {cls : Nat → Nat} {K : AF → AHeap → Prop} {d : Option Nat} {op : Op} {ty : TypeId} {pos : String} {af : Array Edge} {g : Option (Nat × Bool)}
@[simp] theorem runM_nil {cl : List (List Nat)} : runM P Γ fl cls K [] cl t h = K t h := nrfl rfl
theorem runM_cons {o : Oper} {L : List Oper} {c : List Nat} {cl : List (List Nat)} : runM P Γ fl cls K (o :: L) (c :: cl) t h = ((∀ b ∈ accA P t o.op, cls b ∈ c) ∧ stepM P Γ fl o (runM P Γ fl cls K L cl) t h) := rfl
theorem runM_congr {t' : AF} {h' : AHeap} {L : List Oper} {cl : List (List Nat)} (e : keep t = t') (e' : h = h') : runM P Γ fl cls K L cl t h = runM P Γ fl cls K L cl t' h' := by rw [← e, e', keep_eq]
theorem stepM_congr {t' : AF} {h' : AHeap} {o : Oper} (e : keep t = t') (e' : h = h') : stepM P Γ fl o K t h = stepM P Γ fl o K t' h' := by rw [← e, e', keep_eq]
theorem stepN_congr {t' : AF} {h' : AHeap} {o : Oper} (e : keep t = t') (e' : h = h') : stepN P o K t h = stepN P o K t' h' := by rw [← e, e', keep_eq]
@[simp] theorem stepM_flag : stepM P Γ fl { dst := d, op := op, type := ty, pos := pos, after := af, guard := g } K t h =
    if flag fl { dst := d, op := op, type := ty, pos := pos, after := af, guard := g } = true then onSome (valM Γ t op) fun v => K (t.putO d v) h else stepN P { dst := d, op := op, type := ty, pos := pos, after := af, guard := g } K t h := nrfl rfl
@[simp] theorem valM_call {f : Operand} {args : Array Operand} {ats : Array TypeId} : valM Γ t (.call { callee := .value f, args := args, argTypes := ats }) = gamGet Γ (evalA t f) (args.toList.map (evalA t)) := nrfl rfl
@[simp] theorem accM_call {f : Operand} {args : Array Operand} {ats : Array TypeId} : accA P t (.call { callee := .value f, args := args, argTypes := ats }) = [] := nrfl rfl
def appendK (h : AHeap) (es : Nat) (s : AV) (k : Nat) (xs : List AV) (K : AV → AHeap → Prop) : Prop := match s with
  | .nilsl => (k = 0 → K .nilsl h) ∧ (k ≠ 0 → k < 2 ^ 30 ∧ newA h (.cells xs) fun b h' => K (.osl b 0 k es) h')
  | .osl b 0 n es' => es' = es ∧ n + k < 2 ^ 30 ∧ onSome (cellsAt h b 0) fun cs => cs.length = n * es ∧ (K (.osl b 0 (n + k) es) (h.upd b (.cells (cs ++ xs))) ∧ newA h (.cells (cs ++ xs)) fun b' h' => K (.osl b' 0 (n + k) es) h')
  | _ => False
theorem appendK_congr {es k k' : Nat} {s s' : AV} {xs xs' : List AV} {h' : AHeap} {K : AV → AHeap → Prop} (eh : keep h = h') (el : s = s') (ek : k = k') (ec : xs = xs') : appendK h es s k xs K = appendK h' es s' k' xs' K := by rw [← eh, el, ek, ec, keep_eq]
theorem appK_aux {c : Option Chunk} {es' es n k : Nat} {X : List AV → Prop} {mk : List AV → Plan} {R : Plan → Prop} (hX : ∀ cs, R (mk cs) = X cs) :
    onSome (match c with | some (.cells cs) => if es' = es ∧ n + k < 2 ^ 30 ∧ cs.length = n * es then some (mk cs) else none | _ => none) R =
      (es' = es ∧ n + k < 2 ^ 30 ∧ onSome (match c with | some (.cells cs) => some (cs.drop 0) | _ => none) fun cs => cs.length = n * es ∧ X cs) := by
  cases c with
  | none => exact propext ⟨fun f => False.elim f, fun f => False.elim f.2.2⟩
  | some c =>
    cases c with
    | cells cs =>
      show onSome (if es' = es ∧ n + k < 2 ^ 30 ∧ cs.length = n * es then some (mk cs) else none) R = (es' = es ∧ n + k < 2 ^ 30 ∧ cs.length = n * es ∧ X cs)
      by_cases q : es' = es ∧ n + k < 2 ^ 30 ∧ cs.length = n * es
      · rw [if_pos q]
        have e := hX cs
        exact propext ⟨fun f => ⟨q.1, q.2.1, q.2.2, e.mp f⟩, fun f => e.mpr f.2.2.2⟩
      · rw [if_neg q]
        exact propext ⟨fun f => False.elim f, fun f => q ⟨f.1, f.2.1, f.2.2.1⟩⟩
    | _ => exact propext ⟨fun f => False.elim f, fun f => False.elim f.2.2⟩
theorem stepN_append {s x : Operand} {ts tx : TypeId} : stepN P { dst := d, op := .call { callee := .builtin .append, args := #[s, x], argTypes := #[ts, tx] }, type := ty, pos := pos, after := af, guard := g } K t h =
    onSome (elemT P ts) fun e => rowT P tx = true ∧ onSome (appXs h e.2.1 (evalA t x)) fun q => appendK h e.2.1 (evalA t s) q.1 q.2 fun r h' => K (t.putO d r) h' := by
  simp only [stepN, isAppM, planA]
  cases elemT P ts with
  | none => rfl
  | some e =>
    obtain ⟨e0, es, by_, z⟩ := e
    simp only [onSome_some]
    by_cases hr : rowT P tx = true
    · rw [if_pos hr]
      cases appXs h es (evalA t x) with
      | none => simp [onSome]
      | some q =>
        obtain ⟨k, xs⟩ := q
        simp only [onSome_some, hr, true_and, appendK]
        cases evalA t s <;> first | rfl | skip
        · by_cases k0 : k = 0
          · subst k0; simp [onSome, Plan.runK, Plan.ret, Plan.run, Plan.heap]
          · by_cases k1 : k < 2 ^ 30
            · simp [k0, k1, onSome, Plan.runK, Plan.new, Plan.run, Plan.heap, newA, Fresh]
            · simp [k0, k1, onSome]
        · rename_i b off n es'
          cases off with
          | succ n => rfl
          | zero =>
            exact appK_aux (c := h b) (mk := fun cs => ⟨fun b' => .osl b' 0 (n + k) es, some (b, none), some (.cells (cs ++ xs))⟩) fun cs => rfl
    · rw [if_neg hr]
      simp [onSome, hr]
/-- An append to a list in either form: in place or in a fresh block, whatever stays behind. -/
theorem appendK_own {o : Option Nat} {n es k : Nat} {cs xs : List AV} {K : AV → AHeap → Prop} (hk : 0 < k) (hn : n + k < 1073741824) (he : o = none → n = 0 ∧ cs = []) (hl : cs.length = n * es) (hc : ∀ b, o = some b → h b = some (.cells cs))
    (q : ∀ b, (o = some b ∨ Fresh h b) → K (.osl b 0 (n + k) es) (h.upd b (.cells (cs ++ xs)))) : appendK h es (ownV o n es) k xs K := by
  cases o with
  | none =>
    obtain ⟨rfl, rfl⟩ := he rfl
    rw [ownV_none]
    refine ⟨fun e => by omega, fun _ => ⟨by omega, fun b hb => ?_⟩⟩
    have := q b (.inr hb)
    rw [Nat.zero_add] at this
    exact this
  | some x =>
    rw [ownV_some]
    refine ⟨rfl, by omega, ?_⟩
    rw [cellsAt_eq (hc x rfl), List.drop_zero]
    exact ⟨hl, q x (.inl rfl), fun b hb => q b (.inr hb)⟩
@[simp] theorem stepN_load {lt : TypeId} {x : Operand} : stepN P { dst := d, op := .load lt x, type := ty, pos := pos, after := af, guard := g } K t h = opStep P { dst := d, op := .load lt x, type := ty, pos := pos, after := af, guard := g } K t h := nrfl rfl
@[simp] theorem stepN_store {st : TypeId} {a x : Operand} : stepN P { dst := d, op := .store st a x, type := ty, pos := pos, after := af, guard := g } K t h = opStep P { dst := d, op := .store st a x, type := ty, pos := pos, after := af, guard := g } K t h := nrfl rfl
@[simp] theorem stepN_fieldAddr {st : TypeId} {x : Operand} {f : Nat} : stepN P { dst := d, op := .fieldAddr st x f, type := ty, pos := pos, after := af, guard := g } K t h = opStep P { dst := d, op := .fieldAddr st x f, type := ty, pos := pos, after := af, guard := g } K t h := nrfl rfl
@[simp] theorem stepN_indexAddr {xt : TypeId} {x i : Operand} : stepN P { dst := d, op := .indexAddr xt x i, type := ty, pos := pos, after := af, guard := g } K t h = opStep P { dst := d, op := .indexAddr xt x i, type := ty, pos := pos, after := af, guard := g } K t h := nrfl rfl
@[simp] theorem stepN_nilCheck {x : Operand} : stepN P { dst := d, op := .nilCheck x, type := ty, pos := pos, after := af, guard := g } K t h = opStep P { dst := d, op := .nilCheck x, type := ty, pos := pos, after := af, guard := g } K t h := nrfl rfl
@[simp] theorem stepN_move {x : Operand} : stepN P { dst := d, op := .move x, type := ty, pos := pos, after := af, guard := g } K t h = opStep P { dst := d, op := .move x, type := ty, pos := pos, after := af, guard := g } K t h := nrfl rfl
@[simp] theorem stepN_assign {x : Operand} : stepN P { dst := d, op := .assign x, type := ty, pos := pos, after := af, guard := g } K t h = opStep P { dst := d, op := .assign x, type := ty, pos := pos, after := af, guard := g } K t h := nrfl rfl
@[simp] theorem stepN_binOp {bo : BinOp} {xt yt : TypeId} {x y : Operand} : stepN P { dst := d, op := .binOp bo xt x y yt, type := ty, pos := pos, after := af, guard := g } K t h = opStep P { dst := d, op := .binOp bo xt x y yt, type := ty, pos := pos, after := af, guard := g } K t h := nrfl rfl
@[simp] theorem stepN_unOp {bo : UnOp} {xt : TypeId} {x : Operand} : stepN P { dst := d, op := .unOp bo xt x, type := ty, pos := pos, after := af, guard := g } K t h = opStep P { dst := d, op := .unOp bo xt x, type := ty, pos := pos, after := af, guard := g } K t h := nrfl rfl
@[simp] theorem stepN_buildSlice {bt : TypeId} {len : Nat} {parts : Array (Nat × Operand)} : stepN P { dst := d, op := .buildSlice bt len parts, type := ty, pos := pos, after := af, guard := g } K t h = opStep P { dst := d, op := .buildSlice bt len parts, type := ty, pos := pos, after := af, guard := g } K t h := nrfl rfl
theorem accM_len0 : True := trivial
@[simp] theorem stepN_len {x : Operand} {xt : TypeId} : stepN P { dst := d, op := .call { callee := .builtin .len, args := #[x], argTypes := #[xt] }, type := ty, pos := pos, after := af, guard := g } K t h = opStep P { dst := d, op := .call { callee := .builtin .len, args := #[x], argTypes := #[xt] }, type := ty, pos := pos, after := af, guard := g } K t h := nrfl rfl
@[simp] theorem stepN_alloc {e : TypeId} : stepN P { dst := d, op := .alloc e, type := ty, pos := pos, after := af, guard := g } K t h = opStep P { dst := d, op := .alloc e, type := ty, pos := pos, after := af, guard := g } K t h := nrfl rfl
@[simp] theorem stepN_box {e : TypeId} {x : Operand} : stepN P { dst := d, op := .box e x, type := ty, pos := pos, after := af, guard := g } K t h = opStep P { dst := d, op := .box e x, type := ty, pos := pos, after := af, guard := g } K t h := nrfl rfl
@[simp] theorem stepN_build {bt : TypeId} {parts : Array (Nat × Operand)} : stepN P { dst := d, op := .build bt parts, type := ty, pos := pos, after := af, guard := g } K t h = opStep P { dst := d, op := .build bt parts, type := ty, pos := pos, after := af, guard := g } K t h := nrfl rfl
@[simp] theorem stepN_index {xt : TypeId} {x i : Operand} : stepN P { dst := d, op := .index xt x i, type := ty, pos := pos, after := af, guard := g } K t h = opStep P { dst := d, op := .index xt x i, type := ty, pos := pos, after := af, guard := g } K t h := nrfl rfl
@[simp] theorem stepN_field {st : TypeId} {x : Operand} {f : Nat} : stepN P { dst := d, op := .field st x f, type := ty, pos := pos, after := af, guard := g } K t h = opStep P { dst := d, op := .field st x f, type := ty, pos := pos, after := af, guard := g } K t h := nrfl rfl
@[simp] theorem stepN_pick {c a b : Operand} : stepN P { dst := d, op := .pick c a b, type := ty, pos := pos, after := af, guard := g } K t h = opStep P { dst := d, op := .pick c a b, type := ty, pos := pos, after := af, guard := g } K t h := nrfl rfl
@[simp] theorem accM_load {lt : TypeId} {x : Operand} : accA P t (.load lt x) = blkP (evalA t x) := nrfl rfl
@[simp] theorem accM_store {st : TypeId} {a x : Operand} : accA P t (.store st a x) = blkP (evalA t a) := nrfl rfl
@[simp] theorem accM_fieldAddr {st : TypeId} {x : Operand} {f : Nat} : accA P t (.fieldAddr st x f) = [] := nrfl rfl
@[simp] theorem accM_indexAddr {xt : TypeId} {x i : Operand} : accA P t (.indexAddr xt x i) = [] := nrfl rfl
@[simp] theorem accM_nilCheck {x : Operand} : accA P t (.nilCheck x) = [] := nrfl rfl
@[simp] theorem accM_move {x : Operand} : accA P t (.move x) = [] := nrfl rfl
@[simp] theorem accM_assign {x : Operand} : accA P t (.assign x) = [] := nrfl rfl
@[simp] theorem accM_binOp {bo : BinOp} {xt yt : TypeId} {x y : Operand} : accA P t (.binOp bo xt x y yt) = [] := nrfl rfl
@[simp] theorem accM_unOp {bo : UnOp} {xt : TypeId} {x : Operand} : accA P t (.unOp bo xt x) = [] := nrfl rfl
@[simp] theorem accM_buildSlice {bt : TypeId} {len : Nat} {parts : Array (Nat × Operand)} : accA P t (.buildSlice bt len parts) = [] := nrfl rfl
@[simp] theorem accM_alloc {e : TypeId} : accA P t (.alloc e) = [] := nrfl rfl
@[simp] theorem accM_box {e : TypeId} {x : Operand} : accA P t (.box e x) = [] := nrfl rfl
@[simp] theorem accM_build {bt : TypeId} {parts : Array (Nat × Operand)} : accA P t (.build bt parts) = [] := nrfl rfl
@[simp] theorem accM_index {xt : TypeId} {x i : Operand} : accA P t (.index xt x i) = [] := nrfl rfl
@[simp] theorem accM_field {st : TypeId} {x : Operand} {f : Nat} : accA P t (.field st x f) = [] := nrfl rfl
@[simp] theorem accM_pick {c a b : Operand} : accA P t (.pick c a b) = [] := nrfl rfl
@[simp] theorem blkP_ptr {b off : Nat} : blkP (.ptr b off) = [b] := nrfl rfl
@[simp] theorem accM_append {s x : Operand} {ats : Array TypeId} : accA P t (.call { callee := .builtin .append, args := #[s, x], argTypes := ats }) = blkS (evalA t s) ++ (blkS (evalA t x) ++ []) := nrfl rfl
@[simp] theorem blkS_osl {b off n es : Nat} : blkS (.osl b off n es) = [b] := nrfl rfl
@[simp] theorem stepN_min {args : Array Operand} {ats : Array TypeId} : stepN P { dst := d, op := .call { callee := .builtin .min, args := args, argTypes := ats }, type := ty, pos := pos, after := af, guard := g } K t h = opStep P { dst := d, op := .call { callee := .builtin .min, args := args, argTypes := ats }, type := ty, pos := pos, after := af, guard := g } K t h := nrfl rfl
@[simp] theorem stepN_max {args : Array Operand} {ats : Array TypeId} : stepN P { dst := d, op := .call { callee := .builtin .max, args := args, argTypes := ats }, type := ty, pos := pos, after := af, guard := g } K t h = opStep P { dst := d, op := .call { callee := .builtin .max, args := args, argTypes := ats }, type := ty, pos := pos, after := af, guard := g } K t h := nrfl rfl
@[simp] theorem stepN_slice {xt : TypeId} {x : Operand} {lo hi : Option Operand} : stepN P { dst := d, op := .slice xt x lo hi none, type := ty, pos := pos, after := af, guard := g } K t h = opStep P { dst := d, op := .slice xt x lo hi none, type := ty, pos := pos, after := af, guard := g } K t h := nrfl rfl
@[simp] theorem stepN_convert {st dt : TypeId} {x : Operand} : stepN P { dst := d, op := .convert st dt x, type := ty, pos := pos, after := af, guard := g } K t h = opStep P { dst := d, op := .convert st dt x, type := ty, pos := pos, after := af, guard := g } K t h := nrfl rfl
@[simp] theorem stepN_makeSlice {st : TypeId} {l c : Operand} : stepN P { dst := d, op := .makeSlice st l c, type := ty, pos := pos, after := af, guard := g } K t h = opStep P { dst := d, op := .makeSlice st l c, type := ty, pos := pos, after := af, guard := g } K t h := nrfl rfl
@[simp] theorem stepN_extract {x : Operand} {i : Nat} : stepN P { dst := d, op := .extract x i, type := ty, pos := pos, after := af, guard := g } K t h = opStep P { dst := d, op := .extract x i, type := ty, pos := pos, after := af, guard := g } K t h := nrfl rfl
@[simp] theorem stepN_makeInterface {xt : TypeId} {x : Operand} : stepN P { dst := d, op := .makeInterface xt x, type := ty, pos := pos, after := af, guard := g } K t h = opStep P { dst := d, op := .makeInterface xt x, type := ty, pos := pos, after := af, guard := g } K t h := nrfl rfl
@[simp] theorem accM_min {args : Array Operand} {ats : Array TypeId} : accA P t (.call { callee := .builtin .min, args := args, argTypes := ats }) = [] := nrfl rfl
@[simp] theorem accM_max {args : Array Operand} {ats : Array TypeId} : accA P t (.call { callee := .builtin .max, args := args, argTypes := ats }) = [] := nrfl rfl
@[simp] theorem accM_makeSlice {st : TypeId} {l c : Operand} : accA P t (.makeSlice st l c) = [] := nrfl rfl
@[simp] theorem accM_extract {x : Operand} {i : Nat} : accA P t (.extract x i) = [] := nrfl rfl
@[simp] theorem accM_makeInterface {xt : TypeId} {x : Operand} : accA P t (.makeInterface xt x) = [] := nrfl rfl
attribute [simp] runM_cons stepN_append
end
attribute [congr] runM_congr stepM_congr stepN_congr appendK_congr
end Go.AH
