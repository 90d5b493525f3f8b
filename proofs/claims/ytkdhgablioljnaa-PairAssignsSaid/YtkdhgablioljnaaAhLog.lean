/-
  Regions that draw their order, in full: operations that write; what each touches is kept in a log.
-/
import Derived.Test.YtkdhgablioljnaaAhAct
import Derived.Test.YtkdhgablioljnaaAhX
import Derived.Test.YtkdhgablioljnaaAhSwap
set_option linter.unusedSimpArgs false
set_option linter.unusedVariables false
set_option linter.unusedSectionVars false
namespace Go.AH
open Go

/-- What is told of an operation ahead of a region (by its operands' values): a plan for each heap, and the blocks that it hangs on. key: none for calls, the arguments' types for appends. -/
structure Told where
  key : Option (List TypeId)
  X : List AV → AHeap → Option Plan
  ax : List AV → Nat → Prop
abbrev Ann := Nat → Option Told
def Part (G h : AHeap) : Prop := ∀ b, G b ≠ none → h b = G b

/-- A plan for each heap; the blocks that it hangs on. -/
structure PF (X : AHeap → Option Plan) (ax : Nat → Prop) : Prop where
  shape : ∀ h p, X h = some p → p.wr = none ∨ (∃ b c, p.wr = some (b, some c) ∧ p.fr = none ∧ ax b) ∨ (∃ b c, p.wr = some (b, none) ∧ p.fr = some c ∧ ax b)
  cong : ∀ h h', (∀ b, ax b → h b = h' b) → X h = X h'
  pres : ∀ h p, X h = some p → ∀ b, ax b → h b ≠ none
  bnd : ∃ N, ∀ b, N ≤ b → ¬ ax b

section
variable {h : AHeap} {ax ay : Nat → Prop} {X Y : AHeap → Option Plan} {p : Plan}

theorem runKP_iff {K : AV → AHeap → Prop} (s : p.wr = none ∨ (∃ b c, p.wr = some (b, some c) ∧ p.fr = none ∧ ax b) ∨ (∃ b c, p.wr = some (b, none) ∧ p.fr = some c ∧ ax b)) : p.runK h K ↔ ∀ v δ, Out p h v δ → K v (app h δ) := by
  rcases s with h1 | ⟨b, c, h1, h2, _⟩ | ⟨b, c, h1, h2, _⟩
  · exact runK_iff (acc := []) (.inl h1)
  · exact runK_iff (acc := [b]) (.inr (.inl ⟨b, c, h1, h2, by simp⟩))
  · exact runK_iff (acc := [b]) (.inr (.inr ⟨b, c, h1, h2, by simp⟩))
theorem outP_blk {v : AV} {d : Nat} {c : Chunk} (s : p.wr = none ∨ (∃ b c, p.wr = some (b, some c) ∧ p.fr = none ∧ ax b) ∨ (∃ b c, p.wr = some (b, none) ∧ p.fr = some c ∧ ax b)) (o : Out p h v (some (d, c))) : (d ∈ wrB p ∧ ax d) ∨ h d = none := by
  cases o with
  | new _ _ _ _ hb => exact .inr hb
  | put _ _ h1 h2 =>
    refine .inl ⟨by simp [wrB, h1], ?_⟩
    rcases s with q | ⟨b, c', q, _, m⟩ | ⟨b, c', q, _, m⟩ <;> rw [h1] at q <;> cases q
    exact m
  | inpl _ _ h1 h2 =>
    refine .inl ⟨by simp [wrB, h1], ?_⟩
    rcases s with q | ⟨b, c', q, _, m⟩ | ⟨b, c', q, _, m⟩ <;> rw [h1] at q <;> cases q
    exact m
  | move _ _ _ h1 h2 hb => exact .inr hb

theorem out_ex (fin : ∃ N, ∀ b, N ≤ b → h b = none) (sx : p.wr = none ∨ (∃ b c, p.wr = some (b, some c) ∧ p.fr = none ∧ ax b) ∨ (∃ b c, p.wr = some (b, none) ∧ p.fr = some c ∧ ax b)) (bnd : ∃ N, ∀ b, N ≤ b → ¬ ay b) :
    ∃ u δ, Out p h u δ ∧ ∀ d c, δ = some (d, c) → d ∈ wrB p ∨ ¬ ay d := by
  rcases sx with h1 | ⟨b, c, h1, h2, _⟩ | ⟨b, c, h1, h2, _⟩
  · cases h2 : p.fr with
    | none => exact ⟨_, _, .ret h1 h2, fun d c q => by cases q⟩
    | some c =>
      obtain ⟨N, hN⟩ := fin
      obtain ⟨M, hM⟩ := bnd
      refine ⟨_, _, .new c (N + M) h1 h2 (hN _ (by omega)), fun d c' q => ?_⟩
      cases q
      exact .inr (hM _ (by omega))
  · exact ⟨_, _, .put b c h1 h2, fun d c' q => by cases q; exact .inl (by simp [wrB, h1])⟩
  · exact ⟨_, _, .inpl b c h1 h2, fun d c' q => by cases q; exact .inl (by simp [wrB, h1])⟩

theorem swapG {K : AV → AV → AHeap → Prop} {C : Plan → Prop} (FX : PF X ax) (FY : PF Y ay) (fin : ∃ N, ∀ b, N ≤ b → h b = none) (cx : X h = some p) (hn1 : ∀ q, C q → ∀ b ∈ wrB p, ¬ ay b) (hn2 : ∀ q, C q → ∀ b ∈ wrB q, ¬ ax b)
    (e : p.runK h fun u h1 => ∃ q, Y h1 = some q ∧ C q ∧ q.runK h1 fun v h2 => K u v h2) : ∃ q, Y h = some q ∧ C q ∧ q.runK h fun v h1 => X h1 = some p ∧ p.runK h1 fun u h2 => K u v h2 := by
  have sp := FX.shape _ _ cx
  have px := FX.pres _ _ cx
  rw [runKP_iff sp] at e
  have cong : ∀ {δ : Option (Nat × Chunk)} {Z : AHeap → Option Plan} {az : Nat → Prop}, PF Z az → (∀ d c, δ = some (d, c) → ¬ az d) → Z (app h δ) = Z h := by
    intro δ Z az FZ hd
    refine FZ.cong _ _ fun b hb => ?_
    cases δ with
    | none => rfl
    | some q => exact app_ne fun e => hd q.1 q.2 rfl (e ▸ hb)
  obtain ⟨u0, δ0, o0, d0⟩ := out_ex fin sp FY.bnd
  obtain ⟨q, hq, cq, _⟩ := e u0 δ0 o0
  have n1 := hn1 q cq
  have n2 := hn2 q cq
  rw [cong FY fun d c hd => (d0 d c hd).elim (n1 d) id] at hq
  have sq := FY.shape _ _ hq
  have pq := FY.pres _ _ hq
  refine ⟨q, hq, cq, (runKP_iff sq).2 fun v ε oε => ?_⟩
  have dε : ∀ d c, ε = some (d, c) → ¬ ax d := by
    rintro d c rfl hm
    rcases outP_blk sq oε with ⟨q1, _⟩ | q1
    · exact n2 d q1 hm
    · exact px d hm q1
  refine ⟨(cong FX dε).trans cx, (runKP_iff sp).2 fun u δ oδ => ?_⟩
  have ne : ∀ d c d' c', δ = some (d, c) → ε = some (d', c') → d ≠ d' := by
    rintro d c d' c' rfl rfl rfl
    rcases outP_blk sp oδ with ⟨q1, q2⟩ | q1
    · rcases outP_blk sq oε with ⟨q3, q4⟩ | q3
      · exact n1 d q1 q4
      · exact px d q2 q3
    · simp [app] at q1
  have oδ' : Out p h u δ := oδ.on fun d c hd hf => by
    cases ε with
    | none => exact hf
    | some z => rwa [app_ne (ne d c z.1 z.2 hd rfl)] at hf
  have dδ : ∀ d c, δ = some (d, c) → ¬ ay d := by
    rintro d c rfl hm
    rcases outP_blk sp oδ' with ⟨q1, _⟩ | q1
    · exact n1 d q1 hm
    · exact pq d hm q1
  obtain ⟨q', hq', _, k⟩ := e u δ oδ'
  rw [cong FY dδ, hq] at hq'
  cases hq'
  have k2 := (runKP_iff sq).1 k v ε (oε.on fun d c hd hf => by
    cases δ with
    | none => exact hf
    | some z => rw [app_ne (fun e => ne z.1 z.2 d c rfl hd e.symm)]; exact hf)
  have comm : app (app h δ) ε = app (app h ε) δ := by
    cases δ with
    | none => rfl
    | some z =>
      cases ε with
      | none => rfl
      | some z' =>
        funext i
        have := ne z.1 z.2 z'.1 z'.2 rfl rfl
        simp only [app, AHeap.upd]
        by_cases i1 : i = z.1 <;> by_cases i2 : i = z'.1 <;> simp_all
  rw [← comm]; exact k2

theorem runK_mono {K K' : AV → AHeap → Prop} (e : p.runK h K) (hk : ∀ v h', K v h' → K' v h') : p.runK h K' := by
  unfold Plan.runK Plan.run at *
  repeat' split at e
  all_goals first
    | exact ⟨hk _ _ e.1, fun b hb => hk _ _ (e.2 b hb)⟩
    | exact hk _ _ e
    | exact fun b hb => hk _ _ (e b hb)
end

section
variable {P : Program} {A : Ann} {fl : List Nat} {ops : Array Oper} {t t' : AF} {h h' : AHeap} {o : Oper}

def keyOf (o : Oper) (t : AF) : Option (Option (List TypeId) × List AV) := match o.op with
  | .call { callee := .value f, args, .. } => some (none, evalA t f :: args.toList.map (evalA t))
  | .call { callee := .builtin .append, args, argTypes } => some (some argTypes.toList, args.toList.map (evalA t))
  | _ => none
def toldQ (A : Ann) (o : Oper) (t : AF) : Option (Told × List AV) := match keyOf o t, o.dst.bind A with
  | some (k, c), some q => if k = q.key then some (q, c) else none
  | _, _ => none
noncomputable def toldV (A : Ann) (o : Oper) (t : AF) (h : AHeap) : Option Plan := match toldQ A o t with | some q => q.1.X q.2 h | none => none
def toldX (A : Ann) (o : Oper) (t : AF) (b : Nat) : Prop := match toldQ A o t with | some q => q.1.ax q.2 b | none => False
noncomputable def planD (P : Program) (A : Ann) (fl : List Nat) (ops : Array Oper) (o : Oper) (t : AF) (h : AHeap) : Option Plan := match wantedA ops t o with
  | some true => if flag fl o = true then toldV A o t h else planA P t h o.op
  | some false => some (.ret (.tup []))
  | none => none
def accD (P : Program) (A : Ann) (fl : List Nat) (ops : Array Oper) (o : Oper) (t : AF) : Nat → Prop := fun b => wantedA ops t o = some true ∧ (if flag fl o = true then toldX A o t b else b ∈ accA P t o.op)
def AnnOk (A : Ann) : Prop := ∀ d q, A d = some q → ∀ c, PF (q.X c) (q.ax c)

structure Ent where
  i : Nat
  acc : Nat → Prop
  wr : List Nat
  fr : Bool
def Ent.still (e : Ent) : Prop := (∀ b, ¬ e.acc b) ∧ e.wr = [] ∧ e.fr = false
/-- Operation i may follow what is in the log. -/
def clear (ops : Array Oper) (i : Nat) (acc : Nat → Prop) (p : Plan) (e : Ent) : Prop := anc ops ops.size i e.i = true ∨ ((∀ b ∈ wrB p, ¬ e.acc b) ∧ ∀ b ∈ e.wr, ¬ acc b)
/-- A call that may turn memory follows what must come ahead of it, and what only reads. -/
def hclear (ops : Array Oper) (i : Nat) (e : Ent) : Prop := (e.wr = [] ∧ e.fr = false) ∨ anc ops ops.size i e.i = true
/-- What unordered operations have read is kept. -/
def keeps (ops : Array Oper) (i : Nat) (log : List Ent) (h h' : AHeap) : Prop := ∀ e ∈ log, anc ops ops.size i e.i = true ∨ ∀ b, e.acc b → h' b = h b

/-- A fresh block, come what may. -/
def NewJ (P : Program) (fl : List Nat) (ops : Array Oper) (L : List Nat) (j : Nat) (t : AF) : Prop := ∃ o p, ops[j]? = some o ∧ o.guard = none ∧ flag fl o = false ∧ newK o.op = true ∧ planA P t AHeap.empty o.op = some p ∧ ∀ k ∈ L, ∀ x, ops[k]? = some x → ∀ d, x.dst = some d → d ∉ o.looksAt ops
noncomputable def runL (P : Program) (A : Ann) (fl : List Nat) (ops : Array Oper) (K : AF → AHeap → Prop) : List Nat → List Ent → AF → AHeap → Prop
  | [], _, t, h => K t h
  | i :: L, log, t, h => ∃ o, ops[i]? = some o ∧ if hvy fl o = true then
      (∀ j ∈ L, anc ops ops.size j i = true ∨ NewJ P fl ops L j t) ∧ (∀ e ∈ log, hclear ops i e) ∧ (match wantedA ops t o with
        | some true => opRes P o t h fun r h' => keeps ops i log h h' ∧ runL P A fl ops K L log (t.putO o.dst r) h'
        | some false => runL P A fl ops K L log (t.putO o.dst (.tup [])) h
        | none => False)
    else ∃ p, planD P A fl ops o t h = some p ∧ (∀ e ∈ log, clear ops i (accD P A fl ops o t) p e) ∧ p.runK h fun v h' => runL P A fl ops K L (⟨i, accD P A fl ops o t, wrB p, p.fr.isSome⟩ :: log) (t.putO o.dst v) h'
/-- This one first; the others go on with the same log. -/
def runI (P : Program) (A : Ann) (fl : List Nat) (ops : Array Oper) (K : AF → AHeap → Prop) (i : Nat) (L : List Nat) (log : List Ent) (t : AF) (h : AHeap) : Prop := ∃ o, ops[i]? = some o ∧ if hvy fl o = true then
      (∀ e ∈ log, hclear ops i e) ∧ (match wantedA ops t o with
        | some true => opRes P o t h fun r h' => keeps ops i log h h' ∧ runL P A fl ops K L log (t.putO o.dst r) h'
        | some false => runL P A fl ops K L log (t.putO o.dst (.tup [])) h
        | none => False)
    else ∃ p, planD P A fl ops o t h = some p ∧ (∀ e ∈ log, clear ops i (accD P A fl ops o t) p e) ∧ p.runK h fun v h' => runL P A fl ops K L log (t.putO o.dst v) h'

theorem nil_PF : PF (fun _ => none) (fun _ => False) := ⟨(fun h p e => by cases e), (fun _ _ _ => rfl), (fun h p e => by cases e), ⟨0, fun _ _ q => q⟩⟩
theorem toldV_PF (hA : AnnOk A) : PF (toldV A o t) (toldX A o t) := by
  unfold toldV toldX
  cases hq : toldQ A o t with
  | none => exact nil_PF
  | some q =>
    unfold toldQ at hq
    split at hq
    · next k c q' hk hA' =>
      split at hq
      · cases hq
        cases hd : o.dst with
        | none => rw [hd] at hA'; cases hA'
        | some d => rw [hd] at hA'; exact hA d _ hA' c
      · cases hq
    · cases hq
theorem planD_PF (hA : AnnOk A) : PF (planD P A fl ops o t) (accD P A fl ops o t) := by
  have FT := toldV_PF (o := o) (t := t) hA
  have bL : ∀ l : List Nat, ∃ N, ∀ b, N ≤ b → ¬ b ∈ l := by
    intro l
    induction l with
    | nil => exact ⟨0, fun b _ => by simp⟩
    | cons a l ih =>
      obtain ⟨N, hN⟩ := ih
      refine ⟨N + a + 1, fun b hb => ?_⟩
      simp only [List.mem_cons, not_or]
      exact ⟨by omega, hN b (by omega)⟩
  constructor
  · intro h p e
    unfold planD at e
    split at e
    · next hw =>
      split at e
      · next hf =>
        have hax : ∀ b, toldX A o t b → accD P A fl ops o t b := fun b hb => ⟨hw, by rw [if_pos hf]; exact hb⟩
        rcases FT.shape _ _ e with q | ⟨b, c, q1, q2, q3⟩ | ⟨b, c, q1, q2, q3⟩
        · exact .inl q
        · exact .inr (.inl ⟨b, c, q1, q2, hax b q3⟩)
        · exact .inr (.inr ⟨b, c, q1, q2, hax b q3⟩)
      · next hf =>
        have hax : ∀ b, b ∈ accA P t o.op → accD P A fl ops o t b := fun b hb => ⟨hw, by rw [if_neg hf]; exact hb⟩
        rcases plan_shape e with q | ⟨b, c, q1, q2, q3⟩ | ⟨b, c, q1, q2, q3⟩
        · exact .inl q
        · exact .inr (.inl ⟨b, c, q1, q2, hax b q3⟩)
        · exact .inr (.inr ⟨b, c, q1, q2, hax b q3⟩)
    · cases e; exact .inl rfl
    · cases e
  · intro h h' e
    unfold planD
    split
    · next hw =>
      split
      · next hf => exact FT.cong _ _ fun b hb => e b ⟨hw, by rw [if_pos hf]; exact hb⟩
      · next hf => exact plan_cong fun b hb => e b ⟨hw, by rw [if_neg hf]; exact hb⟩
    · rfl
    · rfl
  · intro h p e b hb
    unfold planD at e
    obtain ⟨hw, hb⟩ := hb
    rw [hw] at e
    simp only at e
    split at e
    · next hf =>
      rw [if_pos hf] at hb
      exact FT.pres _ _ e b hb
    · next hf =>
      rw [if_neg hf] at hb
      exact plan_pres e b hb
  · by_cases hf : flag fl o = true
    · obtain ⟨N, hN⟩ := FT.bnd
      exact ⟨N, fun b hb q => by
        have := q.2
        rw [if_pos hf] at this
        exact hN b hb this⟩
    · obtain ⟨N, hN⟩ := bL (accA P t o.op)
      exact ⟨N, fun b hb q => by
        have := q.2
        rw [if_neg hf] at this
        exact hN b hb this⟩

theorem keyOf_congT (e : ∀ x ∈ o.op.operands, evalA t x = evalA t' x) : keyOf o t = keyOf o t' := by
  obtain ⟨d, op, ty, pos, af, g⟩ := o
  unfold keyOf
  cases op <;> first | rfl | skip
  rename_i c
  obtain ⟨callee, args, ats⟩ := c
  have ea : args.toList.map (evalA t) = args.toList.map (evalA t') := map_evalA fun x hx => e x (by simp at hx; simp [Op.operands, Call.operands, hx])
  cases callee with
  | value f =>
    have ef := e f (by simp [Op.operands, Call.operands])
    simp only
    rw [ef, ea]
  | invoke r m => rfl
  | builtin b => cases b <;> first | rfl | (simp only; rw [ea])
theorem toldQ_congT (e : ∀ x ∈ o.op.operands, evalA t x = evalA t' x) : toldQ A o t = toldQ A o t' := by unfold toldQ; rw [keyOf_congT e]
theorem planD_congT (a : Agree ops o t t') : planD P A fl ops o t h = planD P A fl ops o t' h := by
  unfold planD toldV
  rw [a.wanted, toldQ_congT a.evalA, plan_congT a.evalA]
theorem accD_congT (a : Agree ops o t t') : accD P A fl ops o t = accD P A fl ops o t' := by
  funext b
  unfold accD toldX
  rw [a.wanted, toldQ_congT a.evalA, acc_congT a.evalA]

variable {K : AF → AHeap → Prop}

theorem runL_log : ∀ (L : List Nat) {log log' : List Ent} {t : AF} {h : AHeap}, (∀ e ∈ log', e ∈ log ∨ e.still) → runL P A fl ops K L log t h → runL P A fl ops K L log' t h
  | [], _, _, _, _, _, e => e
  | i :: L, log, log', t, h, hl, e => by
    obtain ⟨o, ho, e⟩ := e
    refine ⟨o, ho, ?_⟩
    split at e
    · next hv =>
      rw [if_pos hv]
      refine ⟨e.1, fun x hx => (hl x hx).elim (e.2.1 x) fun q => .inl ⟨q.2.1, q.2.2⟩, ?_⟩
      have e2 := e.2.2
      split at e2
      · exact opRes_mono e2 fun r h' k => ⟨fun x hx => (hl x hx).elim (k.1 x) fun q => .inr fun b hb => absurd hb (q.1 b), runL_log L hl k.2⟩
      · exact runL_log L hl e2
      · exact e2
    · next hv =>
      rw [if_neg hv]
      obtain ⟨p, hp, hc, hr⟩ := e
      refine ⟨p, hp, fun x hx => ?_, runK_mono hr fun v h' k => runL_log L (fun x hx => ?_) k⟩
      · rcases hl x hx with q | q
        · exact hc x q
        · exact .inr ⟨fun b _ => q.1 b, by rw [q.2.1]; simp⟩
      · rcases List.mem_cons.1 hx with rfl | hx
        · exact .inl (by simp)
        · exact (hl x hx).imp (List.mem_cons_of_mem _) id

theorem runL_monoK {K' : AF → AHeap → Prop} (hk : ∀ t h, K t h → K' t h) : ∀ (L : List Nat) {log : List Ent} {t : AF} {h : AHeap}, runL P A fl ops K L log t h → runL P A fl ops K' L log t h
  | [], _, _, _, e => hk _ _ e
  | i :: L, log, t, h, e => by
    obtain ⟨o, ho, e⟩ := e
    refine ⟨o, ho, ?_⟩
    split at e
    · next hv =>
      rw [if_pos hv]
      refine ⟨e.1, e.2.1, ?_⟩
      have e2 := e.2.2
      split at e2
      · exact opRes_mono e2 fun v h' k => ⟨k.1, runL_monoK hk L k.2⟩
      · exact runL_monoK hk L e2
      · exact e2
    · next hv =>
      rw [if_neg hv]
      obtain ⟨p, hp, hc, hr⟩ := e
      exact ⟨p, hp, hc, runK_mono hr fun v h' k => runL_monoK hk L k⟩
theorem wrB_nil {p : Plan} (e : wrB p = []) : p.wr = none := by
  unfold wrB at e
  cases hw : p.wr with
  | none => rfl
  | some q => rw [hw] at e; cases e
theorem runK_still {p : Plan} {K : AV → AHeap → Prop} (e1 : wrB p = []) (e2 : p.fr = none) : p.runK h K = K (p.v 0) h := by
  unfold Plan.runK
  rw [wrB_nil e1]
  simp only [Plan.run, e2, Plan.heap, wrB_nil e1]

theorem runL_runI {i : Nat} {L : List Nat} {log : List Ent} (e : runL P A fl ops K (i :: L) log t h) : runI P A fl ops K i L log t h := by
  obtain ⟨o, ho, e⟩ := e
  refine ⟨o, ho, ?_⟩
  split at e
  · next hv => rw [if_pos hv]; exact e.2
  · next hv =>
    rw [if_neg hv]
    obtain ⟨p, hp, hc, hr⟩ := e
    exact ⟨p, hp, hc, runK_mono hr fun v h' k => runL_log L (fun x hx => .inl (List.mem_cons_of_mem _ hx)) k⟩

theorem newK_acc {op : Op} (hn : newK op = true) : accA P t op = [] := by
  cases op <;> first | rfl | cases hn
theorem newK_call {op : Op} (hn : newK op = true) : isCallV op = false := by
  cases op <;> first | rfl | cases hn
theorem newK_plan {op : Op} {h' : AHeap} (hn : newK op = true) : planA P t h op = planA P t h' op := plan_cong fun b hb => by rw [newK_acc hn] at hb; cases hb
theorem newK_wr {op : Op} {p : Plan} (hn : newK op = true) (hp : planA P t h op = some p) : p.wr = none := by
  rcases plan_shape hp with q | ⟨b, c, _, _, q⟩ | ⟨b, c, _, _, q⟩
  · exact q
  · rw [newK_acc hn] at q; cases q
  · rw [newK_acc hn] at q; cases q
theorem NewJ.put {L L' : List Nat} {j k : Nat} {x : Oper} {v : AV} (n : NewJ P fl ops L j t) (hL : ∀ y ∈ L', y ∈ L) (hk : k ∈ L) (hx : ops[k]? = some x) : NewJ P fl ops L' j (t.putO x.dst v) := by
  obtain ⟨o, p, h1, h2, h3, h4, h5, h6⟩ := n
  refine ⟨o, p, h1, h2, h3, h4, ?_, fun y hy => h6 y (hL y hy)⟩
  rw [plan_congT (Agree.put (h6 k hk x hx)).evalA]; exact h5
theorem NewJ.mono {L L' : List Nat} {j : Nat} (n : NewJ P fl ops L j t) (hL : ∀ y ∈ L', y ∈ L) : NewJ P fl ops L' j t := by
  obtain ⟨o, p, h1, h2, h3, h4, h5, h6⟩ := n
  exact ⟨o, p, h1, h2, h3, h4, h5, fun y hy => h6 y (hL y hy)⟩
theorem NewJ.plan {L : List Nat} {j : Nat} {o : Oper} (n : NewJ P fl ops L j t) (ho : ops[j]? = some o) : ¬ hvy fl o = true ∧ ∃ p, p.wr = none ∧ (∀ h, planD P A fl ops o t h = some p) ∧ ∀ b, ¬ accD P A fl ops o t b := by
  obtain ⟨o', p, h1, h2, h3, h4, h5, h6⟩ := n
  rw [ho] at h1; cases h1
  have hw : wantedA ops t o = some true := by unfold wantedA; rw [h2]
  refine ⟨by unfold hvy; rw [newK_call h4]; simp, p, newK_wr h4 h5, fun h => ?_, fun b hb => ?_⟩
  · unfold planD; rw [hw]; simp only [h3, Bool.false_eq_true, if_false]; rw [newK_plan (h' := AHeap.empty) h4]; exact h5
  · have := hb.2; rw [h3] at this; simp only [Bool.false_eq_true, if_false] at this; rw [newK_acc h4] at this; cases this

theorem opRes_keep {b : Nat} {c : Chunk} (hv : hvy fl o = true) {R : AV → AHeap → Prop} (e : opRes P o t h R) (hb : h b = none) : opRes P o t (h.upd b c) fun r h' => ∃ h1, h' = h1.upd b c ∧ h1 b = none ∧ R r h1 := by
  have hc : isCallV o.op = true := by unfold hvy at hv; simp only [Bool.and_eq_true] at hv; exact hv.1
  unfold opRes at e ⊢
  split at e
  · exact ACallV.keep e hb
  · next heq => rw [heq] at hc; cases hc
  · next hne hne2 =>
    exfalso
    obtain ⟨d, op, ty, pos, af, g⟩ := o
    cases op <;> try (cases hc; done)
    rename_i c
    obtain ⟨callee, args, ats⟩ := c
    cases callee <;> first | exact hne _ _ _ rfl | cases hc
theorem ACalls.fin {f : FuncId} {args : List AV} {R : AV → AHeap → Prop} (c : ACalls P f args h R) : ACalls P f args h fun r h' => (∃ N, ∀ b, N ≤ b → h' b = none) ∧ R r h' :=
  ⟨c.1, fun hf w vs D Rl rs => CallsIn.mono (c.2 hf w vs D Rl rs) fun _ w' ⟨v, r, h', e1, k, e3, e4, e5⟩ => ⟨v, r, h', e1, ⟨⟨w'.heap.size, fun b hb => by
    cases hh : h' b with
    | none => rfl
    | some c => have := e4.lt (AHeap.un_some hh); omega⟩, k⟩, e3, e4, e5⟩⟩
theorem opRes_fin (hv : hvy fl o = true) {R : AV → AHeap → Prop} (e : opRes P o t h R) : opRes P o t h fun r h' => (∃ N, ∀ b, N ≤ b → h' b = none) ∧ R r h' := by
  have hc : isCallV o.op = true := by unfold hvy at hv; simp only [Bool.and_eq_true] at hv; exact hv.1
  unfold opRes at e ⊢
  split at e
  · unfold ACallV at e ⊢
    split at e
    · exact ACalls.fin e
    · exact fun hf w vs D Rl rs => yieldAt_mono (e hf w vs D Rl rs) fun _ w' ⟨v, r, h', e1, k, e3, e4, e5⟩ => ⟨v, r, h', e1, ⟨⟨w'.heap.size, fun b hb => by
        cases hh : h' b with
        | none => rfl
        | some c => have := e4.lt (AHeap.un_some hh); omega⟩, k⟩, e3, e4, e5⟩
    · exact e.elim
  · next heq => rw [heq] at hc; cases hc
  · next hne hne2 =>
    exfalso
    obtain ⟨d, op, ty, pos, af, g⟩ := o
    cases op <;> try (cases hc; done)
    rename_i c
    obtain ⟨callee, args, ats⟩ := c
    cases callee <;> first | exact hne _ _ _ rfl | cases hc

/-- A heavy call, and a fresh block that comes first. -/
theorem swapH {a i : Nat} {oa oi : Oper} {L L1 : List Nat} {log : List Ent} (ha : ops[a]? = some oa) (hi : ops[i]? = some oi) (hap : oa.apart ops oi = true)
    (hn : ¬ anc ops ops.size i a = true) (hva : hvy fl oa = true) (hi1 : i ∈ L1) (hL : ∀ y ∈ L, y ∈ L1) (hc : ∀ e ∈ log, hclear ops a e) (hnew : ∀ j ∈ L1, anc ops ops.size j a = true ∨ NewJ P fl ops L1 j t)
    (e : match wantedA ops t oa with
      | some true => opRes P oa t h fun r h' => keeps ops a log h h' ∧ runI P A fl ops K i L log (t.putO oa.dst r) h'
      | some false => runI P A fl ops K i L log (t.putO oa.dst (.tup [])) h
      | none => False) : runI P A fl ops K i (a :: L) log t h := by
  obtain ⟨a1, a2, a3⟩ := Oper.apart_spec hap
  have nw : NewJ P fl ops L1 i t := (hnew i hi1).resolve_left hn
  obtain ⟨hvi, p, hpw, hp, hacc⟩ := nw.plan (A := A) hi
  refine ⟨oi, hi, ?_⟩
  rw [if_neg hvi]
  refine ⟨p, hp h, fun x _ => .inr ⟨fun b hb => by simp [wrB, hpw] at hb, fun b _ => hacc b⟩, ?_⟩
  -- from here on
  have go : ∀ (r : AV) (h1 : AHeap), runI P A fl ops K i L log (t.putO oa.dst r) h1 → p.runK h1 fun v h2 => runL P A fl ops K L log ((t.putO oa.dst r).putO oi.dst v) h2 := by
    rintro r h1 ⟨o', ho', k⟩
    rw [hi] at ho'; cases ho'
    rw [if_neg hvi] at k
    obtain ⟨q, hq, _, k⟩ := k
    rw [planD_congT (Agree.put (o := oi) a1), hp] at hq
    cases hq
    exact k
  have sh : ∀ ax : Nat → Prop, p.wr = none ∨ (∃ b c, p.wr = some (b, some c) ∧ p.fr = none ∧ ax b) ∨ (∃ b c, p.wr = some (b, none) ∧ p.fr = some c ∧ ax b) := fun _ => .inl hpw
  rw [runKP_iff (sh fun _ => False)]
  intro v δ oδ
  refine ⟨oa, ha, ?_⟩
  rw [if_pos hva]
  refine ⟨fun j hj => (hnew j (hL j hj)).imp id fun n => n.put hL hi1 hi, hc, ?_⟩
  rw [(Agree.put (o := oa) (v := v) a3).wanted]
  split at e
  · next hw =>
    rw [opRes_congr _ (Agree.put (o := oa) (v := v) a3).evalA]
    cases oδ with
    | ret q1 q2 =>
      refine opRes_mono e fun r h1 ⟨k1, k2⟩ => ⟨k1, ?_⟩
      have := (runKP_iff (sh fun _ => False)).1 (go r h1 k2) _ _ (.ret q1 q2)
      rw [AF.putO_comm a2] at this
      exact this
    | new c b q1 q2 hb =>
      refine opRes_mono (opRes_keep hva e hb) ?_
      rintro r h2 ⟨h1, rfl, hb1, k1, k2⟩
      refine ⟨fun x hx => (k1 x hx).imp id fun q d hd => ?_, ?_⟩
      · by_cases hdb : d = b
        · subst hdb; show (h1.upd d c) d = (h.upd d c) d; rw [AHeap.upd_same, AHeap.upd_same]
        · show (h1.upd b c) d = (h.upd b c) d; rw [AHeap.upd_ne hdb, AHeap.upd_ne hdb]; exact q d hd
      · have := (runKP_iff (sh fun _ => False)).1 (go r h1 k2) _ _ (.new c b q1 q2 hb1)
        rw [AF.putO_comm a2] at this
        exact this
    | put b c q1 q2 => rw [hpw] at q1; cases q1
    | inpl b c q1 q2 => rw [hpw] at q1; cases q1
    | move b c b' q1 q2 hb => rw [hpw] at q1; cases q1
  · next hw =>
    have hrun := (runKP_iff (sh fun _ => False)).1 (go _ h e) v δ oδ
    rw [AF.putO_comm a2] at hrun
    exact hrun
  · exact e.elim

/-- A plan, and what comes first. -/
theorem swapR {a i : Nat} {oa oi : Oper} {L : List Nat} {log : List Ent} (hA : AnnOk A) (fin : ∃ N, ∀ b, N ≤ b → h b = none) (ha : ops[a]? = some oa) (hi : ops[i]? = some oi) (hap : oa.apart ops oi = true)
    (hn : ¬ anc ops ops.size i a = true) (hva : ¬ hvy fl oa = true) {p : Plan} (hp : planD P A fl ops oa t h = some p) (hc : ∀ x ∈ log, clear ops a (accD P A fl ops oa t) p x)
    (hr : p.runK h fun v h' => runI P A fl ops K i L (⟨a, accD P A fl ops oa t, wrB p, p.fr.isSome⟩ :: log) (t.putO oa.dst v) h') : runI P A fl ops K i (a :: L) log t h := by
  obtain ⟨a1, a2, a3⟩ := Oper.apart_spec hap
  refine ⟨oi, hi, ?_⟩
  have Fa : PF (planD P A fl ops oa t) (accD P A fl ops oa t) := planD_PF hA
  have Fi : PF (planD P A fl ops oi t) (accD P A fl ops oi t) := planD_PF hA
  by_cases hvi : hvy fl oi = true
  · rw [if_pos hvi]
    have sp := Fa.shape _ _ hp
    have st : wrB p = [] ∧ p.fr.isSome = false := by
      obtain ⟨u, δ, o0, _⟩ := out_ex (ay := fun _ => False) fin sp ⟨0, fun _ _ q => q⟩
      obtain ⟨o', ho', k⟩ := (runKP_iff sp).1 hr u δ o0
      rw [hi] at ho'; cases ho'
      rw [if_pos hvi] at k
      rcases k.1 _ (List.mem_cons_self) with q | q
      · exact q
      · exact absurd q hn
    obtain ⟨s2, s3⟩ := st
    have s3' : p.fr = none := by simpa using s3
    rw [runK_still s2 s3'] at hr
    obtain ⟨o', ho', k⟩ := hr
    rw [hi] at ho'; cases ho'
    rw [if_pos hvi] at k
    obtain ⟨k1, k2⟩ := k
    refine ⟨fun x hx => k1 x (by simp [hx]), ?_⟩
    have back : ∀ (r : AV) (h2 : AHeap), (∀ b, accD P A fl ops oa t b → h2 b = h b) → runL P A fl ops K L (⟨a, accD P A fl ops oa t, wrB p, p.fr.isSome⟩ :: log) ((t.putO oa.dst (p.v 0)).putO oi.dst r) h2 → runL P A fl ops K (a :: L) log (t.putO oi.dst r) h2 := by
      intro r h2 hk k
      refine ⟨oa, ha, ?_⟩
      rw [if_neg hva]
      refine ⟨p, ?_, fun x hx => ?_, ?_⟩
      · rw [planD_congT (Agree.put a3), Fa.cong h2 h hk]; exact hp
      · rw [accD_congT (Agree.put a3)]; exact hc x hx
      · rw [runK_still s2 s3', AF.putO_comm fun d hd hd' => a2 d hd' hd, accD_congT (Agree.put a3)]
        exact k
    rw [(Agree.put (o := oi) a1).wanted] at k2
    split at k2
    · next hw =>
      rw [opRes_congr _ (Agree.put (o := oi) a1).evalA] at k2
      refine opRes_mono k2 fun r h2 k => ⟨fun x hx => k.1 x (by simp [hx]), back r h2 (fun b hb => ?_) k.2⟩
      rcases k.1 _ (List.mem_cons_self) with q | q
      · exact absurd q hn
      · exact q b hb
    · exact back _ _ (fun _ _ => rfl) k2
    · exact k2
  · rw [if_neg hvi]
    have e1 : p.runK h fun u h1 => ∃ q, planD P A fl ops oi t h1 = some q ∧ ((∀ x ∈ log, clear ops i (accD P A fl ops oi t) q x) ∧ (∀ b ∈ wrB q, ¬ accD P A fl ops oa t b) ∧ ∀ b ∈ wrB p, ¬ accD P A fl ops oi t b) ∧
        q.runK h1 fun v h2 => runL P A fl ops K L (⟨a, accD P A fl ops oa t, wrB p, p.fr.isSome⟩ :: log) ((t.putO oi.dst v).putO oa.dst u) h2 := by
      refine runK_mono hr ?_
      rintro u h1 ⟨o', ho', k⟩
      rw [hi] at ho'; cases ho'
      rw [if_neg hvi] at k
      obtain ⟨q, hq, hcl, k⟩ := k
      rw [planD_congT (Agree.put (o := oi) a1)] at hq
      rw [accD_congT (Agree.put (o := oi) a1)] at hcl
      refine ⟨q, hq, ⟨fun x hx => hcl x (by simp [hx]), ?_⟩, runK_mono k fun v h2 k => ?_⟩
      · rcases hcl _ (List.mem_cons_self) with q1 | q1
        · exact absurd q1 hn
        · exact q1
      · rw [← AF.putO_comm a2]; exact k
    obtain ⟨q, hq, hC, k⟩ := swapG (K := fun u v h2 => runL P A fl ops K L (⟨a, accD P A fl ops oa t, wrB p, p.fr.isSome⟩ :: log) ((t.putO oi.dst v).putO oa.dst u) h2) (C := fun q => (∀ x ∈ log, clear ops i (accD P A fl ops oi t) q x) ∧ (∀ b ∈ wrB q, ¬ accD P A fl ops oa t b) ∧ ∀ b ∈ wrB p, ¬ accD P A fl ops oi t b) Fa Fi fin hp (fun q c => c.2.2) (fun q c => c.2.1) e1
    refine ⟨q, hq, hC.1, runK_mono k fun v h1 k => ⟨oa, ha, ?_⟩⟩
    rw [if_neg hva]
    obtain ⟨k1, k2⟩ := k
    refine ⟨p, ?_, fun x hx => ?_, ?_⟩
    · rw [planD_congT (Agree.put a3)]; exact k1
    · rw [accD_congT (Agree.put (o := oa) a3)]; exact hc x hx
    · rw [accD_congT (Agree.put (o := oa) a3)]
      exact runK_mono k2 fun u h2 k => k
end
end Go.AH
