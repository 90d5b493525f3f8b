/-
  Regions that draw their order, in full: operations that write; what each touches is kept in a log.
-/
import Derived.Test.YtobdaaoefbgilaaAhAct
import Derived.Test.YtobdaaoefbgilaaAhX
import Derived.Test.YtobdaaoefbgilaaAhSwap
set_option linter.unusedSimpArgs false
set_option linter.unusedVariables false
set_option linter.unusedSectionVars false
namespace Go.AH
open Go

/-- A call told ahead of a region: function value, arguments, what it hands back. -/
structure Told where
  fv : AV
  xs : List AV
  r : AV
abbrev Ann := Nat → Option Told
def Part (G h : AHeap) : Prop := ∀ b, G b ≠ none → h b = G b

/-- A plan for each heap; the blocks that it hangs on. -/
structure PF (X : AHeap → Option Plan) (ax : Nat → Prop) : Prop where
  shape : ∀ h p, X h = some p → p.wr = none ∨ (∃ b c, p.wr = some (b, some c) ∧ p.fr = none ∧ ax b) ∨ (∃ b c, p.wr = some (b, none) ∧ p.fr = some c ∧ ax b)
  cong : ∀ h h', (∀ b, ax b → h b = h' b) → X h = X h'
  pres : ∀ h p, X h = some p → ∀ b, ax b → h b ≠ none
  bnd : ∃ N, ∀ b, N ≤ b → ¬ ax b

section
variable {h : AHeap} {ax ay : Nat → Prop} {X Y : AHeap → Option Plan} {p : Plan}

theorem runKP_iff {K : AV → AHeap → Prop} (s : p.wr = none ∨ (∃ b c, p.wr = some (b, some c) ∧ p.fr = none ∧ ax b) ∨ (∃ b c, p.wr = some (b, none) ∧ p.fr = some c ∧ ax b)) : p.runK h K ↔ ∀ v δ, Out p h v δ → K v (app h δ) := by
  rcases s with h1 | ⟨b, c, h1, h2, _⟩ | ⟨b, c, h1, h2, _⟩
  · exact runK_iff (acc := []) (.inl h1)
  · exact runK_iff (acc := [b]) (.inr (.inl ⟨b, c, h1, h2, by simp⟩))
  · exact runK_iff (acc := [b]) (.inr (.inr ⟨b, c, h1, h2, by simp⟩))
theorem outP_blk {v : AV} {d : Nat} {c : Chunk} (s : p.wr = none ∨ (∃ b c, p.wr = some (b, some c) ∧ p.fr = none ∧ ax b) ∨ (∃ b c, p.wr = some (b, none) ∧ p.fr = some c ∧ ax b)) (o : Out p h v (some (d, c))) : (d ∈ wrB p ∧ ax d) ∨ h d = none := by
  cases o with
  | new _ _ _ _ hb => exact .inr hb
  | put _ _ h1 h2 =>
    refine .inl ⟨by simp [wrB, h1], ?_⟩
    rcases s with q | ⟨b, c', q, _, m⟩ | ⟨b, c', q, _, m⟩ <;> rw [h1] at q <;> cases q
    exact m
  | inpl _ _ h1 h2 =>
    refine .inl ⟨by simp [wrB, h1], ?_⟩
    rcases s with q | ⟨b, c', q, _, m⟩ | ⟨b, c', q, _, m⟩ <;> rw [h1] at q <;> cases q
    exact m
  | move _ _ _ h1 h2 hb => exact .inr hb

theorem out_ex (fin : ∃ N, ∀ b, N ≤ b → h b = none) (sx : p.wr = none ∨ (∃ b c, p.wr = some (b, some c) ∧ p.fr = none ∧ ax b) ∨ (∃ b c, p.wr = some (b, none) ∧ p.fr = some c ∧ ax b)) (bnd : ∃ N, ∀ b, N ≤ b → ¬ ay b) :
    ∃ u δ, Out p h u δ ∧ ∀ d c, δ = some (d, c) → d ∈ wrB p ∨ ¬ ay d := by
  rcases sx with h1 | ⟨b, c, h1, h2, _⟩ | ⟨b, c, h1, h2, _⟩
  · cases h2 : p.fr with
    | none => exact ⟨_, _, .ret h1 h2, fun d c q => by cases q⟩
    | some c =>
      obtain ⟨N, hN⟩ := fin
      obtain ⟨M, hM⟩ := bnd
      refine ⟨_, _, .new c (N + M) h1 h2 (hN _ (by omega)), fun d c' q => ?_⟩
      cases q
      exact .inr (hM _ (by omega))
  · exact ⟨_, _, .put b c h1 h2, fun d c' q => by cases q; exact .inl (by simp [wrB, h1])⟩
  · exact ⟨_, _, .inpl b c h1 h2, fun d c' q => by cases q; exact .inl (by simp [wrB, h1])⟩

theorem swapG {K : AV → AV → AHeap → Prop} {C : Plan → Prop} (FX : PF X ax) (FY : PF Y ay) (fin : ∃ N, ∀ b, N ≤ b → h b = none) (cx : X h = some p) (hn1 : ∀ q, C q → ∀ b ∈ wrB p, ¬ ay b) (hn2 : ∀ q, C q → ∀ b ∈ wrB q, ¬ ax b)
    (e : p.runK h fun u h1 => ∃ q, Y h1 = some q ∧ C q ∧ q.runK h1 fun v h2 => K u v h2) : ∃ q, Y h = some q ∧ C q ∧ q.runK h fun v h1 => X h1 = some p ∧ p.runK h1 fun u h2 => K u v h2 := by
  have sp := FX.shape _ _ cx
  have px := FX.pres _ _ cx
  rw [runKP_iff sp] at e
  have cong : ∀ {δ : Option (Nat × Chunk)} {Z : AHeap → Option Plan} {az : Nat → Prop}, PF Z az → (∀ d c, δ = some (d, c) → ¬ az d) → Z (app h δ) = Z h := by
    intro δ Z az FZ hd
    refine FZ.cong _ _ fun b hb => ?_
    cases δ with
    | none => rfl
    | some q => exact app_ne fun e => hd q.1 q.2 rfl (e ▸ hb)
  obtain ⟨u0, δ0, o0, d0⟩ := out_ex fin sp FY.bnd
  obtain ⟨q, hq, cq, _⟩ := e u0 δ0 o0
  have n1 := hn1 q cq
  have n2 := hn2 q cq
  rw [cong FY fun d c hd => (d0 d c hd).elim (n1 d) id] at hq
  have sq := FY.shape _ _ hq
  have pq := FY.pres _ _ hq
  refine ⟨q, hq, cq, (runKP_iff sq).2 fun v ε oε => ?_⟩
  have dε : ∀ d c, ε = some (d, c) → ¬ ax d := by
    rintro d c rfl hm
    rcases outP_blk sq oε with ⟨q1, _⟩ | q1
    · exact n2 d q1 hm
    · exact px d hm q1
  refine ⟨(cong FX dε).trans cx, (runKP_iff sp).2 fun u δ oδ => ?_⟩
  have ne : ∀ d c d' c', δ = some (d, c) → ε = some (d', c') → d ≠ d' := by
    rintro d c d' c' rfl rfl rfl
    rcases outP_blk sp oδ with ⟨q1, q2⟩ | q1
    · rcases outP_blk sq oε with ⟨q3, q4⟩ | q3
      · exact n1 d q1 q4
      · exact px d q2 q3
    · simp [app] at q1
  have oδ' : Out p h u δ := oδ.on fun d c hd hf => by
    cases ε with
    | none => exact hf
    | some z => rwa [app_ne (ne d c z.1 z.2 hd rfl)] at hf
  have dδ : ∀ d c, δ = some (d, c) → ¬ ay d := by
    rintro d c rfl hm
    rcases outP_blk sp oδ' with ⟨q1, _⟩ | q1
    · exact n1 d q1 hm
    · exact pq d hm q1
  obtain ⟨q', hq', _, k⟩ := e u δ oδ'
  rw [cong FY dδ, hq] at hq'
  cases hq'
  have k2 := (runKP_iff sq).1 k v ε (oε.on fun d c hd hf => by
    cases δ with
    | none => exact hf
    | some z => rw [app_ne (fun e => ne z.1 z.2 d c rfl hd e.symm)]; exact hf)
  have comm : app (app h δ) ε = app (app h ε) δ := by
    cases δ with
    | none => rfl
    | some z =>
      cases ε with
      | none => rfl
      | some z' =>
        funext i
        have := ne z.1 z.2 z'.1 z'.2 rfl rfl
        simp only [app, AHeap.upd]
        by_cases i1 : i = z.1 <;> by_cases i2 : i = z'.1 <;> simp_all
  rw [← comm]; exact k2

theorem runK_mono {K K' : AV → AHeap → Prop} (e : p.runK h K) (hk : ∀ v h', K v h' → K' v h') : p.runK h K' := by
  unfold Plan.runK Plan.run at *
  repeat' split at e
  all_goals first
    | exact ⟨hk _ _ e.1, fun b hb => hk _ _ (e.2 b hb)⟩
    | exact hk _ _ e
    | exact fun b hb => hk _ _ (e b hb)
end

section
variable {P : Program} {G : AHeap} {A : Ann} {fl : List Nat} {ops : Array Oper} {t t' : AF} {h h' : AHeap} {o : Oper}

open Classical in
noncomputable def toldV (G : AHeap) (A : Ann) (o : Oper) (t : AF) (h : AHeap) : Option AV := match o.op with
  | .call { callee := .value f, args, .. } => match o.dst.bind A with
    | some q => if evalA t f = q.fv ∧ args.toList.map (evalA t) = q.xs ∧ Part G h then some q.r else none
    | none => none
  | _ => none
noncomputable def planD (P : Program) (G : AHeap) (A : Ann) (fl : List Nat) (ops : Array Oper) (o : Oper) (t : AF) (h : AHeap) : Option Plan := match wantedA ops t o with
  | some true => if flag fl o = true then (toldV G A o t h).map .ret else planA P t h o.op
  | some false => some (.ret (.tup []))
  | none => none
def accD (P : Program) (G : AHeap) (fl : List Nat) (ops : Array Oper) (o : Oper) (t : AF) : Nat → Prop := fun b => wantedA ops t o = some true ∧ (if flag fl o = true then G b ≠ none else b ∈ accA P t o.op)

structure Ent where
  i : Nat
  acc : Nat → Prop
  wr : List Nat
  fr : Bool
def Ent.still (e : Ent) : Prop := (∀ b, ¬ e.acc b) ∧ e.wr = [] ∧ e.fr = false
/-- Operation i may follow what is in the log. -/
def clear (ops : Array Oper) (i : Nat) (acc : Nat → Prop) (p : Plan) (e : Ent) : Prop := anc ops ops.size i e.i = true ∨ ((∀ b ∈ wrB p, ¬ e.acc b) ∧ ∀ b ∈ e.wr, ¬ acc b)
def hclear (ops : Array Oper) (i : Nat) (e : Ent) : Prop := e.still ∨ anc ops ops.size i e.i = true

noncomputable def runL (P : Program) (G : AHeap) (A : Ann) (fl : List Nat) (ops : Array Oper) (K : AF → AHeap → Prop) : List Nat → List Ent → AF → AHeap → Prop
  | [], _, t, h => K t h
  | i :: L, log, t, h => ∃ o, ops[i]? = some o ∧ if hvy fl o = true then
      (∀ e ∈ log, hclear ops i e) ∧ (match wantedA ops t o with
        | some true => opRes P o t h fun r h' => runL P G A fl ops K L [] (t.putO o.dst r) h'
        | some false => runL P G A fl ops K L [] (t.putO o.dst (.tup [])) h
        | none => False)
    else ∃ p, planD P G A fl ops o t h = some p ∧ (∀ e ∈ log, clear ops i (accD P G fl ops o t) p e) ∧ p.runK h fun v h' => runL P G A fl ops K L (⟨i, accD P G fl ops o t, wrB p, p.fr.isSome⟩ :: log) (t.putO o.dst v) h'

theorem planD_PF (hG : ∃ N, ∀ b, N ≤ b → G b = none) : PF (planD P G A fl ops o t) (accD P G fl ops o t) := by
  have bL : ∀ l : List Nat, ∃ N, ∀ b, N ≤ b → ¬ b ∈ l := by
    intro l
    induction l with
    | nil => exact ⟨0, fun b _ => by simp⟩
    | cons a l ih =>
      obtain ⟨N, hN⟩ := ih
      refine ⟨N + a + 1, fun b hb => ?_⟩
      simp only [List.mem_cons, not_or]
      exact ⟨by omega, hN b (by omega)⟩
  constructor
  · intro h p e
    unfold planD at e
    split at e
    · next hw =>
      split at e
      · obtain ⟨v, _, rfl⟩ := Option.map_eq_some_iff.1 e; exact .inl rfl
      · next hf =>
        have hax : ∀ b, b ∈ accA P t o.op → accD P G fl ops o t b := fun b hb => ⟨hw, by rw [if_neg hf]; exact hb⟩
        rcases plan_shape e with q | ⟨b, c, q1, q2, q3⟩ | ⟨b, c, q1, q2, q3⟩
        · exact .inl q
        · exact .inr (.inl ⟨b, c, q1, q2, hax b q3⟩)
        · exact .inr (.inr ⟨b, c, q1, q2, hax b q3⟩)
    · cases e; exact .inl rfl
    · cases e
  · intro h h' e
    unfold planD
    split
    · next hw =>
      split
      · next hf =>
        have e' : ∀ b, G b ≠ none → h b = h' b := fun b hb => e b ⟨hw, by rw [if_pos hf]; exact hb⟩
        have hp : Part G h ↔ Part G h' := ⟨fun q b hb => by rw [← e' b hb]; exact q b hb, fun q b hb => by rw [e' b hb]; exact q b hb⟩
        have : toldV G A o t h = toldV G A o t h' := by
          unfold toldV
          split
          · split
            · rw [show Part G h = Part G h' from propext hp]
            · rfl
          · rfl
        rw [this]
      · next hf => exact plan_cong fun b hb => e b ⟨hw, by rw [if_neg hf]; exact hb⟩
    · rfl
    · rfl
  · intro h p e b hb
    unfold planD at e
    obtain ⟨hw, hb⟩ := hb
    rw [hw] at e
    simp only at e
    split at e
    · next hf =>
      rw [if_pos hf] at hb
      obtain ⟨v, hv, rfl⟩ := Option.map_eq_some_iff.1 e
      unfold toldV at hv
      split at hv
      · split at hv
        · split at hv
          · next hq => rw [hq.2.2 b hb]; exact hb
          · cases hv
        · cases hv
      · cases hv
    · next hf =>
      rw [if_neg hf] at hb
      exact plan_pres e b hb
  · by_cases hf : flag fl o = true
    · obtain ⟨N, hN⟩ := hG
      exact ⟨N, fun b hb q => by
        have := q.2
        rw [if_pos hf] at this
        exact this (hN b hb)⟩
    · obtain ⟨N, hN⟩ := bL (accA P t o.op)
      exact ⟨N, fun b hb q => by
        have := q.2
        rw [if_neg hf] at this
        exact hN b hb this⟩

theorem toldV_congT (e : ∀ x ∈ o.op.operands, evalA t x = evalA t' x) : toldV G A o t h = toldV G A o t' h := by
  obtain ⟨d, op, ty, pos, af, g⟩ := o
  unfold toldV
  cases op <;> first | rfl | skip
  rename_i c
  obtain ⟨callee, args, ats⟩ := c
  cases callee with
  | value f =>
    have ef := e f (by simp [Op.operands, Call.operands])
    have ea : args.toList.map (evalA t) = args.toList.map (evalA t') := map_evalA fun x hx => e x (by simp at hx; simp [Op.operands, Call.operands, hx])
    cases hA : d.bind A with
    | none => rfl
    | some q =>
      simp only
      rw [ef, ea]
  | invoke r m => rfl
  | builtin b => rfl

theorem planD_congT (a : Agree ops o t t') : planD P G A fl ops o t h = planD P G A fl ops o t' h := by
  unfold planD
  rw [a.wanted, toldV_congT a.evalA, plan_congT a.evalA]
theorem accD_congT (a : Agree ops o t t') : accD P G fl ops o t = accD P G fl ops o t' := by
  funext b
  unfold accD
  rw [a.wanted, acc_congT a.evalA]

variable {K : AF → AHeap → Prop}

theorem runL_log : ∀ (L : List Nat) {log log' : List Ent} {t : AF} {h : AHeap}, (∀ e ∈ log', e ∈ log ∨ e.still) → runL P G A fl ops K L log t h → runL P G A fl ops K L log' t h
  | [], _, _, _, _, _, e => e
  | i :: L, log, log', t, h, hl, e => by
    obtain ⟨o, ho, e⟩ := e
    refine ⟨o, ho, ?_⟩
    split at e
    · next hv =>
      rw [if_pos hv]
      exact ⟨fun x hx => (hl x hx).elim (e.1 x) .inl, e.2⟩
    · next hv =>
      rw [if_neg hv]
      obtain ⟨p, hp, hc, hr⟩ := e
      refine ⟨p, hp, fun x hx => ?_, runK_mono hr fun v h' k => runL_log L (fun x hx => ?_) k⟩
      · rcases hl x hx with q | q
        · exact hc x q
        · exact .inr ⟨fun b _ => q.1 b, by rw [q.2.1]; simp⟩
      · rcases List.mem_cons.1 hx with rfl | hx
        · exact .inl (by simp)
        · exact (hl x hx).imp (List.mem_cons_of_mem _) id

theorem runL_monoK {K' : AF → AHeap → Prop} (hk : ∀ t h, K t h → K' t h) : ∀ (L : List Nat) {log : List Ent} {t : AF} {h : AHeap}, runL P G A fl ops K L log t h → runL P G A fl ops K' L log t h
  | [], _, _, _, e => hk _ _ e
  | i :: L, log, t, h, e => by
    obtain ⟨o, ho, e⟩ := e
    refine ⟨o, ho, ?_⟩
    split at e
    · next hv =>
      rw [if_pos hv]
      refine ⟨e.1, ?_⟩
      have e2 := e.2
      split at e2
      · exact opRes_mono e2 fun v h' k => runL_monoK hk L k
      · exact runL_monoK hk L e2
      · exact e2
    · next hv =>
      rw [if_neg hv]
      obtain ⟨p, hp, hc, hr⟩ := e
      exact ⟨p, hp, hc, runK_mono hr fun v h' k => runL_monoK hk L k⟩
theorem wrB_nil {p : Plan} (e : wrB p = []) : p.wr = none := by
  unfold wrB at e
  cases hw : p.wr with
  | none => rfl
  | some q => rw [hw] at e; cases e
theorem runK_still {p : Plan} {K : AV → AHeap → Prop} (e1 : wrB p = []) (e2 : p.fr = none) : p.runK h K = K (p.v 0) h := by
  unfold Plan.runK
  rw [wrB_nil e1]
  simp only [Plan.run, e2, Plan.heap, wrB_nil e1]

/-- Two operations that stand side by side, exchanged. -/
theorem swapL {a i : Nat} {oa oi : Oper} {L : List Nat} {log : List Ent} (hG : ∃ N, ∀ b, N ≤ b → G b = none) (fin : ∃ N, ∀ b, N ≤ b → h b = none) (ha : ops[a]? = some oa) (hi : ops[i]? = some oi) (hap : oa.apart ops oi = true)
    (hn : ¬ anc ops ops.size i a = true) (hva : ¬ hvy fl oa = true) (e : runL P G A fl ops K (a :: i :: L) log t h) : runL P G A fl ops K (i :: a :: L) log t h := by
  obtain ⟨a1, a2, a3⟩ := Oper.apart_spec hap
  obtain ⟨oa', ha', e⟩ := e
  rw [ha] at ha'; cases ha'
  rw [if_neg hva] at e
  obtain ⟨p, hp, hc, hr⟩ := e
  refine ⟨oi, hi, ?_⟩
  have Fa : PF (planD P G A fl ops oa t) (accD P G fl ops oa t) := planD_PF hG
  have Fi : PF (planD P G A fl ops oi t) (accD P G fl ops oi t) := planD_PF hG
  by_cases hvi : hvy fl oi = true
  · rw [if_pos hvi]
    -- the first one is still
    have sp := Fa.shape _ _ hp
    have st : (⟨a, accD P G fl ops oa t, wrB p, p.fr.isSome⟩ : Ent).still := by
      obtain ⟨u, δ, o0, _⟩ := out_ex (ay := fun _ => False) fin sp ⟨0, fun _ _ q => q⟩
      obtain ⟨o', ho', k⟩ := (runKP_iff sp).1 hr u δ o0
      rw [hi] at ho'; cases ho'
      rw [if_pos hvi] at k
      rcases k.1 _ (List.mem_cons_self) with q | q
      · exact q
      · exact absurd q hn
    obtain ⟨s1, s2, s3⟩ := st
    have s3' : p.fr = none := by simpa using s3
    rw [runK_still s2 s3'] at hr
    obtain ⟨o', ho', k⟩ := hr
    rw [hi] at ho'; cases ho'
    rw [if_pos hvi] at k
    obtain ⟨k1, k2⟩ := k
    refine ⟨fun x hx => k1 x (by simp [hx]), ?_⟩
    have back : ∀ (r : AV) (h2 : AHeap), runL P G A fl ops K L [] ((t.putO oa.dst (p.v 0)).putO oi.dst r) h2 → runL P G A fl ops K (a :: L) [] (t.putO oi.dst r) h2 := by
      intro r h2 k
      refine ⟨oa, ha, ?_⟩
      rw [if_neg hva]
      refine ⟨p, ?_, (fun x hx => by cases hx), ?_⟩
      · rw [planD_congT (Agree.put a3), Fa.cong h2 h fun b hb => absurd hb (s1 b)]; exact hp
      · rw [runK_still s2 s3', AF.putO_comm fun d hd hd' => a2 d hd' hd]
        refine runL_log L (fun x hx => ?_) k
        simp only [List.mem_cons, List.not_mem_nil, or_false] at hx
        subst hx
        refine .inr ⟨fun b hb => ?_, s2, by simp [s3']⟩
        change accD P G fl ops oa (t.putO oi.dst r) b at hb
        rw [accD_congT (Agree.put a3)] at hb
        exact s1 b hb
    rw [(Agree.put (o := oi) a1).wanted] at k2
    split at k2
    · next hw =>
      rw [opRes_congr _ (Agree.put (o := oi) a1).evalA] at k2
      exact opRes_mono k2 back
    · exact back _ _ k2
    · exact k2
  · rw [if_neg hvi]
    have e1 : p.runK h fun u h1 => ∃ q, planD P G A fl ops oi t h1 = some q ∧ ((∀ x ∈ log, clear ops i (accD P G fl ops oi t) q x) ∧ (∀ b ∈ wrB q, ¬ accD P G fl ops oa t b) ∧ ∀ b ∈ wrB p, ¬ accD P G fl ops oi t b) ∧
        q.runK h1 fun v h2 => runL P G A fl ops K L (⟨a, accD P G fl ops oa t, wrB p, p.fr.isSome⟩ :: ⟨i, accD P G fl ops oi t, wrB q, q.fr.isSome⟩ :: log) ((t.putO oi.dst v).putO oa.dst u) h2 := by
      refine runK_mono hr ?_
      rintro u h1 ⟨o', ho', k⟩
      rw [hi] at ho'; cases ho'
      rw [if_neg hvi] at k
      obtain ⟨q, hq, hcl, k⟩ := k
      rw [planD_congT (Agree.put (o := oi) a1)] at hq
      rw [accD_congT (Agree.put (o := oi) a1)] at hcl k
      refine ⟨q, hq, ⟨fun x hx => hcl x (by simp [hx]), ?_⟩, runK_mono k fun v h2 k => ?_⟩
      · rcases hcl _ (List.mem_cons_self) with q1 | q1
        · exact absurd q1 hn
        · exact q1
      · rw [← AF.putO_comm a2]
        refine runL_log L (fun x hx => .inl ?_) k
        simp only [List.mem_cons] at hx ⊢
        rcases hx with h1 | h1 | h1
        · exact .inr (.inl h1)
        · exact .inl h1
        · exact .inr (.inr h1)
    -- the plan of i is told apart by what it is, so K may hang on it
    obtain ⟨q, hq, hC, k⟩ := swapG (K := fun u v h2 => ∀ q, planD P G A fl ops oi t h = some q → runL P G A fl ops K L (⟨a, accD P G fl ops oa t, wrB p, p.fr.isSome⟩ :: ⟨i, accD P G fl ops oi t, wrB q, q.fr.isSome⟩ :: log) ((t.putO oi.dst v).putO oa.dst u) h2) (C := fun q => (∀ x ∈ log, clear ops i (accD P G fl ops oi t) q x) ∧ (∀ b ∈ wrB q, ¬ accD P G fl ops oa t b) ∧ ∀ b ∈ wrB p, ¬ accD P G fl ops oi t b) Fa Fi fin hp (fun q c => c.2.2) (fun q c => c.2.1) (by
      have sp := Fa.shape _ _ hp
      rw [runKP_iff sp] at e1 ⊢
      intro u δ oδ
      obtain ⟨q, hq, hC, k⟩ := e1 u δ oδ
      refine ⟨q, hq, hC, runK_mono k fun v h2 k q' hq' => ?_⟩
      have : planD P G A fl ops oi t (app h δ) = planD P G A fl ops oi t h := Fi.cong _ _ fun b hb => by
        cases δ with
        | none => rfl
        | some z =>
          refine app_ne fun e => ?_
          subst e
          rcases outP_blk (d := z.1) (c := z.2) sp oδ with ⟨q1, _⟩ | q1
          · exact hC.2.2 _ q1 hb
          · have := Fi.pres _ _ hq' _ hb
            exact this q1
      rw [this, hq'] at hq
      cases hq
      exact k)
    refine ⟨q, hq, hC.1, runK_mono k fun v h1 k => ⟨oa, ha, ?_⟩⟩
    rw [if_neg hva]
    obtain ⟨k1, k2⟩ := k
    refine ⟨p, ?_, fun x hx => ?_, ?_⟩
    · rw [planD_congT (Agree.put a3)]; exact k1
    · rw [accD_congT (Agree.put (o := oa) a3)]
      rcases List.mem_cons.1 hx with rfl | hx
      · exact .inr ⟨hC.2.2, hC.2.1⟩
      · exact hc x hx
    · rw [accD_congT (Agree.put (o := oa) a3)]
      exact runK_mono k2 fun u h2 k => k q hq
end
end Go.AH
