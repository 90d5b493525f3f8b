/-
  Regions that draw their order, in full: what is true of one order is true of all.
-/
import Derived.Test.YtkdhgablioljnaaAhLog
set_option linter.unusedSimpArgs false
set_option linter.unusedVariables false
set_option linter.unusedSectionVars false
namespace Go.AH
open Go

/-- In this order: later ones are bound to come later, or stand apart; nothing overtakes a call that turns memory. -/
def pairsD (ops : Array Oper) (fl : List Nat) : List Nat → Bool
  | [] => true
  | i :: rest => rest.all (fun j => anc ops ops.size j i || (match ops[i]?, ops[j]? with | some x, some y => x.apart ops y | _, _ => false)) && pairsD ops fl rest
def ordD (ops : Array Oper) (fl ord : List Nat) : Bool := ordOk ops [] ord && pairsD ops fl ord && (List.range ops.size).all ord.contains && decide (ord.length = ops.size)
/-- An operation does what a plan says: as a call, or by its effect. -/
def OpOk (P : Program) (o : Oper) (t : AF) (h : AHeap) (K : AV → AHeap → Prop) : Prop := opRes P o t h K ∨ ∀ (w : World) (hf : AHeap) (a : Act) (N B : Nat), Good w h hf a t N B → EffOut P w h hf a.eval o K
/-- What is told of operations is so. -/
structure TellQ (P : Program) (d : Nat) (q : Told) : Prop where
  pf : ∀ c, PF (q.X c) (q.ax c)
  ok : ∀ (o : Oper) (t : AF) (c : List AV) (h : AHeap) (p : Plan) (K : AV → AHeap → Prop), o.dst = some d → keyOf o t = some (q.key, c) → q.X c h = some p → p.runK h K → OpOk P o t h K
def TellOk (P : Program) (A : Ann) : Prop := ∀ d q, A d = some q → TellQ P d q
theorem TellOk.ann {P : Program} {A : Ann} (T : TellOk P A) : AnnOk A := fun d q e => (T d q e).pf

section
variable {P : Program} {A : Ann} {fl : List Nat} {ops : Array Oper} {t : AF} {h hf : AHeap} {o : Oper} {K : AF → AHeap → Prop} {w : World} {a : Act} {N B : Nat} {ro : Option Nat}

theorem runK_fin {X : AHeap → Option Plan} {ax : Nat → Prop} (F : PF X ax) {p : Plan} (hp : X h = some p) {K K' : AV → AHeap → Prop} (fin : ∃ N, ∀ b, N ≤ b → h b = none) (e : p.runK h K) (hk : ∀ v h', (∃ N, ∀ b, N ≤ b → h' b = none) → K v h' → K' v h') : p.runK h K' := by
  have sp := F.shape _ _ hp
  rw [runKP_iff sp] at e ⊢
  intro v δ oδ
  refine hk _ _ ?_ (e v δ oδ)
  obtain ⟨N, hN⟩ := fin
  cases δ with
  | none => exact ⟨N, hN⟩
  | some q =>
    refine ⟨N + q.1 + 1, fun b hb => ?_⟩
    have : b ≠ q.1 := by omega
    rw [app_ne (d := q.1) (c := q.2) this]
    exact hN b (by omega)

theorem bubbleL {i : Nat} {oi : Oper} (hA : AnnOk A) (hi : ops[i]? = some oi) : ∀ (A0 B : List Nat) {log : List Ent} {t : AF} {h : AHeap}, (∃ N, ∀ b, N ≤ b → h b = none) →
    (∀ x ∈ A0, ∃ ox, ops[x]? = some ox ∧ ox.apart ops oi = true ∧ ¬ anc ops ops.size i x = true) → runL P A fl ops K (A0 ++ i :: B) log t h → runI P A fl ops K i (A0 ++ B) log t h
  | [], B, log, t, h, fin, _, e => runL_runI e
  | x :: A0, B, log, t, h, fin, hB, e => by
    obtain ⟨ox, hx, h1, h3⟩ := hB x (by simp)
    have ih := fun {log t h} fin e => bubbleL (log := log) (t := t) (h := h) hA hi A0 B fin (fun y hy => hB y (by simp [hy])) e
    obtain ⟨o', ho', e⟩ := e
    rw [hx] at ho'; cases ho'
    split at e
    · next hv =>
      obtain ⟨e1, e2, e3⟩ := e
      refine swapH (A := A) (L1 := A0 ++ i :: B) hx hi h1 h3 hv (by simp) (fun y hy => by simp at hy ⊢; rcases hy with q | q <;> simp [q]) e2 e1 ?_
      split at e3
      · exact opRes_mono (opRes_fin hv e3) fun r h' k => ⟨k.2.1, ih k.1 k.2.2⟩
      · exact ih fin e3
      · exact e3
    · next hv =>
      obtain ⟨p, hp, hc, hr⟩ := e
      exact swapR hA fin hx hi h1 h3 hv hp hc (runK_fin (planD_PF hA) hp fin hr fun v h' fin' k => ih fin' k)

theorem Good.fin (G : Good w h hf a t N B) : ∃ N, ∀ b, N ≤ b → h b = none := ⟨w.heap.size, fun b hb => by
  cases hh : h b with
  | none => rfl
  | some c => have := G.rel.lt (AHeap.un_some hh); omega⟩

theorem effOp_sound (hdef : ∀ c, o.op ≠ .defer c) (hd : ∀ i, o.dst = some i → i < N) (G : Good w h hf a t N B) {K : AF → AHeap → Prop} (E : EffOut P w h hf a.eval o (fun r h' => K (t.putO o.dst r) h')) (Q : Exit → Act → World → Prop) :
    o.wpIn (fence ro) 0 P a w (To w h hf N B K) Q := by
  refine ⟨fun _ _ => trivial, ?_⟩
  rw [show (fence ro).round = ro from rfl, semAt_of hdef]
  obtain ⟨v, w', r, h', hrun, k, rv, D, R, x⟩ := E
  have T : To w h hf N B K (a.put o.dst v) w' := ⟨_, _, k, (G.step D R x).put hd rv, x⟩
  rcases hrun with hrun | ⟨hrun, rfl⟩
  · rw [hrun]; exact T
  · rw [hrun]; exact T

theorem part_un {G h : AHeap} (hp : Part G h) : ∃ rest : AHeap, Disj G rest ∧ h = G.un rest := by
  refine ⟨(fun b => match G b with | none => h b | some _ => none : AHeap), fun b => ?_, ?_⟩
  · cases hb : G b with
    | none => exact .inl rfl
    | some c => right; simp only [hb]
  · apply funext
    intro b
    show h b = _
    unfold AHeap.un
    cases hb : G b with
    | none => simp [hb]
    | some c => rw [hp b (by rw [hb]; simp), hb]

theorem told_op (hT : TellOk P A) {p : Plan} (e : toldV A o t h = some p) {K : AV → AHeap → Prop} (k : p.runK h K) : OpOk P o t h K := by
  unfold toldV at e
  split at e
  · next q hq =>
    unfold toldQ at hq
    split at hq
    · next kk c q' hk hA =>
      split at hq
      · next hkey =>
        cases hq
        cases hd : o.dst with
        | none => rw [hd] at hA; cases hA
        | some d =>
          rw [hd] at hA
          exact (hT d _ hA).ok o t c h p K hd (by rw [hk, hkey]) e k
      · cases hq
    · cases hq
  · cases e

theorem stepL_sound (G : Good w h hf a t N B) (hk : opsOk N ops = true) (hT : TellOk P A) {i : Nat} {L : List Nat} {log : List Ent} (e : runI P A fl ops K i L log t h) (Q : Exit → Act → World → Prop) (K' : Act → World → Prop)
    (hK : ∀ a' w', To w h hf N B (fun t' h' => ∃ log', runL P A fl ops K L log' t' h') a' w' → K' a' w') : wpOpIn (fence ro) 0 P ops Q i K' a w := by
  obtain ⟨o, hi, e⟩ := e
  obtain ⟨hd, hdef, _⟩ := opsOk_spec hk hi
  unfold wpOpIn
  rw [hi]
  have skip : wantedA ops t o = some false → (∃ log', runL P A fl ops K L log' (t.putO o.dst (.tup [])) h) → (if Region.wanted o (yielded ops a.tmps) = true then o.wpIn (fence ro) 0 P a w K' Q else (∀ f, o.about P w a.eval = some f → (fence ro).fn f) ∧ K' (a.put o.dst undef) w) := by
    intro hw e
    simp only [wanted_of G (guard_spec hk) hw, Bool.false_eq_true, if_false]
    exact ⟨fun _ _ => trivial, hK _ _ (To.refl (G.skip hd) e)⟩
  split at e
  · obtain ⟨_, e⟩ := e
    split at e
    · next hw =>
      simp only [wanted_of G (guard_spec hk) hw, if_true]
      exact Oper.wpIn_mono hK (opStep_sound G hd hdef (opRes_mono e fun r h' k => ⟨_, k.2⟩) Q)
    · next hw => exact skip hw ⟨_, e⟩
    · exact e.elim
  · obtain ⟨p, hp, _, hr⟩ := e
    unfold planD at hp
    split at hp
    · next hw =>
      simp only [wanted_of G (guard_spec hk) hw, if_true]
      split at hp
      · rcases told_op hT hp (runK_mono hr fun v h' k => (⟨_, k⟩ : ∃ log', runL P A fl ops K L log' (t.putO o.dst v) h')) with q | q
        · exact Oper.wpIn_mono hK (opStep_sound (K := fun t h => ∃ log', runL P A fl ops K L log' t h) G hd hdef q Q)
        · exact Oper.wpIn_mono hK (effOp_sound (K := fun t h => ∃ log', runL P A fl ops K L log' t h) hdef hd G (q w hf a N B G) Q)
      · refine Oper.wpIn_mono hK (effOp_sound hdef hd G (effK_sound G.disj G.rel G.repO hp ?_) Q)
        exact runK_mono hr fun v h' k => ⟨_, k⟩
    · next hw =>
      cases hp
      exact skip hw ⟨_, hr⟩
    · cases hp

theorem pairsD_at : ∀ (A0 : List Nat) (i : Nat) (B : List Nat), pairsD ops fl (A0 ++ i :: B) = true → ∀ x ∈ A0, anc ops ops.size i x = true ∨ ∃ ox oi, ops[x]? = some ox ∧ ops[i]? = some oi ∧ ox.apart ops oi = true
  | [], _, _, _, x, hx => by simp at hx
  | y :: A0, i, B, e, x, hx => by
    simp only [List.cons_append, pairsD, Bool.and_eq_true] at e
    rcases List.mem_cons.1 hx with rfl | hx
    · have := List.all_eq_true.1 e.1 i (by simp)
      simp only [Bool.or_eq_true] at this
      rcases this with h1 | h1
      · exact .inl h1
      · split at h1
        · next u v hu hv =>
          exact .inr ⟨u, v, hu, hv, h1⟩
        · cases h1
    · exact pairsD_at A0 i B e.2 x hx
theorem pairsD_drop : ∀ (A0 : List Nat) (i : Nat) (B : List Nat), pairsD ops fl (A0 ++ i :: B) = true → pairsD ops fl (A0 ++ B) = true
  | [], _, _, e => by simp only [List.nil_append, pairsD, Bool.and_eq_true] at e; exact e.2
  | b :: A0, i, B, e => by
    simp only [List.cons_append, pairsD, Bool.and_eq_true] at e ⊢
    refine ⟨?_, pairsD_drop A0 i B e.2⟩
    rw [List.all_eq_true] at e ⊢
    intro x hx
    exact e.1 x (by simp at hx ⊢; rcases hx with hx | hx <;> simp [hx])

theorem anyL_sound (hA : AnnOk A) (hk : opsOk N ops = true) (hT : TellOk P A) {Q : Exit → Act → World → Prop} : ∀ (fuel : Nat) (L : List Nat) (log : List Ent) (listed : Array Bool) (t : AF) (h : AHeap) (a : Act) (w : World),
    L.length = fuel → listed.size = ops.size → (∀ i, i < ops.size → (i ∈ L ↔ listed.getD i false = false)) → (∀ i ∈ L, i < ops.size) → L.Nodup → pairsD ops fl L = true →
    (∀ x ox, ops[x]? = some ox → listed.getD x false = true → ∀ e ∈ ox.after, Region.binds .any e = true → listed.getD e.on false = true) →
    OrdP ops (fun j => listed.getD j false = true) L →
    Good w h hf a t N B → runL P A fl ops K L log t h → (∀ a' w', To w h hf N B K a' w' → Q .normal a' w') → wpAnyIn (fence ro) 0 P .any ops Q fuel listed a w := by
  intro fuel
  induction fuel with
  | zero =>
    intro L log listed t h a w hl hsz hmem hlt hnd hp hdown hord G e hq
    have hL : L = [] := List.eq_nil_of_length_eq_zero hl
    subst hL
    refine ⟨?_, hq _ _ (To.refl G e)⟩
    rw [List.eq_nil_iff_forall_not_mem]
    intro j hj
    obtain ⟨h0, o, ho, _⟩ := mem_ready.1 hj
    have hjlt : j < ops.size := (Array.getElem?_eq_some_iff.1 ho).1
    have hjl : j < listed.size := by rw [hsz]; exact hjlt
    have : j ∈ ([] : List Nat) := (hmem j hjlt).2 (by simp [Array.getD_eq_getD_getElem?, hjl] at h0 ⊢; exact h0)
    simp at this
  | succ fuel ih =>
    intro L log listed t h a w hl hsz hmem hlt hnd hp hdown hord G e hq
    have conv : ∀ j, j < ops.size → (listed.getD j true = listed.getD j false) := by
      intro j hj
      have hjl : j < listed.size := by rw [hsz]; exact hj
      simp [Array.getD_eq_getD_getElem?, hjl]
    refine ⟨fun hr => ?_, fun i hi => ?_⟩
    · cases hL : L with
      | nil => rw [hL] at hl; simp at hl
      | cons x L' =>
        rw [hL] at hord
        obtain ⟨⟨ox, hox, hall⟩, _⟩ := hord
        have hx : x ∈ Region.ready .any ops listed := by
          have hxl := hlt x (by rw [hL]; simp)
          exact mem_ready.2 ⟨by rw [conv x hxl]; exact (hmem x hxl).1 (by rw [hL]; simp), ox, hox, hall⟩
        rw [hr] at hx; simp at hx
    · obtain ⟨h0, oi, hoi, hall⟩ := mem_ready.1 hi
      have hilt : i < ops.size := (Array.getElem?_eq_some_iff.1 hoi).1
      have hil : i < listed.size := by rw [hsz]; exact hilt
      rw [conv i hilt] at h0
      have hiL := (hmem i hilt).2 h0
      obtain ⟨A0, B', hAB⟩ := List.append_of_mem hiL
      rw [hAB] at e hp hord hnd
      have hsw : ∀ b ∈ A0, ∃ ob, ops[b]? = some ob ∧ ob.apart ops oi = true ∧ ¬ anc ops ops.size i b = true := by
        intro b hb
        have hna : ¬ anc ops ops.size i b = true := fun q => by
          have h1 := anc_listed hdown ops.size i b oi hoi hall q
          have hbl := hlt b (by rw [hAB]; simp [hb])
          have h2 := (hmem b hbl).1 (by rw [hAB]; simp [hb])
          rw [h1] at h2; cases h2
        rcases pairsD_at A0 i B' hp b hb with q | ⟨ob, oi', q1, q2, q3⟩
        · exact absurd q hna
        · rw [hoi] at q2; cases q2
          exact ⟨ob, q1, q3, hna⟩
      have e1 := bubbleL hA hoi A0 B' G.fin hsw e
      have hset : ∀ j, (listed.setIfInBounds i true).getD j false = true ↔ (listed.getD j false = true ∨ j = i) := by
        intro j
        by_cases hji : i = j
        · subst hji; simp [hil]
        · rw [getD_set_ne false hji]
          constructor
          · exact .inl
          · rintro (q | q)
            · exact q
            · exact absurd q.symm hji
      refine stepL_sound G hk hT e1 Q _ fun a' w' T => ?_
      obtain ⟨t', h', ⟨log', k⟩, G', s⟩ := T
      refine ih (A0 ++ B') log' (listed.setIfInBounds i true) t' h' a' w' ?_ (by simpa using hsz) (fun j hj => ?_) (fun j hj => hlt j ?_) ?_ (pairsD_drop A0 i B' hp) (fun x ox hox hx => ?_) ?_ G' k (fun a'' w'' T => hq _ _ (T.trans s))
      · rw [hAB] at hl; simp at hl ⊢; omega
      · have := hset j
        have hm := hmem j hj
        rw [hAB] at hm
        have hni : i ∉ A0 ++ B' := by
          have := hnd
          rw [List.nodup_append] at this
          simp at this ⊢
          obtain ⟨_, ⟨h2, _⟩, h3⟩ := this
          exact ⟨fun ha => (h3 i ha).1 rfl, h2⟩
        constructor
        · intro hjm
          have hne : j ≠ i := fun e => hni (e ▸ hjm)
          have h1 := hm.1 (by simp at hjm ⊢; rcases hjm with q | q <;> simp [q])
          rw [getD_set_ne false (Ne.symm hne)]; exact h1
        · intro hjf
          have hne : j ≠ i := fun e => by
            rw [(hset j).2 (.inr e)] at hjf; cases hjf
          rw [getD_set_ne false (Ne.symm hne)] at hjf
          have := hm.2 hjf
          simp at this ⊢
          rcases this with q | q | q
          · exact .inl q
          · exact absurd q hne
          · exact .inr q
      · rw [hAB]; simp at hj ⊢; rcases hj with q | q <;> simp [q]
      · rw [List.nodup_append] at hnd ⊢
        simp at hnd ⊢
        obtain ⟨n1, ⟨n2, n3⟩, n4⟩ := hnd
        exact ⟨n1, n3, fun b hb c hc => (n4 b hb).2 c hc⟩
      · intro ed hed hb
        rw [hset] at hx ⊢
        rcases hx with hx | hx
        · exact .inl (hdown x ox hox hx ed hed hb)
        · subst hx
          rw [hoi] at hox; cases hox
          exact .inl (hall ed hed hb)
      · exact OrdP.mono _ (fun j => (hset j).2) (OrdP.drop A0 i B' hord)

/-- **A region that draws its order**, with operations that write. -/
theorem awp_drawL {id : Nat} {Q : Exit → AF → AHeap → Prop} (hm : P.follows .mixedOrders = true) (fl ord : List Nat) (hk : opsOk N ops = true) (ho : ordD ops fl ord = true) (hT : TellOk P A)
    (e : runL P A fl ops (Q .normal) ord [] t h) : AWP P ro N (.region id ops true) Q t h := by
  intro hf B w a G
  simp only [ordD, Bool.and_eq_true] at ho
  obtain ⟨⟨⟨o1, o2⟩, o3⟩, o4⟩ := ho
  have o4 : ord.length = ops.size := by simpa using o4
  have G1 : Good { w with drawn := w.drawn + 1 } h hf a t N B :=
    ⟨G.disj, G.rel.drew, fun i => (G.frame i).ext (Ext.refl w (h.un hf)).drew, G.size, G.defers.ext (Ext.refl w (h.un hf)).drew, G.base⟩
  have s1 : Stp w h hf { w with drawn := w.drawn + 1 } h := ⟨(Ext.refl w (h.un hf)).drew, fun _ _ => rfl⟩
  have hA := hT.ann
  refine wpIn_region_any hm (anyL_sound (K := Q .normal) hA hk hT ops.size ord [] (Array.replicate ops.size false) t h a _ o4 (by simp) (fun i hi => ?_) (fun i hi => ?_) (ordOk_nodup _ _ o1).1 o2 (fun x ox hox hx => ?_) ?_ G1 e (fun a' w' T => T.trans s1))
  · have := List.all_eq_true.1 o3 i (by simpa using hi)
    simp at this
    simp [this, hi]
  · have key : ∀ (L done : List Nat), ordOk ops done L = true → ∀ i ∈ L, i < ops.size := by
      intro L
      induction L with
      | nil => intro done _ i hi; simp at hi
      | cons x L ih =>
        intro done e i hi
        simp only [ordOk, Bool.and_eq_true] at e
        rcases List.mem_cons.1 hi with rfl | hi
        · obtain ⟨⟨e1, _⟩, _⟩ := e
          split at e1
          · next o ho => exact (Array.getElem?_eq_some_iff.1 ho).1
          · cases e1
        · exact ih _ e.2 i hi
    exact key ord [] o1 i hi
  · have : x < ops.size := (Array.getElem?_eq_some_iff.1 hox).1
    simp [this] at hx
  · exact OrdP.mono _ (fun j hj => by simp at hj) (ordP_of ord [] o1)
end
end Go.AH
