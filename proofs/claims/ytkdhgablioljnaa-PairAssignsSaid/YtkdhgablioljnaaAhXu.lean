/-
  Regions that draw: steps of the evaluator.
-/
import Derived.Test.YtkdhgablioljnaaAhXq
set_option linter.unusedSimpArgs false
set_option linter.unusedVariables false
set_option linter.unusedSectionVars false
namespace Go.AH
open Go

section
variable {P : Program} {ρ0 ρ : Rn} {h0 h : XH} {G0 H1 H : AHeap} {t : Fr} {res : AV × XH} {call : XCall} {fl ms : List Nat} {ops : Array Oper} {A : Ann}

theorem live_iff {b : Nat} : h.live b = true ↔ h.get b ≠ .gone := by
  unfold XH.live
  cases h.get b <;> simp

theorem sep_ne (R0 : HRep ρ0 h0 G0) (R : HRep ρ h H1) (ag : Agr h0.n ρ0 ρ) {a c : Nat} (e : sep h0 h a c = true) : ρ.b a ≠ ρ.b c := by
  intro q
  unfold sep at e
  simp only [Bool.and_eq_true, Bool.or_eq_true, live_iff, Bool.not_eq_true'] at e
  obtain ⟨hne, e⟩ := e
  have hne : a ≠ c := fun q => by subst q; simp at hne
  rcases e with ⟨e1, e2⟩ | ⟨e1, e2⟩
  · have h1 := XH.get_lt e1
    have h2 := XH.get_lt e2
    rw [← (ag a h1).1, ← (ag c h2).1] at q
    exact hne (R0.inj _ _ e1 e2 q)
  · exact hne (R.inj _ _ e1 e2 q)

theorem offApp_no {t : AF} {op : Op} (hna : isApp op = false) : offApp t op = false := by
  unfold offApp
  split
  · cases hna
  · rfl
theorem plan_step {K : KV} {op : Op} (R : HRep ρ h H1) (pt : Part H1 H) (hc : ∀ f args ats, op ≠ .call { callee := .value f, args, argTypes := ats }) (hi : ∀ r m args ats, op ≠ .call { callee := .invoke r m, args, argTypes := ats }) (hf : ∀ f first caps, op = .makeFunc f first caps → ∃ g, f = .func g) (hna : isApp op = false)
    (e : xk P false call (XK.of P false op) t h K = some res) : ∃ p, planA P (renF ρ t.at) H op = some p ∧
      p.runK H fun v H' => ∃ ρ' r h' H1', Agr h.n ρ ρ' ∧ h.n ≤ h'.n ∧ HRep ρ' h' H1' ∧ Part H1' H' ∧ v = ren ρ' r ∧ K r h' = some res ∧ (wrB p = [] → (∀ b, H b ≠ none → H' b = H b) ∧ ∀ b, H b ≠ none → H1 b = none → H1' b = none) := by
  have q := (plan_iff (offApp_no hna)).2 (xk_sound R hc hi hf e)
  rw [onSome_iff] at q
  obtain ⟨p, hp, hr⟩ := q
  have pres := plan_pres hp
  have hpH : planA P (renF ρ t.at) H op = some p := by rw [← hp]; exact plan_cong fun b hb => pt b (pres b hb)
  refine ⟨p, hpH, (runK_iff (plan_shape hp)).2 fun v δ oδ => ?_⟩
  have up : ∀ {X Y : AHeap} {b : Nat} {c : Chunk}, (∀ b', b' ≠ b → X b' ≠ none → Y b' = X b') → Part (X.upd b c) (Y.upd b c) := by
    intro X Y b c hx b' hb'
    by_cases q : b' = b
    · subst q; rw [AHeap.upd_same, AHeap.upd_same]
    · rw [AHeap.upd_ne q] at hb' ⊢
      rw [AHeap.upd_ne q]
      exact hx b' q hb'
  have fr : ∀ {b : Nat}, H b = none → H1 b = none := fun {b} hb => by
    by_cases q : H1 b = none
    · exact q
    · rw [← pt b q]; exact hb
  have kp : ∀ {v : AV} {X Y : AHeap}, KP ρ h.n K res v X → Part X Y → (wrB p = [] → (∀ b, H b ≠ none → Y b = H b) ∧ ∀ b, H b ≠ none → H1 b = none → X b = none) → ∃ ρ' r h' H1', Agr h.n ρ ρ' ∧ h.n ≤ h'.n ∧ HRep ρ' h' H1' ∧ Part H1' Y ∧ v = ren ρ' r ∧ K r h' = some res ∧ (wrB p = [] → (∀ b, H b ≠ none → Y b = H b) ∧ ∀ b, H b ≠ none → H1 b = none → H1' b = none) := by
    rintro v X Y ⟨ρ', r, h', ag, hn, R', hv, eK⟩ hp hk
    exact ⟨ρ', r, h', X, ag, hn, R', hp, hv, eK, hk⟩
  unfold Plan.run Plan.heap at hr
  cases oδ with
  | ret h1 h2 =>
    rw [h1, h2] at hr
    change KP ρ h.n K res (p.v 0) H1 at hr
    exact kp hr pt fun _ => ⟨fun _ _ => rfl, fun _ _ q => q⟩
  | new c b h1 h2 hb =>
    rw [h1, h2] at hr
    change ∀ b', H1 b' = none → KP ρ h.n K res (p.v b') (H1.upd b' c) at hr
    refine kp (hr b (fr hb)) (up fun b' _ hb' => pt b' hb') fun _ => ⟨fun b' hb' => ?_, fun b' hb' q => ?_⟩
    · have : b' ≠ b := fun q => by subst q; exact hb' hb
      show (H.upd b c) b' = _
      rw [AHeap.upd_ne this]
    · have : b' ≠ b := fun q => by subst q; exact hb' hb
      rw [AHeap.upd_ne this]; exact q
  | put b c h1 h2 =>
    rw [h1, h2] at hr
    change KP ρ h.n K res (p.v 0) (H1.upd b c) at hr
    exact kp hr (up fun b' _ hb' => pt b' hb') fun q => by simp [wrB, h1] at q
  | inpl b c h1 h2 =>
    rw [h1, h2] at hr
    change ∀ b', (H1.del b) b' = none → KP ρ h.n K res (p.v b') ((H1.del b).upd b' c) at hr
    refine kp (hr b AHeap.del_same) (up fun b' hne hb' => ?_) fun q => by simp [wrB, h1] at q
    rw [AHeap.del_ne hne] at hb' ⊢
    exact pt b' hb'
  | move b c b' h1 h2 hb' =>
    rw [h1, h2] at hr
    change ∀ b', (H1.del b) b' = none → KP ρ h.n K res (p.v b') ((H1.del b).upd b' c) at hr
    refine kp (hr b' ?_) (up fun x hne hx => ?_) fun q => by simp [wrB, h1] at q
    · by_cases q : b' = b
      · rw [q]; exact AHeap.del_same
      · rw [AHeap.del_ne q]; exact fr hb'
    · by_cases q : x = b
      · rw [q, AHeap.del_same] at hx; exact absurd rfl hx
      · rw [AHeap.del_ne q] at hx ⊢
        exact pt x hx

/-! ### The log by names, and the log by blocks -/
def LogRel (ρ : Rn) (G0 : AHeap) (n : Nat) (xl : List XE) (log : List Ent) : Prop := ∀ e ∈ log, e.still ∨ ∃ x ∈ xl, x.i = e.i ∧ (∀ b, e.acc b → (x.base = true ∧ G0 b ≠ none) ∨ ∃ a ∈ x.tch, a < n ∧ ρ.b a = b) ∧ (∀ b ∈ e.wr, ∃ a ∈ x.wr, a < n ∧ ρ.b a = b) ∧ (e.fr = true → x.fr = true)
theorem LogRel.mono {ρ' : Rn} {n n' : Nat} {xl : List XE} {log : List Ent} (r : LogRel ρ G0 n xl log) (ag : Agr n ρ ρ') (hn : n ≤ n') : LogRel ρ' G0 n' xl log := by
  intro e he
  rcases r e he with q | ⟨x, hx, h1, h2, h3, h4⟩
  · exact .inl q
  · refine .inr ⟨x, hx, h1, fun b hb => ?_, fun b hb => ?_, h4⟩
    · rcases h2 b hb with q | ⟨a, ha, hl, q⟩
      · exact .inl q
      · exact .inr ⟨a, ha, by omega, by rw [← (ag a hl).1]; exact q⟩
    · obtain ⟨a, ha, hl, q⟩ := h3 b hb
      exact ⟨a, ha, by omega, by rw [← (ag a hl).1]; exact q⟩
theorem LogRel.add {n : Nat} {xl : List XE} {log : List Ent} {e : Ent} {T W : List Nat} {fr : Bool} (r : LogRel ρ G0 n xl log) (hT : ∀ b, e.acc b → ∃ a ∈ T, a < n ∧ ρ.b a = b) (hW : ∀ b ∈ e.wr, ∃ a ∈ W, a < n ∧ ρ.b a = b) (hf : e.fr = true → fr = true) : LogRel ρ G0 n (addE e.i T W fr xl) (e :: log) := by
  intro x hx
  rcases List.mem_cons.1 hx with rfl | hx
  · unfold addE
    split
    · next q =>
      simp only [Bool.and_eq_true, List.isEmpty_iff, Bool.not_eq_true'] at q
      obtain ⟨⟨q1, q2⟩, q3⟩ := q
      refine .inl ⟨fun b hb => ?_, ?_, ?_⟩
      · obtain ⟨a, ha, _⟩ := hT b hb
        rw [q1] at ha; cases ha
      · cases hq : x.wr with
        | nil => rfl
        | cons b l => obtain ⟨a, ha, _⟩ := hW b (by rw [hq]; simp); rw [q2] at ha; cases ha
      · cases hq : x.fr with
        | false => rfl
        | true => have := hf hq; rw [q3] at this; cases this
    · exact .inr ⟨_, List.mem_cons_self, rfl, fun b hb => .inr (hT b hb), hW, hf⟩
  · rcases r x hx with q | ⟨y, hy, q⟩
    · exact .inl q
    · refine .inr ⟨y, ?_, q⟩
      unfold addE
      split
      · exact hy
      · exact List.mem_cons_of_mem _ hy
theorem clr_ok {i : Nat} {xl : List XE} {log : List Ent} {T W : List Nat} {acc : Nat → Prop} {p : Plan} (hms : MasksOk ops ms) (R0 : HRep ρ0 h0 G0) (R : HRep ρ h H1) (ag : Agr h0.n ρ0 ρ) (lg : LogRel ρ G0 h.n xl log) (hT : ∀ b, acc b → ∃ a ∈ T, ρ.b a = b) (hW : ∀ b ∈ wrB p, ∃ a ∈ W, ρ.b a = b)
    (eC : xl.all (xclr h0 h (ms.getD i 0) T W) = true) : ∀ x ∈ log, clear ops i acc p x := by
  intro x hx
  rcases lg x hx with q | ⟨y, hy, y1, y2, y3, _⟩
  · exact .inr ⟨fun b _ => q.1 b, by rw [q.2.1]; simp⟩
  · have hc := List.all_eq_true.1 eC y hy
    unfold xclr at hc
    simp only [Bool.or_eq_true, Bool.and_eq_true] at hc
    rcases hc with hc | ⟨hc1, hc2⟩
    · exact .inl (by rw [← y1]; exact hms.anc hc)
    · refine .inr ⟨fun b hb hb2 => ?_, fun b hb hb2 => ?_⟩
      · obtain ⟨a, ha, rfl⟩ := hW b hb
        rcases y2 _ hb2 with ⟨z1, z2⟩ | ⟨c, hcx, _, z2⟩
        · rw [z1] at hc1
          simp only [List.isEmpty_iff] at hc1
          rw [hc1] at ha; cases ha
        · cases hyb : y.base with
          | true => rw [hyb] at hc1; simp only [List.isEmpty_iff] at hc1; rw [hc1] at ha; cases ha
          | false =>
            rw [hyb] at hc1
            exact sep_ne R0 R ag (List.all_eq_true.1 (List.all_eq_true.1 hc1 a ha) c hcx) z2.symm
      · obtain ⟨a, ha, _, rfl⟩ := y3 b hb
        obtain ⟨c, hcx, z⟩ := hT _ hb2
        exact sep_ne R0 R ag (List.all_eq_true.1 (List.all_eq_true.1 hc2 a ha) c hcx) z.symm

/-! ### Blocks that were appended to -/
def GhOk (ρ : Rn) (h : XH) (H1 H : AHeap) (gs : Gh) : Prop := ∀ g ∈ gs, g.1 < h.n ∧ g.2.1 < h.n ∧ g.2.2.2.wf 11 ∧ AV.bdL h.n (g.2.2.2.take g.2.2.1 0) = true ∧
  (∃ cs, H (ρ.b g.1) = some (.cells cs) ∧ g.2.2.1 ≤ cs.length ∧ cs.take g.2.2.1 = (g.2.2.2.take g.2.2.1 0).map (ren ρ)) ∧ (H1 (ρ.b g.1) = none ∨ ρ.b g.1 = ρ.b g.2.1)
theorem GhOk.nil {ρ : Rn} {h : XH} {H1 H : AHeap} : GhOk ρ h H1 H [] := fun g hg => by cases hg
theorem GhOk.step {ρ' : Rn} {h' : XH} {H1' H' : AHeap} {gs : Gh} (G : GhOk ρ h H1 H gs) (ag : Agr h.n ρ ρ') (hn : h.n ≤ h'.n) (k1 : ∀ b, H b ≠ none → H' b = H b) (k2 : ∀ b, H b ≠ none → H1 b = none → H1' b = none) : GhOk ρ' h' H1' H' gs := by
  intro g hg
  obtain ⟨q1, q2, q3, q4, ⟨cs, c1, c2, c3⟩, q6⟩ := G g hg
  have e1 := (ag g.1 q1).1
  have e2 := (ag g.2.1 q2).1
  have hne : H (ρ.b g.1) ≠ none := by rw [c1]; simp
  refine ⟨by omega, by omega, q3, bdL_mono hn _ q4, ⟨cs, by rw [← e1, k1 _ hne]; exact c1, c2, by rw [c3]; exact map_agr ag q4⟩, ?_⟩
  rw [← e1, ← e2]
  exact q6.imp (k2 _ hne) id
theorem gh_src {gs : Gh} {b m n j : Nat} {tr : Tr AV} (R : HRep ρ h H1) (pt : Part H1 H) (G : GhOk ρ h H1 H gs)
    (e : (match h.get b with | .cells m tr => some (b, m, tr) | _ => (match gs.find? (fun g : Nat × Nat × Nat × Tr AV => Nat.beq g.1 b) with | some g => (match h.get g.2.1 with | .cells _ _ => some (g.2.1, g.2.2.1, g.2.2.2) | _ => none) | none => none)) = some (j, m, tr)) (hn : n ≤ m) (hsh : h.sh.contains b = false) :
    h.get j ≠ .gone ∧ b < h.n ∧ tr.wf 11 ∧ AV.bdL h.n (tr.take n 0) = true ∧ (∃ cs, H (ρ.b b) = some (.cells cs) ∧ n ≤ cs.length ∧ cs.take n = (tr.take n 0).map (ren ρ)) ∧ (H1 (ρ.b b) = none ∨ ρ.b b = ρ.b j) := by
  have sub : AV.bdL h.n (tr.take m 0) = true → AV.bdL h.n (tr.take n 0) = true := fun q => by
    rw [bdL_iff] at q ⊢
    intro a ha
    refine q a ?_
    rw [← Tr.take_take tr m 0 n hn] at ha
    exact List.mem_of_mem_take ha
  split at e
  · next m' tr' hg =>
    cases e
    obtain ⟨c1, _, c3, c4⟩ := cells_at R hg
    rw [R.s0 b (XH.get_lt (by rw [hg]; simp)) hsh, List.nil_append] at c1
    refine ⟨by rw [hg]; simp, XH.get_lt (by rw [hg]; simp), c3, sub c4, ⟨_, (pt _ (by rw [c1]; simp)).trans c1, by simp [Tr.take_length, hn], ?_⟩, .inr rfl⟩
    rw [← List.map_take, Tr.take_take _ _ _ _ hn]
  · split at e
    · next g hg =>
      split at e
      · next hj =>
        cases e
        have hb : g.1 = b := by have := List.find?_some hg; simpa using this
        obtain ⟨q1, q2, q3, q4, ⟨cs, c1, c2, c3⟩, q6⟩ := G g (List.mem_of_find?_eq_some hg)
        rw [hb] at c1 q1 q6
        refine ⟨by rw [hj]; simp, q1, q3, sub q4, ⟨cs, c1, by omega, ?_⟩, q6⟩
        rw [← Tr.take_take _ _ _ _ hn, List.map_take, ← c3, List.take_take, Nat.min_eq_left hn]
      · cases e
    · cases e
theorem appXs_part {es : Nat} {x : AV} {q : Nat × List AV} (e : appXs H1 es x = some q) (pt : Part H1 H) : appXs H es x = some q := by
  rw [← e]
  refine appXs_cong fun b hb => pt b fun hn => ?_
  cases x <;> simp [blkS] at hb
  subst hb
  simp [appXs, hn] at e
theorem names_lt {l : List Operand} (F : FrOk h.n t) : ∀ a ∈ namesOf (l.map .of) t, a < h.n := by
  intro a ha
  unfold namesOf at ha
  rw [List.mem_flatMap] at ha
  obtain ⟨x, hx, ha⟩ := ha
  obtain ⟨y, _, rfl⟩ := List.mem_map.1 hx
  rw [ev_of] at ha
  have hb : (evalA t.at y).bd h.n = true := by
    cases y with
    | tmp i => exact F.2 i
    | const v => exact bd_cval v
    | global v => rfl
    | func f => rfl
  generalize evalA t.at y = v at ha hb
  cases v <;> simp [blk] at ha <;> subst ha <;> simpa [AV.bd] using hb

/-! ### What is told of a call at the first heap -/
noncomputable def callTold (G0 : AHeap) (c0 : List AV) (v : AV) : Told where
  key := none
  X := fun c h => open Classical in if c = c0 ∧ Part G0 h then some (.ret v) else none
  ax := fun _ b => G0 b ≠ none
theorem call_tell {fv v : AV} {args : List AV} (d : Nat) (fin : ∃ N, ∀ b, N ≤ b → G0 b = none) (c : ACallV P fv args G0 fun r' H' => r' = v ∧ H' = G0) : TellQ P d (callTold G0 (fv :: args) v) := by
  constructor
  · intro c0
    constructor
    · intro h p e
      simp only [callTold] at e
      split at e
      · cases e; exact .inl rfl
      · cases e
    · intro h h' e
      have : Part G0 h ↔ Part G0 h' := ⟨fun q b hb => by rw [← e b hb]; exact q b hb, fun q b hb => by rw [e b hb]; exact q b hb⟩
      simp only [callTold]
      by_cases q : c0 = fv :: args ∧ Part G0 h
      · rw [if_pos q, if_pos ⟨q.1, this.1 q.2⟩]
      · rw [if_neg q, if_neg fun r => q ⟨r.1, this.2 r.2⟩]
    · intro h p e b hb
      simp only [callTold] at e
      split at e
      · next q => rw [q.2 b hb]; exact hb
      · cases e
    · obtain ⟨N, hN⟩ := fin
      exact ⟨N, fun b hb q => q (hN b hb)⟩
  · intro o t c0 h p K _ hk hp hr
    simp only [callTold] at hp
    split at hp
    · next q =>
      cases hp
      obtain ⟨rfl, hpart⟩ := q
      obtain ⟨dst, op, ty, pos, af, g⟩ := o
      unfold keyOf at hk
      simp only [callTold] at hk
      split at hk
      · next f args' ats ho =>
        simp only at ho
        subst ho
        simp only [Option.some.injEq, Prod.mk.injEq, true_and, List.cons.injEq] at hk
        obtain ⟨h1, h2⟩ := hk
        left
        show ACallV P (evalA t f) (args'.toList.map (evalA t)) h K
        rw [h1, h2]
        obtain ⟨rest, D, hH⟩ := part_un hpart
        have c2 := ACallV.frame c D
        rw [← hH] at c2
        refine ACallV.mono c2 ?_
        rintro r H' ⟨h1', rfl, D', rfl, rfl⟩
        rw [← hH]
        exact hr
      · simp at hk
      · cases hk
    · cases hp

/-! ### Fresh blocks that come later -/
theorem news_ok {i : Nat} {is : List Nat} {nw : List Op} (hms : MasksOk ops ms) (e : newsOf P fl ops ms i is = some nw) (hd : nw.all (newPlan P t.at) = true) : ∀ j ∈ is, anc ops ops.size j i = true ∨ NewJ P fl ops is j (renF ρ t.at) := by
  intro j hj
  unfold newsOf at e
  split at e
  · next hall =>
    cases e
    cases htb : tb (ms.getD j 0) i with
    | true => exact .inl (hms.anc htb)
    | false =>
      right
      have := List.all_eq_true.1 hall j (List.mem_filter.2 ⟨hj, by rw [htb]; rfl⟩)
      split at this
      · next o ho =>
        simp only [Bool.and_eq_true, Bool.not_eq_true'] at this
        obtain ⟨⟨h1, h2⟩, h3⟩ := this
        unfold newOp at h1
        simp only [Bool.and_eq_true, Option.isNone_iff_eq_none] at h1
        have hm : o.op ∈ is.filterMap fun j => match tb (ms.getD j 0) i with | true => none | false => (ops[j]?).map (·.op) := List.mem_filterMap.2 ⟨j, hj, by rw [htb, ho]; rfl⟩
        obtain ⟨p, hp⟩ := newPlan_ok (ρ := ρ) (h := AHeap.empty) (List.all_eq_true.1 hd _ hm)
        refine ⟨o, p, ho, h1.1, h2, h1.2, hp, fun k hk x hx d hxd => ?_⟩
        have := List.all_eq_true.1 h3 k hk
        rw [hx] at this
        simp only [hxd, Bool.not_eq_true', List.contains_eq_mem, decide_eq_false_iff_not] at this
        exact this
      · cases this
  · cases e
end
end Go.AH
